/- What is proved here: a part of the proof that the statement of this claim holds (several texts of wip/, laid together). -/
import Derived.Test.YtdmheolglokabaaGreatV2
import Derived.HandedShaped
import Derived.ProofKit
import Derived.KernelRfl
namespace Go.Proofs.YtdmheolglokabaaGreat.E
open Go
set_option linter.unusedVariables false
set_option maxRecDepth 100000
set_option linter.unusedSimpArgs false
set_option linter.unusedSectionVars false
noncomputable section
section
variable {C:Cfg} {w0 w w1:World} {S0:zbn} {U:Nat->Prop} {st st1:St} {E E1:Env} {ts:Array Value} {sv:List (Array Value)}
variable {ops:Array Oper} {b:Bool} {base:Nat} {cl:List (List Nat)} {ss:List Step} {st0:St}
theorem zGF {w w':World}(h:w'.heap=w.heap):∀(p:List (Int×Nat)) (t:Ty) (v:Value),zbi w' t v p=zbi w t v p
 | [],t,v=>by simp only [zbi]
 | (i,j) :: p,t,v=>by
  have hc:∀a,w'.cell? a=w.cell? a:=fun a=>by simp only [World.cell?,h]
  have ih:=zGF h p;cases v with
  | slice a len cap=>cases a<;>simp only [zbi,hc,ih]
  | _=>simp only [zbi]
theorem Sim.heap (hS:Sim w0 S0 U st E ts sv w){w':World}(h1:w'.heap=w.heap)(h2:w'.os=w.os)(h3:w'.tape=w.tape)(h4:w'.output=w.output):Sim w0 S0 U st E ts sv w':=by
 have T:Trans st E w st E w' (fun _=>True):=⟨fun r _ R h=>⟨R,h,rfl,fun p u hu=>by rw [zGF h1];exact hu⟩,fun l _ cs h=>⟨⟨cs,h⟩,rfl⟩,rfl⟩
 have hM:=hS.mem;refine ⟨⟨by rw [h2];exact hM.os,by rw [h3];exact hM.tape,by rw [h4];exact hM.output,by rw [h1];exact hM.size,fun b hb hn=>by rw [h1];exact hM.keep b hb hn,
  fun r R h=>(hM.rep r R h).frame (fun x _=>by rw [h1]),fun r R h x hx=>by rw [h1];exact hM.rlt r R h x hx,hM.mine,hM.apart,fun l cs hl=>?_,hM.linj,hM.lro,hM.epo,hM.κ⟩,hS.ids,
  Slots.tr T (fun _ _ _ _=>trivial) hS.tm,Stack.tr T (fun _ _ _ _ _ _=>trivial) hS.stk⟩
 obtain ⟨g1,vals,e,g2,g3,g4⟩:=hM.loc l cs hl;exact ⟨g1,vals,e,by rw [h1];exact g2,g3,fun j c u hc hu=>⟨(g4 j c u hc hu).1,VA.tr T (fun _ _=>trivial) (g4 j c u hc hu).2⟩⟩
theorem Sim.blind (hS:Sim w0 S0 U st E ts sv w)(c:Bool)(n:Nat):Sim w0 S0 U { st with nid:=n,ep:=if c then st.ep+1 else st.ep } E ts sv w:=by
 have h:=hS.nid n;cases c with
 | false=>exact h
 | true =>
  refine h.fewer (fun _=>rfl) (fun _=>rfl) rfl (fun r R hR=>?_) (fun r R hR=>⟨R,hR⟩) (fun r R e hR he=>?_)
  ·obtain ⟨g1,g2⟩:=zbL hR;have hn:R.ep=none:=by
    rcases g2 with g2|g2
    ·exact g2
    ·have:=hS.mem.epo r R _ g1 g2;simp only [if_true] at this;omega
   show St.root { st with nid:=n } r=some R
   unfold St.root;have g3:zx ({ st with nid:=n }:St).ro r=some R:=g1;rw [g3];simp only [hn]
  ·have:=hS.mem.epo r R e hR he
   show e<=st.ep+1
   omega
theorem cnt_lt {p q:Nat->Bool}:∀(l:List Nat),(∀x∈l,q x=true->p x=true)->(∃x∈l,p x=true/\q x=false)->l.countP q<l.countP p
 | [],_,h=>by obtain ⟨x,hx,_⟩:=h;cases hx
 | a :: l,h1,h2=>by
  have hle:∀(m:List Nat),(∀x∈m,q x=true->p x=true)->m.countP q<=m.countP p:=fun m hm=>List.countP_mono_left hm;have hm:=hle l (fun x hx=>h1 x (by simp [hx]))
  simp only [List.countP_cons];cases hq:q a with
  | true =>
   rw [h1 a (by simp) hq]
   have:l.countP q<l.countP p:=cnt_lt l (fun x hx=>h1 x (by simp [hx])) (by
    obtain ⟨x,hx,g1,g2⟩:=h2;rcases List.mem_cons.1 hx with rfl|hx
    ·rw [hq] at g2;cases g2
    ·exact ⟨x,hx,g1,g2⟩)
   simp only [if_true];omega
  | false =>
   cases hp:p a with
   | true=>simp;omega
   | false =>
    have:l.countP q<l.countP p:=cnt_lt l (fun x hx=>h1 x (by simp [hx])) (by
     obtain ⟨x,hx,g1,g2⟩:=h2;rcases List.mem_cons.1 hx with rfl|hx
     ·rw [hp] at g1;cases g1
     ·exact ⟨x,hx,g1,g2⟩)
    simp;omega
def left (n:Nat)(listed:Array Bool):Nat:=(List.range n).countP fun i=>!listed.getD i true
theorem zFH {listed:Array Bool}{n i:Nat}(hi:i<n)(hl:listed.getD i true=false):left n (listed.setIfInBounds i true)<left n listed:=by
 unfold left;have hlt:i<listed.size:=by
  rcases Nat.lt_or_ge i listed.size with h|h
  ·exact h
  ·simp [Array.getElem?_eq_none h] at hl
 refine cnt_lt _ (fun x _ hx=>?_) ⟨i,List.mem_range.2 hi,by rw [hl];rfl,by simp [hlt]⟩
 by_cases hxi:i=x
 ·subst hxi;simp [hlt] at hx
 ·rwa [getD_set_ne true hxi] at hx
structure Waits (md:Region.Mode) (ops:Array Oper) (cl:List (List Nat)):Prop where
 at':∀i,i<ops.size->cl.getD i []=waits ops (cl.take i) i
 lt:∀i,i<ops.size->∀j∈cl.getD i [],j<i
 sub:∀e,Region.binds .any e=true->Region.binds md e=true
 rk:∃rk:Nat->Nat,∀(i:Nat) (o:Oper),ops[i]?=some o->∀e∈o.after,Region.binds md e=true->e.on<ops.size/\rk e.on<rk i
variable {md:Region.Mode}
theorem z0U (hat:∀i,i<ops.size->cl.getD i []=waits ops (cl.take i) i){i:Nat}{o:Oper}(ho:ops[i]?=some o){e:Edge}(he:e∈o.after)(hb:Region.binds .any e=true):e.on∈cl.getD i []:=by
 have hi:=(Array.getElem?_eq_some_iff.1 ho).1;rw [hat i hi];simp only [waits,ho];exact List.mem_flatMap.2 ⟨e,by simpa using he,by rw [if_pos hb];exact List.mem_cons_self⟩
theorem zOi {l:List (List Nat)}{i j k:Nat}(h:k∈(l.take i).getD j []):k∈l.getD j []:=by
 rw [List.getD_eq_getElem?_getD,List.getElem?_take] at h;rw [List.getD_eq_getElem?_getD];split at h
 ·exact h
 ·simp at h
theorem Waits.inv (W:Waits md ops cl){i j:Nat}{o:Oper}(ho:ops[i]?=some o)(hj:j∈cl.getD i []):∃e∈o.after,Region.binds .any e=true/\(j=e.on\/j∈cl.getD e.on []):=by
 have hi:=(Array.getElem?_eq_some_iff.1 ho).1;rw [W.at' i hi] at hj;simp only [waits,ho] at hj;obtain ⟨e,he,hj⟩:=List.mem_flatMap.1 hj;split at hj
 ·rename_i hb;refine ⟨e,by simpa using he,hb,?_⟩
  rcases List.mem_cons.1 hj with h|h
  ·exact .inl h
  ·exact .inr (zOi h)
 ·cases hj
def XL (listed:Array Bool)(k:Nat):Bool:=listed.getD k false
theorem zD2 (W:Waits md ops cl){listed:Array Bool}(hX:ziw cl (XL listed)){i:Nat}(hi:i∈Region.ready md ops listed):∀j∈cl.getD i [],XL listed j=true:=by
 obtain ⟨_,o,ho,hall⟩:=mem_ready.1 hi;intro j hj;obtain ⟨e,he,hb,h|h⟩:=W.inv ho hj
 ·subst h;exact hall e he (W.sub e hb)
 ·exact hX _ (hall e he (W.sub e hb)) j h
theorem least {p:Nat->Prop}:∀n,p n->∃m,m<=n/\p m/\∀j,j<m->¬ p j:=by
 intro n
 induction n using Nat.strongRecOn with
 | _ n ih =>
  intro hp
  by_cases h:∃j,j<n/\p j
  ·obtain ⟨j,h1,h2⟩:=h;obtain ⟨m,g1,g2,g3⟩:=ih j h1 h2;exact ⟨m,by omega,g2,g3⟩
  ·exact ⟨n,Nat.le_refl _,hp,fun j hj hpj=>h ⟨j,hj,hpj⟩⟩
theorem zIm (W:Waits md ops cl){listed:Array Bool}(hsz:listed.size=ops.size){i0:Nat}(hi0:i0<ops.size)(hl0:listed.getD i0 true=false):∃i,i∈Region.ready md ops listed:=by
 obtain ⟨rk,hrk⟩:=W.rk;obtain ⟨n,_,⟨i,hi,hl,hn⟩,hmin⟩:=least (p:=fun n=>∃i,i<ops.size/\listed.getD i true=false/\rk i=n) (rk i0) ⟨i0,hi0,hl0,rfl⟩;refine ⟨i,mem_ready.2 ⟨hl,ops[i],by simp [hi],fun e he hb=>?_⟩⟩
 obtain ⟨h1,h2⟩:=hrk i ops[i] (by simp [hi]) e he hb
 cases h:listed.getD e.on false with
 | true=>rfl
 | false =>
  exfalso;refine hmin (rk e.on) (by omega) ⟨e.on,h1,?_,rfl⟩
  have hlt:e.on<listed.size:=by omega
  simp only [Array.getD,hlt,dif_pos] at h ⊢;exact h
theorem zrf {listed:Array Bool}{i:Nat}(hi:i<listed.size):XL listed i=listed.getD i true:=by
 simp [XL,hi]
theorem zGh {listed:Array Bool}{i:Nat}(hi:i<listed.size)(k:Nat):XL (listed.setIfInBounds i true) k=(XL listed k||k==i):=by
 unfold XL
 by_cases h:i=k
 ·subst h;simp [hi]
 ·rw [getD_set_ne false h];have:(k==i)=false:=by simp;omega
  rw [this,Bool.or_false]
theorem zXy {P:Program}{Q Q':Exit->Act->World->Prop}(hQ:∀e,e≠.normal->∀a w,Q' e a w->Q e a w){i:Nat}{K:Act->World->Prop}{a:Act}{w:World}(h:wpOp P ops Q' i K a w):wpOp P ops Q i K a w:=by
 have hlo:LetsOut Q'->LetsOut Q:=by
  rintro ⟨a,w,h⟩
  exact ⟨a,w,hQ _ (by simp) a w h⟩
 unfold wpOp at h ⊢;split
 ·rename_i hn;rw [hn] at h;exact h
 ·rename_i o ho;simp only [ho] at h;split
  ·rename_i hw;rw [if_pos hw] at h;rcases h with h|⟨h1,h2⟩
   ·left
    unfold Oper.wp at *;generalize (execOp a.eval o).run P w=r at *;cases r with
    | ok n w' =>
     cases n<;>simp only [Oper.upon] at h ⊢ <;>
      first
       | exact h
       | exact h.mono (fun e w'' he=>by
        cases e with
        | returned v=>exact he
        | panicked c=>exact hQ _ (by simp) _ _ he
        | outgrown=>exact hlo he)
    | halt x w' =>
     cases x<;>simp only [Oper.upon] at h ⊢ <;> first|exact hQ _ (by simp) _ _ h|exact h
   ·exact .inr ⟨h1,hlo h2⟩
  ·rename_i hw;rw [if_neg hw] at h;exact h
theorem zp7 (W:Waits md ops cl){listed:Array Bool}{m:Nat}(hsz:listed.size=ops.size)(hl:∀i,i<ops.size->listed.getD i true=decide (i<m)):ziw cl (XL listed):=by
 intro k hk j hj;have hks:k<ops.size:=by
  rcases Nat.lt_or_ge k listed.size with h|h
  ·omega
  ·simp [XL,Array.getElem?_eq_none h] at hk
 rw [zrf (by omega),hl k hks] at hk
 simp at hk;have:=W.lt k hks j hj;rw [zrf (by omega),hl j (by omega)]
 simp;omega
theorem zZH {P:Program}{Q:Exit->Act->World->Prop}{fuel:Nat}{listed:Array Bool}{a:Act}{w:World}(hl:∀i,i<ops.size->listed.getD i true=true)(h:Q .normal a w):wpAny P md ops Q fuel listed a w:=by
 have hr:Region.ready md ops listed=[]:=by
  refine List.eq_nil_iff_forall_not_mem.2 (fun i hi=>?_);obtain ⟨h0,o,ho,_⟩:=mem_ready.1 hi;have hi:=(Array.getElem?_eq_some_iff.1 ho).1;rw [hl i hi] at h0;cases h0
 cases fuel with
 | zero=>exact ⟨hr,h⟩
 | succ fuel=>exact ⟨fun _=>h,fun i hi=>by rw [hr] at hi;cases hi⟩
theorem zVm (W:Waits md ops cl){P:Program}{Q:Exit->Act->World->Prop}{fuel m:Nat}{listed:Array Bool}{a:Act}{w:World}(hsz:listed.size=ops.size)(hm:m<ops.size)(hp:Pinned ops.size cl m)(hl:∀i,i<ops.size->listed.getD i true=decide (i<m))(hf:left ops.size listed<=fuel)(h:∀fl l',l'.size=ops.size->(∀i,i<ops.size->l'.getD i true=decide (i<m+1))->left ops.size l'<=fl->fuel=fl+1->l'=listed.setIfInBounds m true->wpOp P ops Q m (wpAny P md ops Q fl l') a w):wpAny P md ops Q fuel listed a w:=by
 have hu:listed.getD m true=false:=by rw [hl m hm];simp
 obtain ⟨i1,hmr⟩:=zIm W hsz hm hu;have hlt:=zFH (listed:=listed) (n:=ops.size) (i:=m) hm hu;obtain ⟨fuel,rfl⟩:∃f,fuel=f+1:=⟨fuel-1,by omega⟩
 refine ⟨fun h=>(by rw [h] at hmr;cases hmr),fun i hi=>?_⟩
 obtain ⟨h0,o,ho,_⟩:=mem_ready.1 hi;have his:=(Array.getElem?_eq_some_iff.1 ho).1;rw [hl i his] at h0;simp only [decide_eq_false_iff_not,Nat.not_lt] at h0;have hieq:i=m:=by
  by_cases hne:i=m
  ·exact hne
  ·exfalso;have:=zD2 W (zp7 W hsz hl) hi m (hp.wait i (by omega) his)
   rw [zrf (by omega),hu] at this
   cases this
 subst hieq;refine h fuel _ (by simp [hsz]) (fun k hk=>?_) (by omega) rfl rfl
 by_cases hik:i=k
 ·subst hik;simp [hsz,his]
 ·rw [getD_set_ne true hik,hl k hk]
  congr 1
  simp only [eq_iff_iff];omega
theorem zO2 {a T:Nat}(W:Waits md ops cl)(hTs:T<=ops.size)(hpin:T<ops.size->Pinned ops.size cl T){P:Program}{Q:Exit->Act->World->Prop}{J:(Nat->Bool)->Env->Array Value->World->Prop}(hcongr:∀X Y E ts w,(∀k,a<=k->k<T->X k=Y k)->J X E ts w->J Y E ts w)(hstep:∀X Y i,ziw cl X->a<=i->i<T->X i=false->(∀j∈cl.getD i [],X j=true)->(∀k,Y k=(X k||k==i))->∀E ts w,J X E ts w->∀K:Act->World->Prop,(∀E' ts' w',J Y E' ts' w'->K { tmps:=ts',defers:=[] } w')->wpOp P ops Q i K { tmps:=ts,defers:=[] } w)(htail:∀(fl:Nat) (l':Array Bool) (E':Env) (ts':Array Value) (w':World),l'.size=ops.size->(∀i,i<ops.size->l'.getD i true=decide (i<T))->left ops.size l'<=fl->J (fun _=>true) E' ts' w'->wpAny P md ops Q fl l' { tmps:=ts',defers:=[] } w') :
 ∀(fuel:Nat) (listed:Array Bool) (E:Env) (ts:Array Value) (w:World),listed.size=ops.size->ziw cl (XL listed)->(∀i,i<a->XL listed i=true)->(∀m,T<=m->m<ops.size->XL listed m=false)->left ops.size listed<=fuel ->
  J (XL listed) E ts w->wpAny P md ops Q fuel listed { tmps:=ts,defers:=[] } w
 | fuel,listed,E,ts,w,hsz,hX,hbel,hlow,hf,hS=>by
  by_cases hall:∀i,i<T->XL listed i=true
  ·have hl:∀i,i<ops.size->listed.getD i true=decide (i<T):=by
    intro i hi;rw [<- zrf (by omega)]
    by_cases h:i<T
    ·rw [hall i h];simp [h]
    ·rw [hlow i (by omega) hi];simp [h]
   exact htail fuel listed E ts w hsz hl hf (hcongr _ _ E ts w (fun k _ hk=>hall k hk) hS)
  ·have hex:∃i,i<T/\XL listed i=false:=by
    refine Classical.byContradiction (fun hn=>hall (fun i hi=>?_));cases h:XL listed i with
    | true=>rfl
    | false=>exact absurd ⟨i,hi,h⟩ hn
   obtain ⟨i0,hi0,hi0X⟩:=hex;have hu0:listed.getD i0 true=false:=by rw [<- zrf (by omega)];exact hi0X
   obtain ⟨i1,hmr⟩:=zIm W hsz (by omega) hu0
   have hpos:0<left ops.size listed:=by
    have:=zFH (listed:=listed) (n:=ops.size) (i:=i0) (by omega) hu0
    omega
   obtain ⟨fuel,rfl⟩:∃f,fuel=f+1:=⟨fuel-1,by omega⟩
   refine ⟨fun h=>(by rw [h] at hmr;cases hmr),fun i hi=>?_⟩
   obtain ⟨h0,o,ho,_⟩:=mem_ready.1 hi;have his:=(Array.getElem?_eq_some_iff.1 ho).1;have hiX:XL listed i=false:=by rw [zrf (by omega)];exact h0
   have hw:=zD2 W hX hi;have hia:a<=i:=by
    refine Classical.byContradiction (fun hn=>?_);rw [hbel i (by omega)] at hiX
    cases hiX
   have hiT:i<T:=by
    refine Classical.byContradiction (fun hn=>?_);have hp:=hpin (by omega)
    by_cases hiT:i=T
    ·subst hiT;have:=hw i0 (hp.full i0 hi0);rw [hi0X] at this;cases this
    ·have:=hw T (hp.wait i (by omega) his)
     rw [hlow T (Nat.le_refl _) (by omega)] at this
     cases this
   refine hstep _ (XL (listed.setIfInBounds i true)) i hX hia hiT hiX hw (zGh (by omega)) E ts w hS _ (fun E' ts' w' hS'=>?_)
   refine zO2 W hTs hpin hcongr hstep htail fuel (listed.setIfInBounds i true) E' ts' w' (by simp [hsz]) ?_ ?_ ?_ ?_ hS'
   ·intro k hk j hj;rw [zGh (by omega)] at hk ⊢
    by_cases hki:k=i
    ·subst hki;rw [hw j hj];rfl
    ·have:(k==i)=false:=by simp [hki]
     rw [this,Bool.or_false] at hk;rw [hX k hk j hj];rfl
   ·intro k hk;rw [zGh (by omega),hbel k hk];rfl
   ·intro m hm hms;rw [zGh (by omega),hlow m hm hms]
    simp;omega
   ·have:=zFH (listed:=listed) (n:=ops.size) his h0;omega
theorem zZn (hC:CfgOk C)(hH:CtrOk C){a T:Nat}(W:Waits md ops cl)(hT:a+ss.length=T)(hTs:T<=ops.size)(hpin:T<ops.size->Pinned ops.size cl T)(F:Free C ops cl b base a ss st0)(hb:b=false->∀k,a<=k->k<T->zlF ops k=false)(hd:b=true->Dead st0/\0<st0.ep)(hM:∀k,a<=k->k<T->∀n,Mine (base+32*k) n->¬ U n){Q:Exit->Act->World->Prop}(htail:∀(fl:Nat) (l':Array Bool) (E':Env) (ts':Array Value) (w':World),l'.size=ops.size->(∀i,i<ops.size->l'.getD i true=decide (i<T))->left ops.size l'<=fl ->
 Sim w0 S0 (UX U base a T (fun _=>true)) (zbI ops b (fun _=>true) a ss st0) E' ts' sv w'->wpAny C.P md ops Q fl l' { tmps:=ts',defers:=[] } w') :
 ∀(fuel:Nat) (listed:Array Bool) (E:Env) (ts:Array Value) (w:World),listed.size=ops.size->ziw cl (XL listed)->(∀i,i<a->XL listed i=true)->(∀m,T<=m->m<ops.size->XL listed m=false)->left ops.size listed<=fuel ->
  Sim w0 S0 (UX U base a T (XL listed)) (zbI ops b (XL listed) a ss st0) E ts sv w->wpAny C.P md ops Q fuel listed { tmps:=ts,defers:=[] } w :=
 zO2 (J:=fun X E ts w=>Sim w0 S0 (UX U base a T X) (zbI ops b X a ss st0) E ts sv w) W hTs hpin
  (fun X Y E ts w h hS=>by
   rw [zoK ss a st0 (fun k h1 h2=>h k h1 (by omega))] at hS
   refine hS.uses ?_
   rintro n (h1|⟨k,h0,h1,h2,h3⟩)
   ·exact .inl h1
   ·exact .inr ⟨k,h0,h1,by rw [<- h k h0 h1];exact h2,h3⟩)
  (fun X Y i hX hia hi hXi hr hY E ts w hS K hK=>zL2 hC hH hT F hX hia hi hXi hr hb hd hM hY hS hK) htail
theorem get_put {st:St}{d:Nat}{m:MV}{κ:Key}(h:κ≠.tm d):(st.put (some d) m).get κ=st.get κ:=by
 cases κ with
 | tm t =>
  have:d≠t:=fun e=>h (by rw [e])
  simp [St.get,St.put,List.getElem?_set,this]
 | ro n=>rfl
 | lo n=>rfl
theorem zYP {st st':St}{o:Oper}(hep:st'.ep=st.ep)(htm:∀t∈zth o,st'.get (.tm t)=st.get (.tm t))(hro:∀n∈(zvd st o).flatMap zbA,st'.get (.ro n)=st.get (.ro n))(hlo:∀n∈(zvd st o).flatMap zbB,st'.get (.lo n)=st.get (.lo n)):Agree st st' o.op.operands.toList:=by
 refine ⟨hep,fun x hx=>?_,fun x hx m hm a ha=>?_⟩
 ·cases x with
  | tmp t =>
   have ht:t∈zth o:=by
    unfold zth;exact List.mem_filterMap.2 ⟨_,hx,rfl⟩
   simp only [St.opnd,zGB (htm t ht)]
  | _=>rfl
 ·have hA:a∈zvd st o:=by
   unfold zvd;exact List.mem_flatMap.2 ⟨m,List.mem_filterMap.2 ⟨x,hx,hm⟩,ha⟩
  exact ⟨fun n hn=>zGA (hro n (List.mem_flatMap.2 ⟨a,hA,hn⟩)),fun n hn=>zGz (hlo n (List.mem_flatMap.2 ⟨a,hA,hn⟩))⟩
theorem zSK {st st':St}{o:Oper}(h:Agree st st' o.op.operands.toList):zoH C st' o=zoH C st o:=by
 cases hop:o.op with
 | call c =>
  rw [hop] at h;have hp:∀x∈c.args.toList,x∈(Op.call c).operands.toList:=fun x hx=>by simp only [Op.operands,Call.operands,Array.toList_append,List.mem_append];exact .inr hx
  simp only [zoH,hop];cases hd:o.dst with
  | none=>rfl
  | some d =>
   cases hg:o.guard with
   | some g=>rfl
   | none =>
    simp only;cases hcb:c.callee with
    | builtin b =>
     cases b with
     | append =>
      simp only;split
      ·rename_i x y T T2 hca hct;have hx:=hp x (by rw [hca];simp)
       have hy:=hp y (by rw [hca];simp)
       rw [h.at hx,h.at hy];split
       ·cases hT:C.sty T with
        | none=>rfl
        | some t =>
         cases e:st.at x with
         | none=>rfl
         | some a =>
          cases a with
          | sl r p =>
           cases p with
           | nil=>rfl
           | cons ij p =>
            cases e2:st.at y with
            | none=>rfl
            | some b =>
             cases b with
             | sl r2 p2=>simp only [h.root (zd4 hx e),h.node (zd4 hx e),h.node (zd4 hy e2)]
             | _=>rfl
          | _=>rfl
       ·rfl
      ·rfl
     | _=>rfl
    | _=>rfl
 | _=>simp only [zoH,hop]
theorem zIl (hC:CfgOk C)(hS:Sim w0 S0 U st E ts sv w){o:Oper}{id:Nat}{d:Dl}(hp:zxO o=true)(h:delta C st o id=some d)(hc:d.c=true):o.guard=none/\zre C U st E ts w o d:=by
 unfold zxO at hp;simp only [Bool.and_eq_true,Option.isNone_iff_eq_none] at hp;obtain ⟨hg,hp⟩:=hp;refine ⟨hg,?_⟩;cases hop:o.op
 case move x =>
  rw [hop] at hp;cases x with
  | tmp t =>
   simp only [delta,hop] at h;split at h
   ·rename_i v hv;cases h;exact zYo hS (.inl hop) hv
   ·cases h
  | _=>simp at hp
 case load T x=>exact zYn hC hS hop h
 case fieldAddr T x f=>exact zD0 hC hS hop h
 case indexAddr T x y=>exact zD1 hC hS hop h hc
 case nilCheck x=>exact zIk hS hop h
 all_goals (rw [hop] at hp;simp at hp)
theorem pure_run {o:Oper}{i:Nat}{d:Dl}{v:Value}{Q:Exit->Act->World->Prop}{K:Act->World->Prop}(ho:ops[i]?=some o)(hg:o.guard=none)(hr:(execOp ({ tmps:=ts,defers:=[] }:Act).eval o).run C.P w = .ok (.value v) w1)(h:K { tmps:=(({ tmps:=ts,defers:=[] }:Act).put o.dst v).tmps,defers:=[] } w1):wpOp C.P ops Q i K { tmps:=ts,defers:=[] } w:=by
 unfold wpOp;simp only [ho];rw [if_pos (by simp [Region.wanted,hg])]
 left
 unfold Oper.wp;rw [hr,Oper.upon_value,zhA];exact h
theorem zRX {d t:Nat}{v u:Value}(h:ts[t]?=some u)(hne:d≠t):(({ tmps:=ts,defers:=[] }:Act).put (some d) v).tmps[t]?=some u:=by
 simp [Act.put,Array.getElem?_setIfInBounds_ne hne,h]
theorem zZt (hC:CfgOk C)(hH:CtrOk C){a A:Nat}(W:Waits md ops cl)(hA:a+ss.length=A)(hTs:A+1<=ops.size)(hpin:A+1<ops.size->Pinned ops.size cl (A+1))(F:Free C ops cl b base a ss st0)(hb:b=false->∀k,a<=k->k<A->zlF ops k=false)(hbt:b=true)(hd:b=true->Dead st0/\0<st0.ep)(hM:∀k,a<=k->k<A->∀n,Mine (base+32*k) n->¬ U n){oA:Oper}{x:App}(hoA:ops[A]?=some oA)(hap:zoH C (zbI ops b (fun _=>true) a ss st0) oA=some (true,x))(hlo:zPS ops cl a A=true)(hlen:x.dst<(zbI ops b (fun _=>true) a ss st0).tm.length)(hfoot:∀i s o f,ss[i]?=some s->ops[a+i]?=some o->At1 C ops base (a+i) o (zbI ops b (fun j=>decide (j<a+i)) a ss st0) f s->a+i∉cl.getD A []->f.apart (zfd (zbI ops b (fun _=>true) a ss st0) ops oA zCe)=true){Q:Exit->Act->World->Prop}(htail:∀(fl:Nat) (l':Array Bool) (E':Env) (ts':Array Value) (w':World) (v:Value),l'.size=ops.size->(∀i,i<ops.size->l'.getD i true=decide (i<A+1))->left ops.size l'<=fl->ts'[x.dst]?=some v ->
 Sim w0 S0 (UX U base a A (fun _=>true)) ((zbI ops b (fun _=>true) a ss st0).put oA.dst (.v (.at .bad))) E' ts' sv w'->Late w0 ((zbI ops b (fun _=>true) a ss st0).put oA.dst (.v (.at .bad))) E' x v w'->wpAny C.P md ops Q fl l' { tmps:=ts',defers:=[] } w')(fuel:Nat)(listed:Array Bool)(E:Env)(ts:Array Value)(w:World)(hsz:listed.size=ops.size)(hX:ziw cl (XL listed))(hbel:∀i,i<a->XL listed i=true)(hlow:∀m,A<=m->m<ops.size->XL listed m=false)(hf:left ops.size listed<=fuel)(hS:Sim w0 S0 (UX U base a A (XL listed)) (zbI ops b (XL listed) a ss st0) E ts sv w):wpAny C.P md ops Q fuel listed { tmps:=ts,defers:=[] } w:=by
 have hdst:oA.dst=some x.dst/\oA.guard=none:=by
  unfold zoH at hap;split at hap
  ·rename_i c d ho hdst hgu;refine ⟨?_,hgu⟩;rw [hdst]
   congr 1
   repeat' (first|(split at hap)|(cases hap))
   all_goals first|rfl|(simp only [Option.some.injEq,Prod.mk.injEq] at hap;obtain ⟨_,rfl⟩:=hap;rfl)
  ·cases hap
 have huses:∀{X Y:Nat->Bool} {i:Nat},(∀k,Y k=(X k||k==i))->∀n,UX U base a A X n->UX U base a A Y n:=by
  intro X Y i hY n h;rcases h with h|⟨k,h0,h1,h2,h3⟩
  ·exact .inl h
  ·exact .inr ⟨k,h0,h1,by rw [hY,h2];rfl,h3⟩
 have hfA:∀{X:Nat->Bool} (κ:Key),(∀j∈cl.getD A [],X j=true)->(zfd (zbI ops b (fun _=>true) a ss st0) ops oA zCe).reads κ->(zbI ops b X a ss st0).get κ=(zbI ops b (fun _=>true) a ss st0).get κ:=by
  intro X κ hr hκ;refine zoJ ss a st0 st0 rfl rfl (fun k s' o' hk ho' hne hw=>?_);obtain ⟨o2,f',ho2,h2⟩:=F.at1 k s' hk;rw [ho'] at ho2;cases ho2;have hXk:X (a+k)=false:=by
   cases h:X (a+k) with
   | false=>rfl
   | true=>exact absurd h hne
  have hn:a+k∉cl.getD A []:=fun h=>by rw [hr _ h] at hXk;cases hXk
  exact ((apart_spec (hfoot k s' o' f' hk ho' h2 hn)).1 κ ((zBj h2 κ).1 hw)).1 hκ
 refine zO2 (T:=A+1) (J:=fun X E ts w=>(X A=false->Sim w0 S0 (UX U base a A X) (zbI ops b X a ss st0) E ts sv w) /\
  (X A=true->∃v,ts[x.dst]?=some v/\Sim w0 S0 (UX U base a A X) ((zbI ops b X a ss st0).put oA.dst (.v (.at .bad))) E ts sv w/\Late w0 (zbI ops b X a ss st0) E x v w)) W hTs hpin ?_ ?_ ?_
  fuel listed E ts w hsz hX hbel (fun m h1 h2=>hlow m (by omega) h2) hf ⟨fun _=>hS,fun h=>(by rw [hlow A (Nat.le_refl _) (by omega)] at h;cases h)⟩
 ·intro X Y E ts w h hJ;have hXA:X A=Y A:=h A (by omega) (by omega)
  have e:=zoK (ops:=ops) (b:=b) ss a st0 (X:=X) (Y:=Y) (fun k h1 h2=>h k h1 (by omega))
  have hu:∀n,UX U base a A X n->UX U base a A Y n:=by
   rintro n (h1|⟨k,h0,h1,h2,h3⟩)
   ·exact .inl h1
   ·exact .inr ⟨k,h0,h1,by rw [<- h k h0 (by omega)];exact h2,h3⟩
  refine ⟨fun hYA=>?_,fun hYA=>?_⟩
  ·have:=hJ.1 (hXA.trans hYA);rw [e] at this;exact this.uses hu
  ·obtain ⟨v,h1,h2,h3⟩:=hJ.2 (hXA.trans hYA);rw [e] at h2 h3;exact ⟨v,h1,h2.uses hu,h3⟩
 ·intro X Y i hX hia hi hXi hr hY E ts w hJ K hK
  by_cases hiA:i=A
  ·subst hiA;have hSX:=hJ.1 hXi;have hYX:zbI ops b Y a ss st0=zbI ops b X a ss st0:=zoK ss a st0 (fun k h1 h2=>by
    rw [hY];have:(k==i)=false:=by simp;omega
    rw [this,Bool.or_false])
   have hag:Agree (zbI ops b (fun _=>true) a ss st0) (zbI ops b X a ss st0) oA.op.operands.toList :=
    zYP (by rw [zgu,zgu]) (fun t ht=>hfA (.tm t) hr (by simp only [Foot.reads,zfd];exact List.mem_append_left _ ht)) (fun n hn=>hfA (.ro n) hr hn) (fun n hn=>hfA (.lo n) hr hn)
   have hapX:=zSK (C:=C) hag;rw [hap] at hapX;have hdX:Dead (zbI ops b X a ss st0):=by
    subst hbt;exact zzm ss a st0 (hd rfl).1 (hd rfl).2
   obtain ⟨hg,hdA,v,w',hrun,hS',hL⟩:=zZv hC hSX hdX hapX;refine pure_run (d:=zCe) hoA hg hrun (hK E _ w' ⟨fun h=>(by rw [hY] at h;simp at h),fun _=>⟨v,?_,?_,?_⟩⟩)
   ·rw [hdA];have hlt:x.dst<ts.size:=by
     rw [hSX.tm.1,zlu];rw [zlu] at hlen;exact hlen
    simp [Act.put,hlt]
   ·rw [hYX];exact hS'.uses (huses hY)
   ·rw [hYX];exact hL
  ·have hiA':i<A:=by omega
   have hYA:Y A=X A:=by
    rw [hY];have:(A==i)=false:=by simp;omega
    rw [this,Bool.or_false]
   cases hXA:X A with
   | false =>
    refine zL2 hC hH hA F hX hia hiA' hXi hr hb hd hM hY (hJ.1 hXA) (fun E' ts' w' hS'=>hK E' ts' w' ⟨fun _=>hS',fun h=>(by rw [hYA,hXA] at h;cases h)⟩)
   | true =>
    obtain ⟨v,hv,hSX,hL⟩:=hJ.2 hXA;obtain ⟨j,rfl⟩:∃j,i=a+j:=⟨i-a,by omega⟩
    obtain ⟨s,hs⟩:∃s,ss[j]?=some s:=⟨_,List.getElem?_eq_getElem (by omega)⟩
    obtain ⟨o,f,ho,h1,h2⟩:=zGy F hX hs hXi hr;have hnA:a+j∉cl.getD A []:=fun h=>by rw [hX A hXA _ h] at hXi;cases hXi
    have hpo:zxO o=true:=by
     have:=List.all_eq_true.1 hlo (a+j) (by simp;omega)
     simp only [ho,Bool.or_eq_true,List.contains_eq_mem,decide_eq_true_eq] at this;rcases this with h|h
     ·exact absurd h hnA
     ·exact h
    have hapf:=apart_spec (hfoot j s o f hs ho h1 hnA);have hwA:(zfd (zbI ops b (fun _=>true) a ss st0) ops oA zCe).writes (.tm x.dst):=by simp only [Foot.writes,zfd];exact hdst.1
    have hne:∀κ,f.reads κ->κ≠.tm x.dst:=fun κ hκ e=>hapf.2 (.tm x.dst) hwA (e ▸ hκ);have hdne:o.dst≠some x.dst:=fun e=>(hapf.1 (.tm x.dst) ((zBj h1 (.tm x.dst)).1 (by cases s<;>exact e))).2 hwA
    have hep:∀Z,(zbI ops b Z a ss st0).ep=st0.ep:=fun Z=>zgu ss a st0;have hdoes:=zO3 (S':=(zbI ops b X a ss st0).put oA.dst (.v (.at .bad))) h1 (by rw [hep,hdst.1];exact hep X) (fun κ hκ=>by rw [hdst.1,get_put (hne κ hκ)];exact h2 κ hκ)
    have hg0:o.guard=none:=by
     unfold zxO at hpo;simp only [Bool.and_eq_true,Option.isNone_iff_eq_none] at hpo;exact hpo.1
    cases s with
    | none =>
     exfalso;have:zc1 ops o ((zbI ops b X a ss st0).put oA.dst (.v (.at .bad)))=some false:=hdoes;simp [zc1,hg0] at this
    | some d =>
     obtain ⟨_,d2,d3⟩:=hdoes;obtain ⟨_,v2,hrun,hvm,hids,e1,e2,e3⟩:=zIl hC hSX hpo d2 d3;have hput:∀κ,(zbI ops b Y a ss st0).get κ=((zbI ops b X a ss st0).put o.dst d.v).get κ:=by
      intro κ;rw [zPE F hX hs ho hXi hY κ];simp only [St.step,St.effD,e1,e2,List.map_nil,List.nil_append]
     have hS2:Sim w0 S0 (UX U base a A X) (((zbI ops b X a ss st0).put oA.dst (.v (.at .bad))).put o.dst d.v) E (({ tmps:=ts,defers:=[] }:Act).put o.dst v2).tmps sv w:=hSX.putV hvm hids;refine pure_run (d:=d) ho hg0 hrun (hK E _ w ⟨fun h=>(by rw [hYA,hXA] at h;cases h),fun _=>⟨v,?_,?_,?_⟩⟩)
     ·cases hod:o.dst with
      | none=>exact hv
      | some t=>exact zRX hv (fun e=>hdne (by rw [hod,e]))
     ·refine (hS2.same (fun κ=>?_) ?_ ?_).uses (huses hY)
      ·rw [hdst.1];cases κ with
       | tm t =>
        have hk:=hput (.tm t);have hl1:(zbI ops b Y a ss st0).tm.length=(zbI ops b X a ss st0).tm.length:=by rw [zlu,zlu]
        by_cases ht:t=x.dst
        ·subst ht;cases hod:o.dst with
         | none=>simp [St.get,St.put,List.getElem?_set,hl1]
         | some t' =>
          have:t'≠x.dst:=fun e=>hdne (by rw [hod,e])
          simp [St.get,St.put,List.getElem?_set,hl1,this]
        ·have hne':x.dst≠t:=fun e=>ht e.symm;rw [get_put (by simpa using ht),hk]
         cases hod:o.dst with
         | none=>simp [St.get,St.put,List.getElem?_set,hne']
         | some t' =>
          simp only [St.get,St.put,List.getElem?_set,List.length_set];split
          ·rfl
          ·first|rfl|rw [if_neg hne']
       | ro n =>
        have hk:=hput (.ro n);rw [get_put (by simp),hk]
        cases o.dst<;>rfl
       | lo n =>
        have hk:=hput (.lo n);rw [get_put (by simp),hk]
        cases o.dst<;>rfl
      ·rw [hdst.1];have h1:(zbI ops b Y a ss st0).stk=(zbI ops b X a ss st0).stk:=by rw [zpe,zpe]
       cases o.dst<;>exact h1
      ·rw [hdst.1];have h1:(zbI ops b Y a ss st0).ep=(zbI ops b X a ss st0).ep:=by rw [zgu,zgu]
       cases o.dst<;>exact h1
     ·have hro:∀n,zx (zbI ops b Y a ss st0).ro n=zx (zbI ops b X a ss st0).ro n:=fun n=>by
       rw [zGA (hput (.ro n))];cases o.dst<;>rfl
      have hlo':∀n,zx (zbI ops b Y a ss st0).lo n=zx (zbI ops b X a ss st0).lo n:=fun n=>by
       rw [zGz (hput (.lo n))];cases o.dst<;>rfl
      exact hL.states (fun n=>by
       unfold St.root;rw [hro n,hep Y,hep X]) hlo'
 ·intro fl l' E' ts' w' hsz' hl' hf' hJ;obtain ⟨v,h1,h2,h3⟩:=hJ.2 rfl;refine htail fl l' E' ts' w' v hsz' hl' hf' h1 h2 (h3.states (fun n=>?_) (fun n=>?_))
  ·rw [hdst.1];rfl
  ·rw [hdst.1];rfl
def VV (U:Nat->Prop)(base size m n:Nat):Prop:=U n\/(base<=n/\n<base+32*m)\/base+32*size<=n
theorem zxF (hC:CfgOk C)(W:Waits md ops cl){x:App}{kk:Nat->List Bool->St->Option Ans}{ans:Ans}{Q:Exit->Act->World->Prop}(hkk:∀(m':Nat) (r':List Bool) (U':Nat->Prop) (st':St) (E':Env) (ts':Array Value) (w':World) (fl:Nat) (l':Array Bool),r'=(zgA ops.size cl).drop m'->m'<=ops.size->l'.size=ops.size->(∀i,i<ops.size->l'.getD i true=decide (i<m'))->left ops.size l'<=fl ->
 Sim w0 S0 U' st' E' ts' sv w'->(∀n,U' n->VV U base ops.size m' n)->(∀n,st'.nid<=n->¬ U' n)->base+32*ops.size<=st'.nid->kk m' r' st'=some ans->wpAny C.P md ops Q fl l' { tmps:=ts',defers:=[] } w') :
 ∀(pins:List Bool) (m:Nat) (V:Nat->Prop) (st:St) (E:Env) (ts:Array Value) (w:World) (fuel:Nat) (listed:Array Bool) (v:Value),pins=(zgA ops.size cl).drop m->m<=ops.size->listed.size=ops.size->(∀i,i<ops.size->listed.getD i true=decide (i<m))->left ops.size listed<=fuel ->
  Sim w0 S0 V st E ts sv w->(∀n,V n->VV U base ops.size m n)->(∀n,st.nid<=n->¬ V n)->base+32*ops.size<=st.nid->ts[x.dst]?=some v->Late w0 st E x v w->znO C ops base x kk pins m st=some ans->wpAny C.P md ops Q fuel listed { tmps:=ts,defers:=[] } w
 | [],m,V,st,E,ts,w,fuel,listed,v,_,_,_,_,_,_,_,_,_,_,_,h=>by simp [znO] at h
 | false :: r,m,V,st,E,ts,w,fuel,listed,v,_,_,_,_,_,_,_,_,_,_,_,h=>by simp [znO] at h
 | true :: r,m,V,st,E,ts,w,fuel,listed,v,hp,hm,hsz,hl,hf,hS,hV,hF,hn,hv,hL,h=>by
  simp only [znO] at h;obtain ⟨hms,hpin,hr⟩:=zpp hp;have hV1:∀n,V n->VV U base ops.size (m+1) n:=by
   rintro n hn'
   rcases hV n hn' with h|⟨h1,h2⟩|h
   ·exact .inl h
   ·exact .inr (.inl ⟨h1,by omega⟩)
   ·exact .inr (.inr h)
  refine zVm W hsz hms (zwI hpin.symm) hl hf (fun fl l' hsz' hl' hf' _ _=>?_);split at h
  ·cases h
  ·rename_i o ho;split at h
   ·rename_i c st2 hst;cases hc:c with
    | false=>rw [hc] at h;cases h
    | true =>
     rw [hc] at h hst;simp only [cond_true,zB5] at h;obtain ⟨hg,hgo,hnid⟩:=zWD (id:=base+32*m) hC hS hL hv hst;unfold wpOp;simp only [ho];rw [if_pos (by simp [Region.wanted,hg])]
     refine .inl (hgo _ _ (fun E' v' w' hS'=>?_));rw [zhA];refine hkk (m+1) r _ _ E' _ w' fl l' hr (by omega) hsz' hl' hf' hS' ?_ ?_ (by rw [zeV];omega) h
     ·rintro n (h|⟨h1,h2⟩)
      ·exact hV1 n h
      ·exact .inr (.inl ⟨by omega,by omega⟩)
     ·rintro n hn' (h|⟨h1,h2⟩)
      ·exact hF n (by rw [zeV] at hn';omega) h
      ·rw [zeV] at hn';omega
   ·split at h
    ·rename_i hcond;simp only [Bool.and_eq_true,Bool.not_eq_true',beq_eq_false_iff_ne] at hcond;split at h
     ·rename_i d hd;cases hc:d.c with
      | false=>rw [hc] at h;cases h
      | true =>
       rw [hc] at h;simp only [cond_true] at h;obtain ⟨hg,v2,hrun,hvm,hids,e1,e2,e3⟩:=zIl hC hS hcond.1 hd hc;have he:st.apply o.dst d=st.put o.dst d.v:=by simp [St.apply,e1,e2,e3]
       rw [he] at h;refine pure_run (d:=d) ho hg hrun ?_;refine zxF hC W hkk r (m+1) V _ E _ w fl l' v hr (by omega) hsz' hl' hf' (hS.putV hvm hids) hV1 (by rw [zeV];exact hF) (by rw [zeV];exact hn) ?_ (hL.states (fun n=>?_) (fun n=>?_)) h
       ·cases hod:o.dst with
        | none=>exact hv
        | some t=>exact zRX hv (fun e=>hcond.2 (by rw [hod,e]))
       ·cases o.dst<;>rfl
       ·cases o.dst<;>rfl
     ·cases h
    ·cases h
theorem zkM (hC:CfgOk C)(hH:CtrOk C)(hG:GraftOk C)(hN:NameOk C){call:zfU}(hcall:zr6 C call)(W:Waits md ops cl){k:St->Option Ans}{ans:Ans}{Q:Exit->Act->World->Prop}(hU0:∀n,base<=n->¬ U n)(hk:∀(U':Nat->Prop) (st':St) (E':Env) (ts':Array Value) (w':World),Sim w0 S0 U' st' E' ts' sv w'->(∀n,U' n->VV U base ops.size ops.size n)->base+32*ops.size<=st'.nid->(∀n,st'.nid<=n->¬ U' n)->k st'=some ans->Q .normal { tmps:=ts',defers:=[] } w') :
 ∀(fs m:Nat) (pins:List Bool) (V:Nat->Prop) (st:St) (E:Env) (ts:Array Value) (w:World) (fuel:Nat) (listed:Array Bool),pins=(zgA ops.size cl).drop m->m<=ops.size->listed.size=ops.size->(∀i,i<ops.size->listed.getD i true=decide (i<m))->left ops.size listed<=fuel ->
  Sim w0 S0 V st E ts sv w->(∀n,V n->VV U base ops.size m n)->(∀n,st.nid<=n->¬ V n)->base+32*ops.size<=st.nid->zjN C call ops cl base k fs m pins st=some ans->wpAny C.P md ops Q fuel listed { tmps:=ts,defers:=[] } w
 | 0,m,pins,V,st,E,ts,w,fuel,listed,_,_,_,_,_,_,_,_,_,h=>by simp [zjN] at h
 | fs+1,m,[],V,st,E,ts,w,fuel,listed,hp,hm,hsz,hl,hf,hS,hV,hF,hn,h=>by
  simp only [zjN] at h;have hms:=zRU hp;have e:m=ops.size:=by omega
  subst e;exact zZH (fun i hi=>by rw [hl i hi];simp [hi]) (hk V st E ts w hS hV hn hF h)
 | fs+1,m,true :: r,V,st,E,ts,w,fuel,listed,hp,hm,hsz,hl,hf,hS,hV,hF,hn,h=>by
  simp only [zjN] at h;obtain ⟨hms,hpin,hr⟩:=zpp hp;refine zVm W hsz hms (zwI hpin.symm) hl hf (fun fl l' hsz' hl' hf' _ _=>?_)
  let Q':Exit->Act->World->Prop:=fun e a w=>match e with
   | .normal=>wpAny C.P md ops Q fl l' a w
   | e=>Q e a w
  have hQ:∀e,e≠Exit.normal->∀a w,Q' e a w->Q e a w:=by
   intro e he a w h;cases e<;>first|exact absurd rfl he|exact h
  refine zXy hQ ?_;have key:=zl5 (Q:=Q') hC hH hG hN hcall (ops:=ops) (base:=base) (V:=VV U base ops.size (m+1)) (nid0:=base+32*ops.size) (fun n hn'=>.inr (.inr hn'))
   (fun U' st' E' ts' w' hS' hU' hn' hF' h'=>zkM hC hH hG hN hcall W hU0 hk fs (m+1) r U' st' E' ts' w' fl l' hr (by omega) hsz' hl' hf' hS' hU' hF' hn' h')
   [m] V st E ts w hS ?_ hF ?_ (by simp) hn ?_ h
  ·rw [wpOps_cons] at key;exact wpOp_mono (fun a w h=>h) key
  ·rintro n hn'
   rcases hV n hn' with h|⟨h1,h2⟩|h
   ·exact .inl h
   ·exact .inr (.inl ⟨h1,by omega⟩)
   ·exact .inr (.inr h)
  ·intro j hj n hmn;simp only [List.mem_singleton] at hj;subst hj;obtain ⟨g1,g2⟩:=hmn;refine ⟨fun hn'=>?_,.inr (.inl ⟨by omega,by omega⟩)⟩
   rcases hV n hn' with h|⟨h1,h2⟩|h
   ·exact hU0 n (by omega) h
   ·omega
   ·omega
  ·intro j hj;simp only [List.mem_singleton] at hj;subst hj;omega
 | fs+1,m,false :: r,V,st,E,ts,w,fuel,listed,hp,hm,hsz,hl,hf,hS,hV,hF,hn,h=>by
  simp only [zjN] at h;obtain ⟨hms,_,hr⟩:=zpp hp;obtain ⟨hfr1,hfr2,hfr3⟩:=zMe r (m+1) (by omega) hr
  generalize hb0:(List.range' m (zch r+1)).any (zlF ops)=b at h;have hS0':Sim w0 S0 V { st with ep:=if b then st.ep+1 else st.ep } E ts sv w:=hS.blind b st.nid
  have hnid0:({ st with ep:=if b then st.ep+1 else st.ep }:St).nid=st.nid:=rfl
  have hd':b=true->Dead ({ st with ep:=if b then st.ep+1 else st.ep }:St)/\0<({ st with ep:=if b then st.ep+1 else st.ep }:St).ep:=by
   intro hb;subst hb;refine ⟨fun n R e hR he=>?_,by simp⟩
   have:=hS.mem.epo n R e hR he;simp only [if_true];omega
  have hb':b=false->∀k,m<=k->k<m+1+zch r->zlF ops k=false:=by
   intro hb k hk1 hk2;rw [hb] at hb0;have:=List.any_eq_false.1 hb0 k (by simp;omega)
   simpa using this
  have hM:∀k,m<=k->k<m+1+zch r->∀n,Mine (base+32*k) n->¬ V n:=by
   intro k h1 h2 n hn' hv;have g1:=hn'.1;have g2:=hn'.2;rcases hV n hv with h|⟨h3,h4⟩|h
   ·exact hU0 n (by omega) h
   ·omega
   ·omega
  have hoff:∀(ss:List Step) (st0:St),zbI ops b (XL listed) m ss st0=st0:=fun ss st0=>zuW ss m st0 (fun k hk=>by
   rcases Nat.lt_or_ge k ops.size with h|h
   ·rw [zrf (by omega),hl k h];simp;omega
   ·simp [XL,Array.getElem?_eq_none (show listed.size<=k by omega)])
  have hVX:∀{T:Nat},T<=m+(zch r+1)->∀n,UX V base m T (fun _=>true) n->VV U base ops.size (m+(zch r+1)) n:=by
   rintro T hT n (h|⟨k,h0,h1,_,h3⟩)
   ·rcases hV n h with h|⟨h1,h2⟩|h
    ·exact .inl h
    ·exact .inr (.inl ⟨h1,by omega⟩)
    ·exact .inr (.inr h)
   ·have g1:=h3.1;have g2:=h3.2;exact .inr (.inl ⟨by omega,by omega⟩)
  have hFX:∀{T:Nat},T<=m+(zch r+1)->∀n,st.nid<=n->¬ UX V base m T (fun _=>true) n:=by
   rintro T hT n hn' (h|⟨k,h0,h1,_,h3⟩)
   ·exact hF n (by omega) h
   ·have:=h3.2;omega
  have hmk:∀{gs:List (Nat×Foot)} {ss:List Step} {st0 st':St},(∀x∈gs,∀y∈gs,(¬ x.1<y.1\/x.1∈cl.getD y.1 [])\/x.2.apart y.2=true)->Trace C ops b base m ss gs st0 st'->Free C ops cl b base m ss st0:=by
   intro gs ss st0 st' hok htr;have hat:=zSB htr;refine ⟨fun i s hs=>?_,fun i k s s' o o' f f' hs hs' ho ho' h1 h2 hik hni=>?_⟩
   ·obtain ⟨o,f,g1,g2,g3⟩:=hat i s hs;exact ⟨o,f,g1,g3⟩
   ·obtain ⟨o1,f1,g1,g2,g3⟩:=hat i s hs;obtain ⟨o2,f2,e1,e2,e3⟩:=hat k s' hs';rw [ho] at g1;cases g1;rw [ho'] at e1;cases e1;have hf1:=zEo h1 g3;have hf2:=zEo h2 e3;subst hf1 hf2;rcases hok _ g2 _ e2 with (h|h)|h
    ·exact absurd (by show m+i<m+k;omega) h
    ·exact absurd h hni
    ·exact h
  have hbelow:∀i,i<m->XL listed i=true:=fun i hi=>by rw [zrf (by omega),hl i (by omega)];simp [hi]
  have habove:∀k,m<=k->k<ops.size->XL listed k=false:=fun k h1 h2=>by rw [zrf (by omega),hl k h2];simp;omega
  rcases zp3 (zch r+1) m [] _ h with ⟨ss,gs,st',hlen,htr,hok,hden⟩|⟨ss,gs,st',oA,x,hlen,htr,hoA,hap,hbt,hlo,hxl,hok,hden⟩
  ·rw [List.append_nil] at hok;unfold zrT at hok;simp only [Bool.not_eq_true',List.all_eq_true,Bool.or_eq_true,decide_eq_false_iff_not,List.contains_eq_mem,decide_eq_true_eq,List.mem_reverse] at hok;generalize hst0:({ st with ep:=if b then st.ep+1 else st.ep }:St)=st0 at htr hS0' hnid0 hd'
   have hfin:st'=zbI ops b (fun _=>true) m ss st0:=zMn htr;refine zZn (w0:=w0) (S0:=S0) (sv:=sv) hC hH W (T:=m+1+zch r) (by omega) hfr1 hfr3 (hmk hok htr) hb' hd' hM (fun fl l' E' ts' w' hsz' hl' hf' hS'=>?_) fuel listed E ts w hsz (zp7 W hsz hl) hbelow (fun k h1 h2=>habove k (by omega) h2) hf ?_
   ·rw [<- hfin] at hS';have hnid':st'.nid=st.nid:=by rw [hfin,zBp,hnid0]
    exact zkM hC hH hG hN hcall W hU0 hk fs (m+(zch r+1)) (r.drop (zch r)) _ st' E' ts' w' fl l' (by rw [hfr2];congr 1;omega) (by omega) hsz' (fun i hi=>by rw [hl' i hi];congr 1;simp only [eq_iff_iff];omega) hf' hS' (hVX (by omega)) (by rw [hnid'];exact hFX (by omega)) (by omega) hden
   ·rw [hoff];exact hS0'.uses (fun n h=>.inl h)
  ·rw [List.append_nil] at hok;unfold zrT at hok;simp only [Bool.not_eq_true',List.all_eq_true,Bool.or_eq_true,decide_eq_false_iff_not,List.contains_eq_mem,decide_eq_true_eq,List.mem_cons,List.mem_reverse] at hok;generalize hst0:({ st with ep:=if b then st.ep+1 else st.ep }:St)=st0 at htr hS0' hnid0 hd'
   have hfin:st'=zbI ops b (fun _=>true) m ss st0:=zMn htr;subst hfin;have hA:m+ss.length=m+zch r:=by omega
   rw [hA] at hoA hlo hok;have hat:=zSB htr;refine zZt (w0:=w0) (S0:=S0) (sv:=sv) hC hH W hA (by omega) (fun h=>by
    have e:m+zch r+1=m+1+zch r:=by omega
    rw [e] at h ⊢;exact hfr3 h) (hmk (fun x hx y hy=>hok x (.inr hx) y (.inr hy)) htr) (fun hb k h1 h2=>hb' hb k h1 (by omega)) hbt hd' (fun k h1 h2=>hM k h1 (by omega)) hoA hap hlo hxl (fun i s o f hs ho h1 hni=>?_)
    (fun fl l' E' ts' w' v hsz' hl' hf' hv hS' hL=>?_) fuel listed E ts w hsz (zp7 W hsz hl) hbelow (fun k h1 h2=>habove k (by omega) h2) hf ?_
   ·obtain ⟨o1,f1,g1,g2,g3⟩:=hat i s hs;rw [ho] at g1;cases g1;have hf1:=zEo h1 g3;subst hf1;have hi:i<ss.length:=(List.getElem?_eq_some_iff.1 hs).1;rcases hok _ (.inr g2) _ (.inl rfl) with (h|h)|h
    ·exact absurd (by show m+i<m+zch r;omega) h
    ·exact absurd h hni
    ·exact h
   ·have hnid':((zbI ops b (fun _=>true) m ss st0).put oA.dst (.v (.at .bad))).nid=st.nid:=by rw [zeV,zBp,hnid0]
    exact zxF hC W (fun m' r' U' st'' E'' ts'' w'' fl' l'' h1 h2 h3 h4 h5 h6 h7 h8 h9 h10=>zkM hC hH hG hN hcall W hU0 hk fs m' r' U' st'' E'' ts'' w'' fl' l'' h1 h2 h3 h4 h5 h6 h7 h8 h9 h10)
     (r.drop (zch r)) (m+(zch r+1)) _ _ E' ts' w' fl l' v (by rw [hfr2];congr 1;omega) (by omega) hsz' (fun i hi=>by rw [hl' i hi];congr 1) hf' hS' (hVX (by omega)) (by rw [hnid'];exact hFX (by omega)) (by omega) hv hL hden
   ·rw [hoff];exact hS0'.uses (fun n h=>.inl h)
theorem z0T (hC:CfgOk C)(hH:CtrOk C)(hG:GraftOk C)(hN:NameOk C):DrawOk C:=by
 refine ⟨fun call hcall ops k ans Q w0 S0 sv U0 nid0 U st E ts w hk hS hU hF hn h t=>?_⟩;unfold zEF at h;simp only at h;generalize hcl:zgW ops (List.range ops.size) []=cl at h;split at h
 case isFalse=>cases h
 rename_i hok;unfold zXL at hok;simp only [Bool.and_eq_true,List.all_eq_true,List.mem_range,decide_eq_true_eq] at hok;obtain ⟨hdep,hlt⟩:=hok;have hatc:∀i,i<ops.size->cl.getD i []=waits ops (cl.take i) i:=fun i hi=>by rw [<- hcl];exact zVO hi
 have hord:∀(md:Region.Mode) (rk:Nat->Nat),zLx md ops rk=true->∃rk:Nat->Nat,∀(i:Nat) (o:Oper),ops[i]?=some o->∀e∈o.after,Region.binds md e=true->e.on<ops.size/\rk e.on<rk i:=by
  intro md rk h;refine ⟨rk,fun i o ho e he hb=>?_⟩;have:=List.all_eq_true.1 h i (List.mem_range.2 (Array.getElem?_eq_some_iff.1 ho).1);rw [ho] at this;have:=List.all_eq_true.1 this e (by simpa using he)
  simpa [hb] using this
 have mkW:∀(md:Region.Mode),(∀e,Region.binds .any e=true->Region.binds md e=true)->(∃rk:Nat->Nat,∀(i:Nat) (o:Oper),ops[i]?=some o->∀e∈o.after,Region.binds md e=true->e.on<ops.size/\rk e.on<rk i)->Waits md ops cl :=
  fun md h1 h2=>⟨hatc,hlt,h1,h2⟩
 have hsubT:∀e,Region.binds .any e=true->Region.binds .text e=true:=fun e h=>by
  unfold Region.binds at *;cases hg:e.ground<;>rw [hg] at h<;>simp at h ⊢
 have hsubG:∀e,Region.binds .any e=true->Region.binds .gc e=true:=fun e h=>by
  unfold Region.binds at *;cases hg:e.ground<;>rw [hg] at h<;>simp at h ⊢
 have hmodes:∃md t',Region.schedule (C.P.follows .mixedOrders) ops t=Region.linearise md ops t'/\Waits md ops cl:=by
  have anyW:Waits .any ops cl:=mkW .any (fun _ h=>h) ⟨fun i=>i,fun i o ho e he hb=>by
   have h1:=z0U hatc ho he hb;have hi:=(Array.getElem?_eq_some_iff.1 ho).1;have h2:=hlt i hi _ h1;exact ⟨by omega,h2⟩⟩
  unfold Region.schedule
  by_cases hm:(C.P.follows .mixedOrders || !Region.departs ops)=true
  ·rw [if_pos hm];exact ⟨.any,t,rfl,anyW⟩
  ·rw [if_neg hm];have hd:Region.departs ops=true:=by
    cases h:Region.departs ops with
    | true=>rfl
    | false=>rw [h] at hm;simp at hm
   rw [hd,cond_true,Bool.and_eq_true] at hdep
   by_cases ht:(t % 2==0)=true
   ·rw [if_pos ht];exact ⟨.text,t / 2,rfl,mkW .text hsubT (hord .text _ hdep.1)⟩
   ·rw [if_neg ht];exact ⟨.gc,t / 2,rfl,mkW .gc hsubG (hord .gc _ hdep.2)⟩
 obtain ⟨md,t',hsch,W⟩:=hmodes;rw [hsch];refine wpAny_sound ops.size t' _ _ _ ?_;have hS1:Sim w0 S0 U { st with nid:=st.nid+32*ops.size } E ts sv { w with drawn:=w.drawn+1 }:=(hS.nid _).heap (w':={ w with drawn:=w.drawn+1 }) rfl rfl rfl rfl;refine zkM hC hH hG hN hcall W hF (fun U' st' E' ts' w' hS' hU' hn' hF' h'=>hk U' st' E' ts' w' hS' ?_ (by omega) hF' h') (ops.size+1) 0 (zgA ops.size cl) U _ E ts _ ops.size _ rfl (by omega) (by simp) (fun i hi=>by simp [hi]) ?_ hS1 (fun n h=>.inl h) ?_ (Nat.le_refl _) h
 ·intro n h;rcases hU' n h with h|⟨h1,_⟩|h
  ·exact hU n h
  ·exact .inr (by omega)
  ·exact .inr (by omega)
 ·unfold left;exact Nat.le_trans (List.countP_le_length) (by simp)
 ·intro n hn' h;exact hF n (Nat.le_trans (Nat.le_add_right _ _) hn') h
end
section
variable {P:Program}
def zSH:Value->CTy->Bool
 | .int k n,.i k'=>k==k'&&n==0
 | .bool b,.b=>!b
 | .slice none 0 0,.s _=>true
 | _,_=>false
def zAn:List Value->List CTy->Bool
 | [],[]=>true
 | v :: vs,t :: ts=>zSH v t&&zAn vs ts
 | _,_=>false
theorem zYN {v:Value}{t:CTy}(h:zSH v t=true):v=zeroV t:=by
 unfold zSH at h;split at h
 ·simp only [Bool.and_eq_true,beq_iff_eq] at h;obtain ⟨rfl,rfl⟩:=h;rfl
 ·simp only [Bool.not_eq_true'] at h;subst h;rfl
 ·rfl
 ·cases h
theorem zEg:∀{vs:List Value} {ts:List CTy},zAn vs ts=true->vs=ts.map zeroV
 | [],[],_=>rfl
 | v :: vs,t :: ts,h=>by
  simp only [zAn,Bool.and_eq_true] at h;rw [List.map_cons,zYN h.1,zEg h.2]
 | [],_ :: _,h=>by cases h
 | _ :: _,[],h=>by cases h
def zBF (P:Program)(T:TypeId)(tys:List CTy):Bool :=
 match P.info? T with
 | some i=>i.size==tys.length&&(match i.zero with
  | some z=>zAn z.cells.toList tys
  | none=>false)
 | none=>false
theorem zBG {T:TypeId}{tys:List CTy}(h:zBF P T tys=true):∃i z,P.info? T=some i/\i.size=tys.length/\i.zero=some z/\z.cells.toList=tys.map zeroV:=by
 unfold zBF at h;split at h
 ·rename_i i hi;simp only [Bool.and_eq_true,beq_iff_eq] at h;obtain ⟨h1,h2⟩:=h;split at h2
  ·rename_i z hz;exact ⟨i,z,hi,h1,hz,zEg h2⟩
  ·cases h2
 ·cases h
def zl4 (P:Program)(T:TypeId):Bool :=
 (match zcq P 4 T with
  | some (agg,tys)=>zBF P T tys&&(!agg||(match P.underlying T with
   | some (.struct fs)=>(fs.toList.mapM (fun f=>(P.info? f.type).map fun i=>(f.offset,i.size))).isSome
   | _=>false))
  | none=>true) &&
 (match P.underlying T with
  | some (.slice e)=>match zx zOY e with
   | some t=>zBF P e t.shape&&(match P.info? e with
    | some i=>decide (i.bytes<=1024)
    | none=>false)&&(match zcq P 4 e with
    | some (_,tys)=>decide (tys=t.shape)
    | none=>false)
   | none=>true
  | _=>true)
def zuV (P:Program):List Field->Nat->List CTy->Bool
 | [],_,[]=>true
 | f :: fs,off,ty :: tys=>f.name != "_" && f.offset==off&&(match P.underlying f.type,ty with
  | some (.int k),.i k'=>k==k'
  | some .bool,.b=>true
  | _,_=>false)&&zuV P fs (off+1) tys
 | _,_,_=>false
def zOB (P:Program)(T:TypeId):Bool :=
 match zcq P 4 T with
 | some (true,tys)=>!P.stoodInHeld T && !P.eqGuardType P.depth T&&(match P.underlying T with
  | some (.struct fs)=>zuV P fs.toList 0 tys
  | _=>false)
 | _=>true
theorem zOA {n:Nat}{T:TypeId}{agg:Bool}{tys:List CTy}(h:zcq P n T=some (agg,tys)) :
 (∃d,P.underlying T=some d/\zPQ d=agg/\(∀k,tys=[.i k]->agg=false->d = .int k)/\(tys=[.b]->agg=false->d = .bool))/\(agg=false->tys.length=1):=by
 cases n with
 | zero=>cases h
 | succ n =>
  simp only [zcq] at h;split at h
  ·rename_i k hu;cases h;exact ⟨⟨_,hu,rfl,fun k' h _=>by simp only [List.cons.injEq,CTy.i.injEq,and_true] at h;rw [h],fun h=>by simp at h⟩,fun _=>rfl⟩
  ·rename_i hu;cases h;exact ⟨⟨_,hu,rfl,fun k' h=>by simp at h,fun _ _=>rfl⟩,fun _=>rfl⟩
  ·rename_i e hu;split at h
   ·cases h;exact ⟨⟨_,hu,rfl,fun k' h=>by simp at h,fun h=>by simp at h⟩,fun _=>rfl⟩
   ·cases h
  ·rename_i fs hu;split at h
   ·cases h;exact ⟨⟨_,hu,rfl,fun k' _ h=>(by cases h),fun _ h=>(by cases h)⟩,fun h=>by cases h⟩
   ·cases h
  ·cases h
theorem zGj {α:Type}{T:Nat}{x:Option α}{y:α}(h:below T x=some y):T<zfr/\x=some y:=by
 unfold below at h;cases hb:Nat.blt T zfr with
 | false=>rw [hb] at h;cases h
 | true =>
  rw [hb] at h;exact ⟨by rwa [Nat.blt_eq] at hb,h⟩
theorem mapM_at {α β:Type}{g:α->Option β}:∀{l:List α} {m:List β},l.mapM g=some m->∀{k:Nat} {x:α},l[k]?=some x->m[k]?=g x
 | [],m,h,k,x,hx=>by simp at hx
 | a :: l,m,h,k,x,hx=>by
  simp only [List.mapM_cons,Option.bind_eq_bind,Option.bind_eq_some_iff,Option.pure_def,Option.some.injEq] at h;obtain ⟨b,hb,m',hm',rfl⟩:=h;cases k with
  | zero =>
   simp only [List.getElem?_cons_zero,Option.some.injEq] at hx;subst hx;rw [hb];rfl
  | succ k=>exact mapM_at hm' (by simpa using hx)
theorem zge {α β:Type}{f:α->Option β}{a:α}{l:List α}{bs:List β}(h:zcZ f (a :: l)=some bs):∃b bs',f a=some b/\zcZ f l=some bs'/\bs=b :: bs':=by
 simp only [zcZ] at h;split at h
 ·rename_i b hb;split at h
  ·rename_i bs' hbs;cases h;exact ⟨b,bs',hb,hbs,rfl⟩
  ·cases h
 ·cases h
theorem zDO (w:World)(d:Nat)(xs ys:Array Value):∀(fs:List Field) (off:Nat) (tys:List CTy) (l m:List At) (e:Bool),zuV P fs off tys=true->zcZ zl2 l=some tys->zcZ zl2 m=some tys->zuQ l m=some e ->
 xs.size=off+l.length->ys.size=off+m.length->(∀(j:Nat) (a:At) (u:Value),l[j]?=some a->xs[off+j]?=some u->VS a u)->(∀(j:Nat) (a:At) (u:Value),m[j]?=some a->ys[off+j]?=some u->VS a u) ->
 (Op.eqFields (d+1) xs ys fs).run P w = .ok e w
 | [],off,tys,l,m,e,hf,hl,hm,he,_,_,_,_=>by
  cases tys with
  | cons t ts=>cases hf
  | nil =>
   cases l with
   | cons a l=>obtain ⟨_,_,_,_,h⟩:=zge hl;cases h
   | nil =>
    cases m with
    | cons a m=>obtain ⟨_,_,_,_,h⟩:=zge hm;cases h
    | nil=>cases he;simp [Op.eqFields]
 | f :: fs,off,tys,l,m,e,hf,hl,hm,he,hsx,hsy,hx,hy=>by
  cases tys with
  | nil=>cases hf
  | cons ty tys =>
   cases l with
   | nil=>cases hl
   | cons a l =>
    cases m with
    | nil=>cases hm
    | cons c m =>
     obtain ⟨ta,tys',ha,hl',h⟩:=zge hl;cases h;obtain ⟨tc,tys'',hc,hm',h⟩:=zge hm;cases h;simp only [zuV,Bool.and_eq_true,bne_iff_ne,ne_eq,beq_iff_eq] at hf;obtain ⟨⟨⟨hn,hoff⟩,hk⟩,hrest⟩:=hf;have hxo:xs[off]?=some (xs[off]'(by simp only [List.length_cons] at hsx;omega)):=by simp
     have hyo:ys[off]?=some (ys[off]'(by simp only [List.length_cons] at hsy;omega)):=by simp
     have hvx:=hx 0 a _ rfl hxo;have hvy:=hy 0 c _ rfl hyo;have hstep:∃e0,zO4 a c=some e0/\(part f.type xs f.offset).run P w = .ok (xs[off]'(by simp only [List.length_cons] at hsx;omega)) w/\(part f.type ys f.offset).run P w = .ok (ys[off]'(by simp only [List.length_cons] at hsy;omega)) w /\
      (Op.equalIn (d+1) f.type (xs[off]'(by simp only [List.length_cons] at hsx;omega)) (ys[off]'(by simp only [List.length_cons] at hsy;omega))).run P w = .ok e0 w:=by
      rw [hoff];cases a with
      | i k n =>
       simp only [zl2,Option.some.injEq] at ha;subst ha;cases c with
       | i k' n' =>
        simp only [zl2,Option.some.injEq,CTy.i.injEq] at hc;subst hc;cases hu:P.underlying f.type with
        | none=>rw [hu] at hk;cases hk
        | some D =>
         rw [hu] at hk;cases D<;>first|(cases hk;done)|skip
         refine ⟨ieq n n',by simp [zO4],by simp [part,isAgg,run_underlying hu,hxo],by simp [part,isAgg,run_underlying hu,hyo],?_⟩
         rw [show xs[off]'(by simp only [List.length_cons] at hsx;omega) = .int k' n from hvx,show ys[off]'(by simp only [List.length_cons] at hsy;omega) = .int k' n' from hvy]
         exact run_equalIn_int w d f.type k' _ n n' hu
       | b _=>simp [zl2] at hc
       | _=>simp [zl2] at hc
      | b x =>
       simp only [zl2,Option.some.injEq] at ha;subst ha;cases c with
       | b x' =>
        cases hu:P.underlying f.type with
        | none=>rw [hu] at hk;cases hk
        | some D =>
         rw [hu] at hk;cases D<;>first|(cases hk;done)|skip
         refine ⟨zhh x x',by simp [zO4],by simp [part,isAgg,run_underlying hu,hxo],by simp [part,isAgg,run_underlying hu,hyo],?_⟩
         rw [show xs[off]'(by simp only [List.length_cons] at hsx;omega) = .bool x from hvx,show ys[off]'(by simp only [List.length_cons] at hsy;omega) = .bool x' from hvy]
         exact run_equalIn_bool' w d f.type x x' hu
       | i _ _=>simp [zl2] at hc
       | _=>simp [zl2] at hc
      | _=>simp [zl2] at ha
     obtain ⟨e0,he0,hp1,hp2,heq⟩:=hstep;have hcomb:∃e1,zuQ l m=some e1/\e=(e0&&e1):=by
      cases l with
      | nil =>
       cases hl';cases m with
       | nil =>
        simp only [zuQ,he0,Option.some.injEq] at he;exact ⟨true,rfl,by rw [<- he];simp⟩
       | cons c2 m=>obtain ⟨_,_,_,_,h⟩:=zge hm';cases h
      | cons a2 l =>
       cases m with
       | nil=>cases hm';obtain ⟨_,_,_,_,h⟩:=zge hl';cases h
       | cons c2 m =>
        simp only [zuQ,he0] at he;split at he
        ·rename_i x y h1 h2;cases h1;cases he;exact ⟨y,by simpa [zuQ] using h2,rfl⟩
        ·cases he
     obtain ⟨e1,he1,rfl⟩:=hcomb;have ih:=zDO w d xs ys fs (off+1) tys l m e1 hrest hl' hm' he1 (by simp only [List.length_cons] at hsx;omega) (by simp only [List.length_cons] at hsy;omega)
      (fun j a' u h1 h2=>hx (j+1) a' u (by simpa using h1) (by rw [<- h2];congr 1;omega)) (fun j a' u h1 h2=>hy (j+1) a' u (by simpa using h1) (by rw [<- h2];congr 1;omega))
     simp only [Op.eqFields,ne_eq,hn,not_false_eq_true,if_true,Sem.run_bind,hp1,hp2,Result.andThen_ok,heq,Sem.run_ite,ih];cases e0<;>simp
theorem zYT {C:Cfg}(hP:C.P=P)(hs:∀T,C.sty T=below T (zvE P T))(hc:∀T,C.cty T=below T (zcq P 4 T))(hf:∀T f,C.fof T f=zsQ P T f)(hchk:(List.range zfr).all (zl4 P)=true)(heq:∀T,C.eqt T=true->T<zfr->zOB P T=true):CfgOk C:=by
 subst hP;have chk:∀T,T<zfr->zl4 C.P T=true:=fun T hT=>List.all_eq_true.1 hchk T (List.mem_range.2 hT);have hcty:∀T agg tys,C.cty T=some (agg,tys)->T<zfr/\zcq C.P 4 T=some (agg,tys):=fun T agg tys h=>zGj (by rw [<- hc];exact h)
 refine ⟨fun T agg tys h=>?_,fun T t h=>?_,fun T f off n h=>?_,fun T tys h=>?_,fun T tys he h l m e xs ys w x y op hl hm hq hxs hys=>?_⟩
 ·obtain ⟨hT,h⟩:=hcty T agg tys h;obtain ⟨h1,h2⟩:=zOA h;have:=chk T hT;unfold zl4 at this;rw [h] at this;simp only [Bool.and_eq_true] at this;exact ⟨h1,zBG this.1.1,h2⟩
 ·rw [hs] at h;obtain ⟨hT,h⟩:=zGj h;unfold zvE at h;split at h
  ·rename_i e hu;have:=chk T hT;unfold zl4 at this;rw [hu] at this;simp only [h,Bool.and_eq_true] at this;obtain ⟨_,⟨h1,h2⟩,_⟩:=this;obtain ⟨i,z,g1,g2,g3,g4⟩:=zBG h1;rw [g1] at h2;exact ⟨e,hu,i,z,g1,by rw [g2,zeh],g3,g4,by simpa using h2⟩
  ·cases h
 ·rw [hf] at h;unfold zsQ at h;split at h
  ·rename_i fs hu;split at h
   ·rename_i x hx;split at h
    ·rename_i i hi;split at h
     ·cases h
     ·rename_i hne;cases h;exact ⟨fs,x,i,hu,hx,rfl,hi,rfl,hne⟩
    ·cases h
   ·cases h
  ·cases h
 ·obtain ⟨hT,h⟩:=hcty T true tys h;have:=chk T hT;unfold zl4 at this;rw [h] at this;simp only [Bool.and_eq_true,Bool.or_eq_true,Bool.not_true,Bool.false_eq_true,false_or] at this;obtain ⟨⟨_,h2⟩,_⟩:=this;split at h2
  ·rename_i fs hu;obtain ⟨places,hp⟩:=Option.isSome_iff_exists.1 h2;refine ⟨fs,places,hu,hp,fun f off n hfo=>?_⟩;rw [hf] at hfo;unfold zsQ at hfo;rw [hu] at hfo;simp only at hfo;split at hfo
   ·rename_i x hx;split at hfo
    ·rename_i i hi;split at hfo
     ·cases hfo
     ·cases hfo;rw [mapM_at hp (by simpa using hx),hi]
      rfl
    ·cases hfo
   ·cases hfo
  ·cases h2
 ·obtain ⟨hT,h⟩:=hcty T true tys h;have:=heq T he hT;unfold zOB at this;rw [h] at this;simp only [Bool.and_eq_true,Bool.not_eq_true'] at this;obtain ⟨⟨h1,h2⟩,h3⟩:=this;split at h3
  ·rename_i fs hu;have hfe:C.P.fieldsOf T=fs:=by simp [Program.fieldsOf,hu]
   refine ⟨run_eqGuard_agg w op T x y xs ys h2,?_⟩
   show (Op.equalIn (9999+1) T (.agg xs) (.agg ys)).run C.P w=_
   rw [run_equalIn_struct w 9999 T xs ys (by rw [hfe];exact hu) h1,hfe]
   exact zDO w 9998 xs ys fs.toList 0 tys l m e h3 hl hm hq (by rw [hxs.1];omega) (by rw [hys.1];omega) (fun j a u h1 h2=>hxs.2 j a u h1 (by simpa using h2)) (fun j a u h1 h2=>hys.2 j a u h1 (by simpa using h2))
  ·cases h3
end
inductive CVOk:CV->Prop
 | i (k:IntKind) (n:Int) (h:k.min<=n/\n<=k.max):CVOk (.i k n)
 | b (x:Bool):CVOk (.b x)
 | s (t:Ty) (l:List t.den) (hl:l.length<=big) (h:∀(i:Nat) (x:t.den),l[i]?=some x->∀(j:Nat) (c:CV),(t.cells x)[j]?=some c->CVOk c):CVOk (.s t l)
section
variable {P:Program}
def zxM (P:Program)(tot:Nat):List Field->Nat->Bool
 | [],off=>off==tot
 | f :: fs,off=>f.offset==off&&Nat.blt f.type zfr&&zxM P tot fs (off+P.cellsOf f.type)
def zy7 (P:Program)(T:TypeId):Bool :=
 match P.underlying T with
 | some (.struct fs)=>match zcq P 4 T with
  | some _=>zxM P (P.cellsOf T) fs.toList 0
  | none=>true
 | some (.slice e)=>match zx zOY e with
  | some _=>Nat.blt e zfr&&Nat.ble 1 (P.bytesOf e)
  | none=>true
 | _=>true
theorem zDY {α β:Type}{f g:α->Option β}(hfg:∀x y,f x=some y->g x=some y):∀{l:List α} {bs:List β},zcZ f l=some bs->zcZ g l=some bs
 | [],_,h=>h
 | a :: l,bs,h=>by
  obtain ⟨b,bs',h1,h2,rfl⟩:=zge h;simp only [zcZ,hfg a b h1,zDY hfg h2]
theorem zxX:∀{n:Nat} {T:TypeId} {x:Bool×List CTy},zcq P n T=some x->zcq P (n+1) T=some x
 | 0,_,_,h=>by cases h
 | n+1,T,x,h=>by
  rw [zcq] at h;rw [zcq];split at h
  ·exact h
  ·exact h
  ·exact h
  ·rename_i fs hu;split at h
   ·rename_i l hl;rw [zDY (f:=_) (g:=_) ?_ hl]
    ·exact h
    ·intro f y hy;split at hy
     ·rename_i z hz;cases hy;rw [zxX hz]
     ·cases hy
   ·cases h
  ·cases h
theorem zSM {T:TypeId}{tys:List CTy}(h:zBF P T tys=true):P.cellsOf T=tys.length:=by
 obtain ⟨i,z,h1,h2,_⟩:=zBG h;simp [Program.cellsOf,h1,h2]
theorem zZY {k:IntKind}{n:Int}(h:(Lit.int k n).wf=true):k.min<=n/\n<=k.max:=by
 simpa [Lit.wf] using h
theorem all_append {l m:List Nat}(h:(l++m).all (·<=reachBytes)=true):l.all (·<=reachBytes)=true/\m.all (·<=reachBytes)=true:=by
 simpa [List.all_append] using h
theorem zAz {H:Type}{e:TypeId}:∀{l:List (DataW H)},(DataW.weightsAll P e l).all (·<=reachBytes)=true->∀{i:Nat} {d:DataW H},l[i]?=some d->(d.weights P e).all (·<=reachBytes)=true
 | [],_,i,d,h=>by simp at h
 | x :: l,hw,i,d,h=>by
  simp only [DataW.weightsAll] at hw;obtain ⟨h1,h2⟩:=all_append hw;cases i with
  | zero=>simp at h;subst h;exact h1
  | succ i=>exact zAz h2 (by simpa using h)
def Opened (W:World)(cs:List Value)(tys:List CTy):Prop :=
 ∃cvs:List CV,cvs.map CV.ty=tys/\cs.length=cvs.length/\∀(j:Nat) (c:CV) (u:Value),cvs[j]?=some c->cs[j]?=some u->Rep false W u c (fun b=>b<W.heap.size)/\CVOk c
theorem Opened.append {W:World}{cs ds:List Value}{t1 t2:List CTy}(h1:Opened W cs t1)(h2:Opened W ds t2):Opened W (cs++ds) (t1++t2):=by
 obtain ⟨c1,a1,b1,d1⟩:=h1;obtain ⟨c2,a2,b2,d2⟩:=h2;refine ⟨c1++c2,by simp [a1,a2],by simp [b1,b2],fun j c u hc hu=>?_⟩
 by_cases hj:j<c1.length
 ·rw [List.getElem?_append_left hj] at hc;rw [List.getElem?_append_left (by omega)] at hu
  exact d1 j c u hc hu
 ·rw [List.getElem?_append_right (by omega)] at hc
  rw [List.getElem?_append_right (by omega)] at hu
  exact d2 _ c u hc (by rw [<- b1];exact hu)
theorem zGm {α:Type}:∀(n:Nat) (p:Nat->α->Prop),(∀i,i<n->∃x,p i x)->∃l:List α,l.length=n/\∀i x,l[i]?=some x->p i x
 | 0,p,_=>⟨[],rfl,fun i x h=>by simp at h⟩
 | n+1,p,h=>by
  obtain ⟨x,hx⟩:=h 0 (by omega)
  obtain ⟨l,h1,h2⟩:=zGm n (fun i=>p (i+1)) (fun i hi=>h (i+1) (by omega))
  refine ⟨x :: l,by simp [h1],fun i y hy=>?_⟩
  cases i with
  | zero=>simp at hy;subst hy;exact hx
  | succ i=>exact h2 i y (by simpa using hy)
theorem cells?_get {W:World}{a:Addr}{n:Nat}{cs:List Value}(h:W.cells? 0 a n=some cs):cs.length=n/\∀i,i<n->W.cell? (a.add i)=cs[i]?:=by
 unfold World.cells? at h;rw [if_pos (Nat.zero_le _)] at h;refine ⟨by simpa using mapM_some_length h,fun i hi=>mapM_some_get h i i (by simp [hi])⟩
theorem addr_add (a:Addr)(h:a.spot=none)(n m:Nat):(a.add n).add m=⟨a.block,a.off+n+m,none⟩:=by
 obtain ⟨b,o,s⟩:=a;simp only at h;subst h;rw [add_lit,add_lit]
theorem zXd (hchk:∀T,T<zfr->zl4 P T=true/\zy7 P T=true){H:Type}{enc:TypeId×Value->H}{W:World} :
 ∀(fuel:Nat) (T:TypeId) (cs:List Value) (x:DataW H×List MemPlace),T<zfr->∀(agg:Bool) (tys:List CTy),zcq P 4 T=some (agg,tys) ->
  DataW.trod enc P W 0 (fun _=>true) true fuel T cs=some x->(x.1.weights P T).all (·<=reachBytes)=true->Opened W cs tys:=by
 intro fuel
 induction fuel using Nat.strongRecOn with
 | _ fuel ih =>
  intro T cs x hT agg tys hty hx hw;obtain ⟨hc1,hc2⟩:=hchk T hT;have hty0:=hty;rw [zcq] at hty;split at hty
  ·rename_i k hu;cases hty;obtain ⟨n,rfl,rfl,hwf⟩:=DataW.trod_int hu hx;refine ⟨[.i k n],rfl,rfl,fun j c u hc hu'=>?_⟩;cases j with
   | zero=>simp at hc hu';subst hc hu';exact ⟨.i k n _,.i k n (zZY hwf)⟩
   | succ j=>simp at hc
  ·rename_i hu;cases hty;obtain ⟨b,rfl,rfl⟩:=DataW.trod_bool hu hx;refine ⟨[.b b],rfl,rfl,fun j c u hc hu'=>?_⟩;cases j with
   | zero=>simp at hc hu';subst hc hu';exact ⟨.b b _,.b b⟩
   | succ j=>simp at hc
  ·rename_i e hu;split at hty
   ·rename_i t het;cases hty;have fin:∀(v:Value) (l:List t.den),Rep false W v (.s t l) (fun b=>b<W.heap.size)->CVOk (.s t l)->Opened W [v] [.s t]:=by
     intro v l h1 h2;refine ⟨[.s t l],rfl,rfl,fun j c u hc hu'=>?_⟩;cases j with
     | zero=>simp at hc hu';subst hc hu';exact ⟨h1,h2⟩
     | succ j=>simp at hc
    have empty:CVOk (.s t []):=.s t [] (Nat.zero_le _) (fun i x h=>by simp at h)
    rcases DataW.trod_slice hu hx with ⟨rfl,rfl⟩|⟨a,len,cap,elems,rest,n,rfl,rfl,rfl,_,hlc,hcm,hel,hget,hsp,_⟩
    ·exact fin _ [] (.nil t _) empty
    ·obtain ⟨hrl,hrget⟩:=hsp rfl
     by_cases hcap:cap=0
     ·subst hcap;have hl0:len=0:=by omega
      subst hl0;exact fin _ [] (.void t a _ rfl) empty
     ·unfold zl4 at hc1;rw [hu] at hc1;simp only [het,Bool.and_eq_true] at hc1;obtain ⟨_,⟨hinfo,_⟩,hec⟩:=hc1;unfold zy7 at hc2;rw [hu] at hc2;simp only [het,Bool.and_eq_true,Nat.blt_eq,Nat.ble_eq] at hc2;obtain ⟨he,hby⟩:=hc2;have hce:P.cellsOf e=t.width:=by rw [zSM hinfo,zeh]
      have hwpos:0<t.width:=by cases t<;>simp [Ty.width]
      rw [hce] at hget hrget
      have helem:∀i,i<cap->∃cs',W.cells? 0 (a.add (i*t.width)) t.width=some cs'/\(i<len->∃y,DataW.trod enc P W 0 (fun _=>true) true n e cs'=some y/\elems[i]?=some y):=by
       intro i hi
       by_cases hil:i<len
       ·have h1:=hget i hil;rw [List.getElem?_eq_getElem (by omega)] at h1
        obtain ⟨cs',h2,h3⟩:=Option.bind_eq_some_iff.1 h1;exact ⟨cs',h2,fun _=>⟨_,h3,List.getElem?_eq_getElem (by omega)⟩⟩
       ·have h1:=hrget (i-len) (by omega)
        rw [List.getElem?_eq_getElem (by omega)] at h1
        obtain ⟨cs',h2,h3⟩:=Option.bind_eq_some_iff.1 h1;have e1:len+(i-len)=i:=by omega
        rw [e1] at h2;exact ⟨cs',h2,fun h=>absurd h hil⟩
      have hcell:∀i j,i<cap->j<t.width->∃v,W.cell? ((a.add (i*t.width)).add j)=some v:=by
       intro i j hi hj;obtain ⟨cs',h1,_⟩:=helem i hi;obtain ⟨h2,h3⟩:=cells?_get h1;exact ⟨_,(h3 j hj).trans (List.getElem?_eq_getElem (by omega))⟩
      obtain ⟨v0,hv0⟩:=hcell 0 0 (by omega) hwpos
      have hadd0:(a.add (0*t.width)).add 0=a:=by simp [Addr.add]
      rw [hadd0] at hv0;obtain ⟨arr,et,fz,hb,hspot⟩:∃arr et fz,W.heap[a.block]?=some (.cells arr et fz)/\a.spot=none:=by
       unfold World.cell? at hv0;split at hv0
       ·rename_i c et fz hb;split at hv0
        ·cases hv0
        ·rename_i hs;exact ⟨c,et,fz,hb,by simpa using hs⟩
       ·cases hv0
      have hcarr:∀i j,W.cell? ((a.add (i*t.width)).add j)=arr[a.off+i*t.width+j]?:=by
       intro i j;rw [addr_add a hspot,cell_of_block hb]
      have hsize:a.off+cap*t.width<=arr.size:=by
       obtain ⟨v,hv⟩:=hcell (cap-1) (t.width-1) (by omega) (by omega)
       rw [hcarr] at hv;have:=(Array.getElem?_eq_some_iff.1 hv).1;have h1:(cap-1)*t.width+t.width=cap*t.width:=by
        rw [<- Nat.succ_mul];congr 1;omega
       omega
      have hwl:((DataW.slice (elems.map (·.1)) (rest.map (·.1))).weights P T).all (·<=reachBytes)=true:=hw;simp only [DataW.weights,hu,List.all_cons,Bool.and_eq_true,decide_eq_true_eq,List.length_map] at hwl;obtain ⟨hbytes,hwe⟩:=hwl;obtain ⟨hwe,_⟩:=all_append hwe;have hlen:len<=big:=by
       have h1:(elems.length+rest.length)*1<=(elems.length+rest.length)*P.bytesOf e:=Nat.mul_le_mul_left _ hby;have:reachBytes<=big:=by decide
       omega
      split at hec
      ·rename_i agg' tys' hte;simp only [decide_eq_true_eq] at hec;subst hec
       have hex:∀i,i<len->∃y:t.den,∀(j:Nat) (c:CV) (u:Value),(t.cells y)[j]?=some c->arr[a.off+i*t.width+j]?=some u->Rep false W u c (fun b=>b<W.heap.size)/\CVOk c:=by
        intro i hi;obtain ⟨cs',h1,h2⟩:=helem i (by omega)
        obtain ⟨y,h3,h4⟩:=h2 hi;obtain ⟨cvs,g1,g2,g3⟩:=ih n (by omega) e cs' y he agg' t.shape hte h3 (zAz hwe (by rw [List.getElem?_map,h4];rfl))
        obtain ⟨z,hz⟩:=zIi g1;refine ⟨z,fun j c u hc hu'=>g3 j c u ?_ ?_⟩
        ·rw [<- zkS hz];exact hc
        ·obtain ⟨k1,k2⟩:=cells?_get h1;have hj:j<t.width:=by have:=(List.getElem?_eq_some_iff.1 hc).1;rwa [zcU] at this
         rw [<- k2 j hj,hcarr];exact hu'
       obtain ⟨l,hl1,hl2⟩:=zGm len _ hex;have hvv:∀i j,i<l.length->j<t.width->arr[a.off+i*t.width+j]?=some ((arr[a.off+i*t.width+j]?).getD undef):=by
        intro i j hi hj;have h1:(i+1)*t.width<=cap*t.width:=Nat.mul_le_mul_right _ (by omega)
        rw [Nat.succ_mul] at h1;have:a.off+i*t.width+j<arr.size:=by omega
        simp [this]
       have hrep:Rep false W (.slice (some ⟨a.block,a.off,none⟩) l.length cap) (.s t l) (fun b=>b<W.heap.size):=by
        refine .sl t l a.block a.off cap arr et fz (fun i j=>(arr[a.off+i*t.width+j]?).getD undef) (fun _ _ b=>b<W.heap.size) _ hb (fun h=>by cases h) (by omega) (by omega) hsize ?_ (fun i j x _ _ hx=>⟨hx,fun h=>by cases h⟩) (fun h=>by cases h) hvv ?_
        ·exact (Array.getElem?_eq_some_iff.1 hb).1
        ·intro i z hz j c hc;have hi:i<l.length:=(List.getElem?_eq_some_iff.1 hz).1;have hj:j<t.width:=by have:=(List.getElem?_eq_some_iff.1 hc).1;rwa [zcU] at this
         exact (hl2 i z hz j c _ hc (hvv i j hi hj)).1
       have ha:a=⟨a.block,a.off,none⟩:=by
        obtain ⟨b,o,s⟩:=a;simp only at hspot;subst hspot;rfl
       rw [hl1,<- ha] at hrep;refine fin _ l hrep (.s t l (by omega) (fun i z hz j c hc=>?_))
       have hi:i<l.length:=(List.getElem?_eq_some_iff.1 hz).1;have hj:j<t.width:=by have:=(List.getElem?_eq_some_iff.1 hc).1;rwa [zcU] at this
       exact (hl2 i z hz j c _ hc (hvv i j hi hj)).2
      ·cases hec
   ·cases hty
  ·rename_i fs hu;split at hty
   ·rename_i l hl;cases hty;obtain ⟨xs,n,rfl,rfl,hcl,hxl,hfld⟩:=DataW.trod_struct hu hx;unfold zy7 at hc2;rw [hu,hty0] at hc2;simp only at hc2;have hww:(DataW.weightsEach P (fs.toList.map (·.type)) (xs.map (·.1))).all (·<=reachBytes)=true:=by
     have:((DataW.agg (xs.map (·.1))).weights P T).all (·<=reachBytes)=true:=hw;simpa only [DataW.weights,hu] using this
    have key:∀(gs:List Field) (ys:List (DataW H×List MemPlace)) (ls:List (List CTy)) (off:Nat),zxM P (P.cellsOf T) gs off=true->gs.length=ys.length ->
     (∀(i:Nat) (f:Field),gs[i]?=some f->DataW.trod enc P W 0 (fun _=>true) true n f.type ((cs.drop f.offset).take (P.cellsOf f.type))=ys[i]?) ->
     zcZ (fun (f:Field)=>match zcq P 3 f.type with|some x=>some x.2|none=>none) gs=some ls->(DataW.weightsEach P (gs.map (·.type)) (ys.map (·.1))).all (·<=reachBytes)=true ->
     off<=P.cellsOf T/\Opened W (cs.drop off) ls.flatten:=by
     intro gs
     induction gs with
     | nil =>
      intro ys ls off ho _ _ hls _;cases hls;simp only [zxM,beq_iff_eq] at ho;subst ho;refine ⟨Nat.le_refl _,[],rfl,by simp [hcl],fun j c u h=>by simp at h⟩
     | cons f gs ihg =>
      intro ys ls off ho hlen hf hls hwt;obtain ⟨b,ls',hb1,hb2,rfl⟩:=zge hls;cases ys with
      | nil=>simp at hlen
      | cons y ys =>
       simp only [zxM,Bool.and_eq_true,beq_iff_eq,Nat.blt_eq] at ho;obtain ⟨⟨ho1,ho2⟩,ho3⟩:=ho;split at hb1
       ·rename_i z hz;cases hb1;obtain ⟨agg',tys'⟩:=z;have hy:=hf 0 f rfl;simp only [List.getElem?_cons_zero] at hy;simp only [List.map_cons,DataW.weightsEach] at hwt;obtain ⟨hw1,hw2⟩:=all_append hwt;have h4:=zxX hz;obtain ⟨g1,g2⟩:=ihg ys ls' (off+P.cellsOf f.type) ho3 (by simpa using hlen) (fun i g hg=>by simpa using hf (i+1) g (by simpa using hg)) hb2 hw2
        have o1:=ih n (by omega) f.type _ y ho2 agg' tys' h4 hy hw1
        rw [ho1] at o1;refine ⟨by omega,?_⟩
        have e1:cs.drop off=(cs.drop off).take (P.cellsOf f.type)++cs.drop (off+P.cellsOf f.type):=by
         rw [<- List.drop_drop,List.take_append_drop]
        rw [e1];exact Opened.append o1 g2
       ·cases hb1
    have:=(key fs.toList xs l 0 hc2 (by simp [hxl]) (fun i f hf=>hfld i f (by simpa using hf)) hl hww).2
    simpa using this
   ·cases hty
  ·cases hty
end
theorem zUR:(List.range zfr).all (zl4 Tryz.prog)=true:=by kernel_rfl
theorem z1D:zCp.all (fun T=>!Nat.blt T zfr||zOB Tryz.prog T)=true:=by kernel_rfl
theorem zYV:Tryz.prog.funcs.toList.all (fun fn=>!(fn.name == "runtime.NumGoroutine"))=true:=by kernel_rfl
theorem z0O (T:TypeId)(h0:zCp.contains T=true)(hT:T<zfr):zOB Tryz.prog T=true:=by
 have h1:T∈zCp:=by
  revert h0
  generalize zCp=l;intro h0;simpa using h0
 have hb:Nat.blt T zfr=true:=by rw [Nat.blt_eq];exact hT
 have h2:=List.all_eq_true.1 z1D T h1;rw [hb,Bool.not_true,Bool.false_or] at h2;exact h2
theorem z1C (ctr:FuncId->Option (List AV->Option (Bool×List AV)))(mct:FuncId->Option (CV->Int->Option (Bool×CV×Int)))(pct:FuncId->Option (List Bool×(List CV->List AV->Option (Bool×List CV×List AV))))(tct:FuncId->Option (List Bool×Option (Nat×Nat×List (List Nat))×(List AV->Option (Bool×List AV)))):CfgOk (zke ctr mct pct tct):=by
 have h1:(zke ctr mct pct tct).P=Tryz.prog:=by simp only [zke]
 have h2:∀T,(zke ctr mct pct tct).sty T=below T (zvE Tryz.prog T):=fun _=>by simp only [zke]
 have h3:∀T,(zke ctr mct pct tct).cty T=below T (zcq Tryz.prog 4 T):=fun _=>by simp only [zke]
 have h4:∀T f,(zke ctr mct pct tct).fof T f=zsQ Tryz.prog T f:=fun _ _=>by simp only [zke]
 have h5:∀T,(zke ctr mct pct tct).eqt T=zCp.contains T:=fun _=>by simp only [zke]
 refine zYT h1 h2 h3 h4 zUR ?_;intro T h hT;rw [h5] at h;exact z0O T h hT
theorem z07 (ctr:FuncId->Option (List AV->Option (Bool×List AV)))(mct:FuncId->Option (CV->Int->Option (Bool×CV×Int)))(pct:FuncId->Option (List Bool×(List CV->List AV->Option (Bool×List CV×List AV))))(tct:FuncId->Option (List Bool×Option (Nat×Nat×List (List Nat))×(List AV->Option (Bool×List AV)))):NameOk (zke ctr mct pct tct):=by
 refine ⟨fun f fn hf=>?_⟩;have:=List.all_eq_true.1 zYV fn (by
  have:Tryz.prog.funcs[f]?=some fn:=hf;rw [<- Array.getElem?_toList] at this;exact List.mem_of_getElem? this)
 simpa using this
theorem zdF {ctr:FuncId->Option (List AV->Option (Bool×List AV))}{mct:FuncId->Option (CV->Int->Option (Bool×CV×Int))}{pct:FuncId->Option (List Bool×(List CV->List AV->Option (Bool×List CV×List AV)))}{tct:FuncId->Option (List Bool×Option (Nat×Nat×List (List Nat))×(List AV->Option (Bool×List AV)))}(h:∀f run,ctr f=some run->Holds Tryz.prog f run)(hm:∀f run,mct f=some run->zen Tryz.prog f run)(hp:∀f own run,pct f=some (own,run)->zeJ Tryz.prog f own run)(ht:∀f own inp run,tct f=some (own,inp,run)->zez Tryz.prog f own inp run):EngOk (zke ctr mct pct tct):=by
 have hC:=z1C ctr mct pct tct;have hH:CtrOk (zke ctr mct pct tct):=⟨h⟩;have hG:=zZo hC ⟨hm⟩ ⟨hp⟩ ⟨ht⟩;have hN:=z07 ctr mct pct tct;exact ⟨hC,hH,hG,hN,z0T hC hH hG hN⟩
section
open Go Go.ChangeShapes Go.WideShapes Go.ChangeAt
def AV.sh:AV->Bool×List CTy
 | .one c=>(false,[c.ty])
 | .agg l=>(true,l.map CV.ty)
section
variable {P:Program}
theorem zLR {T:TypeId}{agg:Bool}{tys:List CTy}(h:zcq P 4 T=some (agg,tys)) :
 (agg=true/\∃fs,P.underlying T=some (.struct fs))\/(agg=false/\tys.length=1/\((∃k,P.underlying T=some (.int k))\/P.underlying T=some .bool\/∃e,P.underlying T=some (.slice e))):=by
 rw [zcq] at h;split at h
 ·rename_i k hu;cases h;exact .inr ⟨rfl,rfl,.inl ⟨k,hu⟩⟩
 ·rename_i hu;cases h;exact .inr ⟨rfl,rfl,.inr (.inl hu)⟩
 ·rename_i e hu;split at h
  ·cases h;exact .inr ⟨rfl,rfl,.inr (.inr ⟨e,hu⟩)⟩
  ·cases h
 ·rename_i fs hu;split at h
  ·cases h;exact .inl ⟨rfl,fs,hu⟩
  ·cases h
 ·cases h
theorem zYk {W:World}{T:TypeId}{v:Value}{base:Nat}(hu:(∃k,P.underlying T=some (.int k))\/P.underlying T=some .bool\/∃e,P.underlying T=some (.slice e))(h:Value.okWide P W .any base T v):v.cells = #[v]:=by
 cases v with
 | agg cs =>
  exfalso;rcases hu with ⟨k,hu⟩|hu|⟨e,hu⟩<;>simp [Value.okWide,hu,Cell.okWide,Cell.ok] at h
 | _=>rfl
theorem zMc (hchk:∀T,T<zfr->zl4 P T=true/\zy7 P T=true){H:Type}{enc:TypeId×Value->H}{W:World}{base:Nat} :
 ∀(ts:List TypeId) (vs:List Value) (ds:List (DataW H)) (p:List MemPlace),DataW.TrodAll enc P W 0 (fun _=>true) true ts vs ds p ->
  (∀(j:Nat) (t:TypeId) (v:Value),ts[j]?=some t->vs[j]?=some v->Value.okWide P W .any base t v)->(∀t∈ts,t<zfr/\(zcq P 4 t).isSome=true) ->
  (DataW.weightsEach P ts ds).all (·<=reachBytes)=true ->
  ∃(avs:List AV) (xs:List Value),avs.map (fun a=>some a.sh)=ts.map (zcq P 4)/\zdO false W (zI avs) xs (fun _ b=>b<W.heap.size)/\zcn avs xs=vs/\∀c∈zI avs,CVOk c
 | [],vs,ds,p,h,_,_,_=>by
  obtain ⟨rfl,rfl,rfl⟩:=trodAll_nil h;exact ⟨[],[],rfl,⟨rfl,fun i c x h=>by simp [zI] at h⟩,rfl,fun c h=>by simp [zI] at h⟩
 | T :: ts,vs,ds,p,h,hv,ht,hw=>by
  obtain ⟨v,vs',d,ds',p1,q,rfl,rfl,rfl,h1,h2⟩:=trodAll_cons h;simp only [DataW.weightsEach] at hw;obtain ⟨hw1,hw2⟩:=all_append hw;obtain ⟨avs,xs,g1,g2,g3,g4⟩:=zMc hchk ts vs' ds' q h2 (fun j t v h1 h2=>hv (j+1) t v (by simpa using h1) (by simpa using h2)) (fun t h=>ht t (by simp [h])) hw2
  obtain ⟨hT,hsome⟩:=ht T (by simp)
  obtain ⟨⟨agg,tys⟩,htc⟩:=Option.isSome_iff_exists.1 hsome;obtain ⟨fuel,hf⟩:=h1;obtain ⟨cvs,e1,e2,e3⟩:=zXd hchk fuel T _ _ hT agg tys htc hf hw1;have hv0:=hv 0 T v rfl rfl;have app:∀a:AV,a.cvs=cvs->zdO false W (zI (a :: avs)) (v.cells.toList++xs) (fun _ b=>b<W.heap.size)/\∀c∈zI (a :: avs),CVOk c:=by
   intro a ha;have e:zI (a :: avs)=cvs++zI avs:=by simp [zI,ha]
   rw [e];refine ⟨zdO.append ⟨e2,fun i c x hc hx=>(e3 i c x hc hx).1⟩ g2,fun c hc=>?_⟩;rcases List.mem_append.1 hc with hc|hc
   ·obtain ⟨i,hi⟩:=List.mem_iff_getElem?.1 hc;have hlt:i<v.cells.toList.length:=by rw [e2];exact (List.getElem?_eq_some_iff.1 hi).1
    exact (e3 i c _ hi (List.getElem?_eq_getElem hlt)).2
   ·exact g4 c hc
  rcases zLR htc with ⟨rfl,fs,hu⟩|⟨rfl,hl1,hu⟩
  ·obtain ⟨cs,rfl,_⟩:∃cs,v = .agg cs/\True:=by
    simp only [Value.okWide,hu] at hv0;obtain ⟨cs,h,_⟩:=hv0;exact ⟨cs,h,trivial⟩
   obtain ⟨a1,a2⟩:=app (.agg cvs) rfl;refine ⟨.agg cvs :: avs,_,?_,a1,?_,a2⟩
   ·rw [List.map_cons,List.map_cons,g1,htc];simp only [AV.sh,e1]
   ·simp only [Value.cells] at e2;simp only [zcn,Value.cells,<- e2,List.take_left',List.drop_left',g3,Array.toArray_toList]
  ·have hcells:=zYk hu hv0;rw [<- e1] at hl1;obtain ⟨c,rfl⟩:∃c,cvs=[c]:=by
    match cvs,hl1 with
    | [c],_=>exact ⟨c,rfl⟩
   obtain ⟨a1,a2⟩:=app (.one c) rfl;refine ⟨.one c :: avs,_,?_,a1,?_,a2⟩
   ·rw [List.map_cons,List.map_cons,g1,htc,<- e1];rfl
   ·rw [hcells];simp only [zcn];simp [g3]
theorem zAy (hl:laidOutB P=true){H:Type}{enc:TypeId×Value->H}{W W':World}(hb:Go.RowKit.Below W.heap.size W W'){sp:Nat->Bool}:∀(ts:List TypeId) (vs:List Value) (ds:List (DataW H)) (ps:List MemPlace),(∀t∈ts,P.readableRec t=true/\t<P.types.size) ->
 DataW.TrodAll enc P W 0 (fun _=>true) true ts vs ds ps->(∀x∈ps,x.block<W.heap.size/\sp x.block=true)->DataW.TrodAll enc P W' 0 sp true ts vs ds ps
 | [],vs,ds,ps,_,h,_=>by
  obtain ⟨rfl,rfl,rfl⟩:=trodAll_nil h;exact rfl
 | T :: ts,vs,ds,ps,ht,h,hlt=>by
  obtain ⟨v,vs',d,ds',p,q,rfl,rfl,rfl,h1,h2⟩:=trodAll_cons h;obtain ⟨hr,hrow⟩:=ht T (by simp)
  exact ⟨p,q,WideElems.Trod_stays hl hr hrow h1 (fun x hx=>hb.same (hlt x (List.mem_append_left _ hx)).1) (fun x hx=>(hlt x (List.mem_append_left _ hx)).2),
   zAy hl hb ts vs' ds' q (fun t h=>ht t (by simp [h])) h2 (fun x hx=>hlt x (List.mem_append_right _ hx)),rfl⟩
theorem zMR {W W':World}(h:Grown W W')(may:MemPlace->Prop):W.keptBut W' may:=by
 refine ⟨h.os,h.output,fun i hi=>?_⟩;rw [h.keep i hi];cases hc:W.heap[i]? with
 | none=>rfl
 | some o =>
  cases o<;>first|rfl|exact ⟨rfl,rfl,rfl,fun _ _=>rfl⟩|exact .inr ⟨rfl,rfl⟩
def zYq (P:Program)(ts:List TypeId):Bool:=ts.all fun T=>Nat.blt T zfr&&(zcq P 4 T).isSome&&P.readableRec T&&Nat.blt T P.types.size
def zZ0 (P:Program)(ts:List TypeId)(avs:List AV):Prop:=avs.map (fun a=>some a.sh)=ts.map (zcq P 4)/\∀c∈zI avs,CVOk c
def zOZ (P:Program)(f:FuncId)(ts:List TypeId):Prop :=
 ∃run,Holds P f run/\∀avs,zZ0 P ts avs->run avs=some (true,[.one (.b true)])
theorem zHD (hchk:∀T,T<zfr->zl4 P T=true/\zy7 P T=true)(hlo:laidOutB P=true){s:ChangeSpec}{f:FuncId}{fn:Func}{B:TypeId}(hvars:s.vars=[])(hfn:∀(H:Type) (ds:List (DataW H)),ds.length=fn.params.toList.length->s.fn H ds={ results:=[.lit (.bool true)],args:=ds })(hpars:zYq P fn.params.toList=true)(hres:fn.resultTypes = #[B])(hB:P.underlying B=some .bool)(hl:zOZ P f fn.params.toList){H:Type}{enc:TypeId×Value->H}{apart fresh handsOn:Bool}(W:World)(base:Nat)(args:Array Value)(ds gs:List (DataW H))(before:List MemPlace)(hval:∀(j:Nat) t v,fn.params[j]?=some t->args[j]?=some v->Value.okWide P W .any base t v)(hW:DataW.Whole enc P fn.params.toList s.vars apart W args.toList ds gs before)(hsz:(DataW.weightsEach P (fn.params.toList++s.plain.varTypes P) (ds++gs)).all (·<=reachBytes)=true) :
 Calls P f args W fun e W'=>∃v,e = .returned v/\s.post enc P fn apart fresh handsOn false W args v W':=by
 have hW':=hW;obtain ⟨p,q,hA,hV,rfl,hfz,hnd⟩:=hW;rw [hvars] at hV;obtain ⟨rfl,rfl⟩:=trodVars_none hV;have hvt:s.plain.varTypes P=[]:=by
  unfold DataSpec.varTypes
  show s.vars.filterMap _=[]
  rw [hvars];rfl
 rw [hvt,List.append_nil,List.append_nil] at hsz;unfold zYq at hpars;simp only [List.all_eq_true,Bool.and_eq_true,Nat.blt_eq] at hpars;have hval':∀(j:Nat) (t:TypeId) (v:Value),fn.params.toList[j]?=some t->args.toList[j]?=some v->Value.okWide P W .any base t v:=by
  intro j t v h1 h2;rw [Array.getElem?_toList] at h1 h2;exact hval j t v h1 h2
 obtain ⟨avs,xs,g1,g2,g3,g4⟩:=zMc hchk fn.params.toList args.toList ds p hA hval' (fun t ht=>⟨(hpars t ht).1.1.1,(hpars t ht).1.1.2⟩) hsz;obtain ⟨run,hH,hrun⟩:=hl;have hcall:=hH.2 W avs xs _ g2 (hrun avs ⟨g1,g4⟩);have hargs:(zcn avs xs).toArray=args:=by rw [g3,Array.toArray_toList]
 rw [hargs] at hcall;have hlen:∀(ts:List TypeId) (vs:List Value) (ds:List (DataW H)) (ps:List MemPlace),DataW.TrodAll enc P W 0 (fun _=>true) true ts vs ds ps->ds.length=ts.length:=by
  intro ts
  induction ts with
  | nil=>intro vs ds ps h;obtain ⟨_,rfl,_⟩:=trodAll_nil h;rfl
  | cons t ts ih =>
   intro vs ds ps h;obtain ⟨v,vs',d,ds',p,q,rfl,rfl,rfl,_,h2⟩:=trodAll_cons h;simp [ih vs' ds' q h2]
 refine hcall.mono ?_;intro e W1 he;cases e with
 | panicked c=>exact he.elim
 | outgrown=>exact he.elim
 | returned v =>
  obtain ⟨hg,ys,K,hrep,hv,_⟩:=he;have hv1:v = .bool true:=by
   match ys,hrep with
   | [],h=>exact absurd h.1 (by simp [zI,AV.cvs])
   | [y],h =>
    have:=(h.2 0 (.b true) y rfl rfl).bool_inv;rw [hv,this];rfl
   | y :: z :: r,h=>exact absurd h.1 (by simp [zI,AV.cvs])
  subst hv1;refine ⟨_,rfl,ds,[],p++[],[],p,[],hW',?_,?_,?_,zMR hg _,fun h=>by cases h⟩
  ·rw [List.append_nil,hfn H ds (hlen _ _ _ _ hA),hres];exact ⟨[],[],⟨1,by simp [DataW.trod,hB,Value.cells]⟩,rfl,rfl⟩
  ·rw [List.append_nil,hfn H ds (hlen _ _ _ _ hA)];have hb:Go.RowKit.Below W.heap.size W W1:=⟨hg.os,hg.tape,hg.output,hg.size,hg.keep⟩;have hlt:∀x∈p,x.block<W.heap.size:=fun x hx=>by simpa using hW'.lt x (List.mem_append_left _ hx)
   exact zAy hlo hb _ _ _ _ (fun t ht=>⟨(hpars t ht).1.2,(hpars t ht).2⟩) hA (fun x hx=>⟨hlt x hx,by simpa using hlt x hx⟩)
  ·rw [hvars,List.append_nil,hfn H ds (hlen _ _ _ _ hA)];rfl
end
theorem z1E:(List.range zfr).all (zy7 Tryz.prog)=true:=by kernel_rfl
theorem zZs:laidOutB Tryz.prog=true:=by kernel_rfl
theorem own:ownKnob Tryz.prog.godebug=none:=by kernel_rfl
theorem zYU (T:TypeId)(hT:T<zfr):zl4 Tryz.prog T=true/\zy7 Tryz.prog T=true :=
 ⟨List.all_eq_true.1 zUR T (List.mem_range.2 hT),List.all_eq_true.1 z1E T (List.mem_range.2 hT)⟩
abbrev Good (ts:List TypeId)(avs:List AV):Prop:=zZ0 Tryz.prog ts avs
abbrev zUL (f:FuncId)(ts:List TypeId):Prop:=zOZ Tryz.prog f ts
theorem zSJ {ctr:FuncId->Option (List AV->Option (Bool×List AV))}{mct:FuncId->Option (CV->Int->Option (Bool×CV×Int))}{pct:FuncId->Option (List Bool×(List CV->List AV->Option (Bool×List CV×List AV)))}{tct:FuncId->Option (List Bool×Option (Nat×Nat×List (List Nat))×(List AV->Option (Bool×List AV)))}(hctr:∀f run,ctr f=some run->Holds Tryz.prog f run)(hmct:∀f run,mct f=some run->zen Tryz.prog f run)(hpct:∀f own run,pct f=some (own,run)->zeJ Tryz.prog f own run)(htct:∀f own inp run,tct f=some (own,inp,run)->zez Tryz.prog f own inp run){f:FuncId}{ts:List TypeId}(hf:FnOk Tryz.prog f)(h:∀avs,Good ts avs->∃tms N D,evalFn (zke ctr mct pct tct) tms N D f avs=some [.one (.b true)]):zUL f ts:=by
 refine ⟨fun avs=>open Classical in if Good ts avs then some (true,[.one (.b true)]) else none,zAp (zdF hctr hmct hpct htct) hf ?_,fun avs hg=>by simp [hg]⟩
 intro avs rs _ hr;split at hr
 ·rename_i hg;cases hr;exact h avs hg
 ·cases hr
end
def zl6 (C:Cfg)(tms:FuncId->Nat->Option Tmpl)(N D:Nat)(f:FuncId)(t:Ty)(l:List t.den)(k:Int):Option Ans :=
 zuS C tms N (zsJ C tms N D) f [.v (.at (.sl 0 [])),.v (.at (.i .i64 k))] { tm:=[.v (.at (.sl 0 []))],lo:=[],ro:=[(0,⟨t,l,true,none⟩)],stk:=[],nid:=1,ep:=0 } fun rs st =>
  match rs,st.tm with
  | [.at (.i .i64 k')],[.v (.at (.sl r []))]=>match st.root r with
   | some R=>cond R.own (some [.one (.s R.t R.l),.one (.i .i64 k')]) none
   | none=>none
  | _,_=>none
theorem zd5 {C:Cfg}(hO:EngOk C){f:FuncId}{run:CV->Int->Option (Bool×CV×Int)}(hf:FnOk C.P f)(h:∀(t:Ty) (l:List t.den) (k:Int) (c':CV) (k':Int),(∃w v S,Rep true w v (.s t l) S)->run (.s t l) k=some (true,c',k')->∃tms N D,zl6 C tms N D f t l k=some [.one c',.one (.i .i64 k')]):zen C.P f run:=by
 refine ⟨hf,fun w v t l k S c' k' hrep hS hrun=>?_⟩;obtain ⟨tms,N,D,hev⟩:=h t l k c' k' ⟨w,v,S,hrep⟩ hrun;unfold zl6 at hev;generalize hst:({ tm:=[.v (.at (.sl 0 []))],lo:=[],ro:=[(0,⟨t,l,true,none⟩)],stk:=[],nid:=1,ep:=0 }:St)=st at hev;have hroot:∀(r:Nat) (R:Root),zx st.ro r=some R->r=0/\R=⟨t,l,true,none⟩:=by
  intro r R hR;rw [<- hst] at hR;simp only [zx] at hR;split at hR
  ·rename_i he;simp only [beq_iff_eq] at he;cases hR;exact ⟨he.symm,rfl⟩
  ·cases hR
 have hlo:∀l,zx st.lo l=none:=fun l=>by rw [<- hst];rfl
 obtain ⟨⟨a0,cap0,hv0,_⟩,_⟩:=hrep.len
 let E:Env:={ ρ:=fun _=>v,φ:=fun _=>S,β:=fun _=>0,κ:=w }
 have hva:VA w st E (.sl 0 []) v:=⟨⟨a0,_,cap0,hv0⟩,fun R _=>rfl⟩;have hSim:Sim w S (fun n=>n<1) st E #[v] [] w:=by
  refine ⟨⟨rfl,rfl,rfl,Nat.le_refl _,fun _ _ _=>rfl,fun r R hR=>?_,fun r R _ x hx=>hS x hx,fun r R hR ho=>?_,fun r R r' R' hR ho hR' _ hne=>?_,fun l cs hl=>?_,fun l l' cs cs' hl=>?_,fun l cs r R hl=>?_,fun r R e hR he=>?_,rfl⟩,⟨fun n R hn=>?_,fun n cs hn=>?_,fun m hm n hn=>?_,fun f hf=>?_⟩,⟨?_,fun i m u hm hu=>?_⟩,?_⟩
  ·obtain ⟨rfl,rfl⟩:=hroot r R (zbL hR).1;exact hrep
  ·obtain ⟨rfl,rfl⟩:=hroot r R (zbL hR).1;exact ⟨rfl,fun x hx=>.inl hx⟩
  ·obtain ⟨rfl,_⟩:=hroot r R (zbL hR).1;obtain ⟨rfl,_⟩:=hroot r' R' (zbL hR').1;exact absurd rfl hne
  ·rw [hlo] at hl;cases hl
  ·rw [hlo] at hl;cases hl
  ·rw [hlo] at hl;cases hl
  ·obtain ⟨rfl,rfl⟩:=hroot r R hR;cases he
  ·obtain ⟨rfl,rfl⟩:=hroot n R hn;exact Nat.lt_succ_self _
  ·rw [hlo] at hn;cases hn
  ·rw [<- hst] at hm;simp only [List.mem_singleton] at hm;subst hm;simp only [MV.ids,zbU,zW,At.ids,zbA,zbB,List.append_nil,List.flatMap_cons,List.flatMap_nil,List.mem_singleton] at hn;subst hn;exact Nat.lt_succ_self _
  ·rw [<- hst] at hf;simp at hf
  ·rw [<- hst];rfl
  ·rw [<- hst] at hm;cases i with
   | zero=>simp at hm hu;subst hm hu;exact hva
   | succ i=>simp at hm
  ·rw [<- hst];trivial
 have hnid:st.nid=1:=by rw [<- hst]
 obtain ⟨_,hcalls⟩:=ziz hO (zhB hO (tms:=tms) (N:=N) D) f _ st _ _ hev w S (fun n=>n<1) E #[v] [] w #[v,.int .i64 k]
  (fun u w'=>w'.os=w.os/\w'.tape=w.tape/\w'.output=w.output/\w.heap.size<=w'.heap.size/\(∀b,b<w.heap.size->¬ S b->w'.heap[b]?=w.heap[b]?)/\u = .int .i64 k' /\
   ∃S':zbn,Rep true w' v c' S'/\∀x,S' x->(S x\/w.heap.size<=x)/\x<w'.heap.size) hSim (fun n hn h=>by omega)
  rfl (fun i m u hm hu=>by
   match i with
   | 0=>simp at hm hu;subst hm hu;exact hva
   | 1=>simp at hm hu;subst hm hu;rfl
   | i+2=>simp at hm)
  (fun m hm n hn=>by
   simp only [List.mem_cons,List.not_mem_nil,or_false] at hm;rcases hm with rfl|rfl
   ·simp only [MV.ids,zbU,zW,At.ids,zbA,zbB,List.append_nil,List.flatMap_cons,List.flatMap_nil,List.mem_singleton] at hn;subst hn;exact Nat.lt_succ_self _
   ·simp [MV.ids,zbU,zW,At.ids,zbA,zbB] at hn)
  (fun U' st' E' w' tvs u hS' _ _ _ hv _ hans=>by
   split at hans
   ·rename_i k2 r htm _;split at hans
    ·rename_i R hR;cases hown:R.own with
     | false=>rw [hown] at hans;cases hans
     | true =>
      rw [hown] at hans;simp only [cond_true,Option.some.injEq,List.cons.injEq,AV.one.injEq,CV.i.injEq,true_and,and_true] at hans;obtain ⟨rfl,rfl⟩:=hans;have hM:=hS'.mem;have hsl:=hS'.tm.2 0 (.v (.at (.sl r []))) v (by rw [htm];rfl) rfl
      have hρ:=hsl.2 R hR;simp only [zbi,Option.some.injEq] at hρ;have hr:=hM.rep r R hR;rw [hown,hρ] at hr;refine ⟨hM.os,hM.tape,hM.output,hM.size,fun b hb hn=>hM.keep b hb hn,hv,E'.φ r,hr,fun x hx=>⟨(hM.mine r R hR hown).2 x hx,hM.rlt r R hR x hx⟩⟩
    ·cases hans
   ·cases hans)
 refine hcalls.mono ?_;intro e w' he;cases e with
 | returned u=>exact he
 | panicked chain=>exact he.elim
 | outgrown=>exact he.elim
def St.blkEnd (st:St):List Bool->List At->List MV->Option (List CV×List Nat)
 | [],[],[]=>some ([],[])
 | own :: ms,a :: r,h :: hs =>
  match St.blkEnd st ms r hs with
  | none=>none
  | some (cs,ks) =>
   match a with
   | .i k n=>some (.i k n :: cs,ks)
   | .b x=>some (.b x :: cs,ks)
   | .sl q [] =>
    match st.root q with
    | some R =>
     match own with
     | true=>if R.own && !ks.contains q then some (.s R.t R.l :: cs,q :: ks) else none
     | false =>
      match h with
      | .v (.at (.sl q' []))=>if q==q' then some (.s R.t R.l :: cs,ks) else none
      | _=>none
    | none=>none
   | _=>none
 | _,_,_=>none
def ze5:List Bool->List CV->Nat->List (Nat×Root)
 | own :: ms,.s t l :: cs,id=>(id,⟨t,l,own,none⟩) :: ze5 ms cs (id+1)
 | _ :: ms,_ :: cs,id=>ze5 ms cs (id+1)
 | _,_,_=>[]
def zU5 (own:List Bool)(cs:List CV)(args:List AV):St :=
 { tm:=.v (.at (.lp 0 0)) :: (zfS cs 0).map fun a=>.v (.at a),lo:=[(0,zfS cs 0)],ro:=ze5 own cs 0++zdc false args cs.length,stk:=[],nid:=cs.length+(args.flatMap AV.cvs).length+1,ep:=0 }
def zzh (C:Cfg)(tms:FuncId->Nat->Option Tmpl)(N D:Nat)(f:FuncId)(own:List Bool)(cs:List CV)(args:List AV):Option Ans :=
 zuS C tms N (zsJ C tms N D) f (.v (.at (.lp 0 0)) :: (zdu args cs.length).map .v) (zU5 own cs args) fun rs st =>
  match st.tm with
  | .v (.at (.lp l 0)) :: hs =>
   match zx st.lo l with
   | some cells =>
    match st.blkEnd own cells hs with
    | some (cs',ks) =>
     match zrg st rs ks with
     | some ans=>some (.agg cs' :: ans)
     | none=>none
    | none=>none
   | none=>none
  | _=>none
section
variable {C:Cfg} {w0 w w1:World} {S0:zbn} {U:Nat->Prop} {st st1:St} {E E1:Env} {ts:Array Value} {sv:List (Array Value)}
structure BlkEnd (st:St) (own:List Bool) (cells:List At) (hs:List MV) (cs:List CV) (ks:List Nat):Prop where
 len:cs.length=cells.length
 hlen:hs.length=cells.length
 ownk:∀r∈ks,∃j,zbk own j/\cells[j]?=some (.sl r [])
 get:∀(j:Nat) (a:At),cells[j]?=some a->(∃k n,a = .i k n/\cs[j]?=some (.i k n))\/(∃x,a = .b x/\cs[j]?=some (.b x)) \/
  ∃r R,a = .sl r []/\st.root r=some R/\cs[j]?=some (.s R.t R.l)/\((zbk own j/\R.own=true/\r∈ks)\/(¬ zbk own j/\hs[j]?=some (.v (.at (.sl r [])))))
 inj:∀(i j r:Nat),zbk own i->zbk own j->cells[i]?=some (.sl r [])->cells[j]?=some (.sl r [])->i=j
theorem zLV:∀(own:List Bool) (cells:List At) (hs:List MV) (cs:List CV) (ks:List Nat),st.blkEnd own cells hs=some (cs,ks)->BlkEnd st own cells hs cs ks
 | [],[],[],cs,ks,h=>by
  cases h;exact ⟨rfl,rfl,fun r h=>by simp at h,fun j a h=>by simp at h,fun i j r h=>by simp [zbk] at h⟩
 | o :: ms,a :: r,hd :: hs,cs,ks,h=>by
  simp only [St.blkEnd] at h;split at h
  ·cases h
  ·rename_i cs0 ks0 h0;have ih:=zLV ms r hs cs0 ks0 h0;have tail:∀(ks1:List Nat) (c:CV),(∀x∈ks0,x∈ks1)->∀(j:Nat) (b:At),r[j]?=some b->(∃k n,b = .i k n/\(c :: cs0)[j+1]?=some (.i k n))\/(∃x,b = .b x/\(c :: cs0)[j+1]?=some (.b x)) \/
    ∃q R,b = .sl q []/\st.root q=some R/\(c :: cs0)[j+1]?=some (.s R.t R.l)/\((zbk (o :: ms) (j+1)/\R.own=true/\q∈ks1)\/(¬ zbk (o :: ms) (j+1)/\(hd :: hs)[j+1]?=some (.v (.at (.sl q []))))):=by
    intro ks1 c hks j b hb;rcases ih.get j b hb with h|h|⟨q,R,g1,g2,g3,g4⟩
    ·exact .inl (by simpa using h)
    ·exact .inr (.inl (by simpa using h))
    ·refine .inr (.inr ⟨q,R,g1,g2,by simpa using g3,?_⟩)
     rcases g4 with ⟨h1,h2,h3⟩|⟨h1,h2⟩
     ·exact .inl ⟨by simpa [zbk] using h1,h2,hks q h3⟩
     ·exact .inr ⟨by simpa [zbk] using h1,by simpa using h2⟩
   have flat:∀(c:CV),(∀q,a≠.sl q [])->((∃k n,a = .i k n/\c = .i k n)\/(∃x,a = .b x/\c = .b x))->BlkEnd st (o :: ms) (a :: r) (hd :: hs) (c :: cs0) ks0:=by
    intro c hne hc;refine ⟨by simp [ih.len],by simp [ih.hlen],fun q hq=>?_,fun j b hb=>?_,fun i j q hi hj h1 h2=>?_⟩
    ·obtain ⟨j,h1,h2⟩:=ih.ownk q hq;exact ⟨j+1,by simpa [zbk] using h1,by simpa using h2⟩
    ·cases j with
     | zero =>
      simp only [List.getElem?_cons_zero,Option.some.injEq] at hb;subst hb;rcases hc with ⟨k,n,h1,h2⟩|⟨x,h1,h2⟩
      ·exact .inl ⟨k,n,h1,by simp [h2]⟩
      ·exact .inr (.inl ⟨x,h1,by simp [h2]⟩)
     | succ j=>exact tail ks0 c (fun _ h=>h) j b (by simpa using hb)
    ·cases i with
     | zero=>simp only [List.getElem?_cons_zero,Option.some.injEq] at h1;exact absurd h1 (hne q)
     | succ i =>
      cases j with
      | zero=>simp only [List.getElem?_cons_zero,Option.some.injEq] at h2;exact absurd h2 (hne q)
      | succ j =>
       have:=ih.inj i j q (by simpa [zbk] using hi) (by simpa [zbk] using hj) (by simpa using h1) (by simpa using h2)
       omega
   split at h
   ·rename_i k n;cases h;exact flat _ (fun q h=>by cases h) (.inl ⟨k,n,rfl,rfl⟩)
   ·rename_i x;cases h;exact flat _ (fun q h=>by cases h) (.inr ⟨x,rfl,rfl⟩)
   ·rename_i q;split at h
    ·rename_i R hR;split at h
     ·split at h
      ·rename_i hcond;simp only [Bool.and_eq_true,Bool.not_eq_true',List.contains_eq_mem,decide_eq_false_iff_not] at hcond;obtain ⟨hown,hnk⟩:=hcond;cases h;refine ⟨by simp [ih.len],by simp [ih.hlen],fun x hx=>?_,fun j b hb=>?_,fun i j x hi hj h1 h2=>?_⟩
       ·rcases List.mem_cons.1 hx with rfl|hx
        ·exact ⟨0,rfl,rfl⟩
        ·obtain ⟨j,h1,h2⟩:=ih.ownk x hx;exact ⟨j+1,by simpa [zbk] using h1,by simpa using h2⟩
       ·cases j with
        | zero =>
         simp only [List.getElem?_cons_zero,Option.some.injEq] at hb;subst hb;exact .inr (.inr ⟨q,R,rfl,hR,by simp,.inl ⟨rfl,hown,List.mem_cons_self⟩⟩)
        | succ j=>exact tail _ _ (fun x hx=>List.mem_cons_of_mem _ hx) j b (by simpa using hb)
       ·have old:∀(i:Nat),zbk ms i->r[i]?=some (.sl q [])->False:=by
         intro i hi hq;rcases ih.get i _ hq with ⟨_,_,h,_⟩|⟨_,h,_⟩|⟨r',R',g1,g2,g3,g4⟩
         ·cases h
         ·cases h
         ·cases g1;rcases g4 with ⟨_,_,h⟩|⟨h,_⟩
          ·exact hnk h
          ·exact h hi
        cases i with
        | zero =>
         cases j with
         | zero=>rfl
         | succ j =>
          simp only [List.getElem?_cons_zero,Option.some.injEq,At.sl.injEq,and_true] at h1;subst h1;exact (old j (by simpa [zbk] using hj) (by simpa using h2)).elim
        | succ i =>
         cases j with
         | zero =>
          simp only [List.getElem?_cons_zero,Option.some.injEq,At.sl.injEq,and_true] at h2;subst h2;exact (old i (by simpa [zbk] using hi) (by simpa using h1)).elim
         | succ j =>
          have:=ih.inj i j x (by simpa [zbk] using hi) (by simpa [zbk] using hj) (by simpa using h1) (by simpa using h2)
          omega
      ·cases h
     ·split at h
      ·rename_i q';split at h
       ·rename_i he;simp only [beq_iff_eq] at he;subst he;cases h;refine ⟨by simp [ih.len],by simp [ih.hlen],fun x hx=>?_,fun j b hb=>?_,fun i j x hi hj h1 h2=>?_⟩
        ·obtain ⟨j,h1,h2⟩:=ih.ownk x hx;exact ⟨j+1,by simpa [zbk] using h1,by simpa using h2⟩
        ·cases j with
         | zero =>
          simp only [List.getElem?_cons_zero,Option.some.injEq] at hb;subst hb;exact .inr (.inr ⟨q,R,rfl,hR,by simp,.inr ⟨by simp [zbk],rfl⟩⟩)
         | succ j=>exact tail _ _ (fun x hx=>hx) j b (by simpa using hb)
        ·cases i with
         | zero=>simp [zbk] at hi
         | succ i =>
          cases j with
          | zero=>simp [zbk] at hj
          | succ j =>
           have:=ih.inj i j x (by simpa [zbk] using hi) (by simpa [zbk] using hj) (by simpa using h1) (by simpa using h2)
           omega
       ·cases h
      ·cases h
    ·cases h
   ·cases h
 | [],_ :: _,_,_,_,h=>by simp [St.blkEnd] at h
 | [],[],_ :: _,_,_,h=>by simp [St.blkEnd] at h
 | _ :: _,[],_,_,_,h=>by simp [St.blkEnd] at h
 | _ :: _,_ :: _,[],_,_,h=>by simp [St.blkEnd] at h
theorem zYR (a:Value)(vs:Array Value):(#[a]++vs)[0]?=some a:=by
 rw [Array.getElem?_append_left (by simp)]
 rfl
theorem zYS (a:Value)(vs:Array Value)(i:Nat):(#[a]++vs)[i+1]?=vs[i]?:=by
 rw [Array.getElem?_append_right (by simp)]
 simp
theorem zl3:∀(own:List Bool) (cs:List CV) (id n:Nat) (R:Root),zx (ze5 own cs id) n=some R->id<=n/\∃t l,cs[n-id]?=some (.s t l)/\R.t=t/\HEq R.l l/\own[n-id]?=some R.own/\R=⟨t,l,R.own,none⟩
 | [],_,_,_,_,h=>by cases h
 | o :: ms,[],_,_,_,h=>by cases h
 | o :: ms,c :: cs,id,n,R,h=>by
  have hr:zx (ze5 ms cs (id+1)) n=some R->id<=n/\∃t l,(c :: cs)[n-id]?=some (.s t l)/\R.t=t/\HEq R.l l/\(o :: ms)[n-id]?=some R.own/\R=⟨t,l,R.own,none⟩:=fun h=>by
   obtain ⟨h1,t,l,h2,h3,h4,h5,h6⟩:=zl3 ms cs (id+1) n R h;have e:n-id=(n-(id+1))+1:=by omega
   exact ⟨by omega,t,l,by rw [e,List.getElem?_cons_succ];exact h2,h3,h4,by rw [e,List.getElem?_cons_succ];exact h5,h6⟩
  cases c with
  | i k x=>exact hr h
  | b x=>exact hr h
  | s t l =>
   simp only [ze5,zx] at h;split at h
   ·rename_i he;simp only [beq_iff_eq] at he;subst he;cases h;exact ⟨Nat.le_refl _,t,l,by simp,rfl,HEq.rfl,by simp,rfl⟩
   ·exact hr h
theorem zhC (hO:EngOk C){f:FuncId}{own:List Bool}{run:List CV->List AV->Option (Bool×List CV×List AV)}(hf:FnOk C.P f)(h:∀(cs:List CV) (avs:List AV) (cs':List CV) (rs:List AV),own.length=cs.length->(∃(w:World) (xs:Nat->Value) (K:Nat->zbn),∀(j:Nat) (c:CV),(cs++zI avs)[j]?=some c->Rep false w (xs j) c (K j))->run cs avs=some (true,cs',rs)->cs'.length=cs.length/\∃tms N D,zzh C tms N D f own cs avs=some (.agg cs' :: rs)):zeJ C.P f own run:=by
 refine ⟨hf,fun w blk vals e cs K avs xs Ka cs' rs hb hvs hol hcell hKlt hKd hxs hKa hrun=>?_⟩;obtain ⟨hcl,tms,N,D,hev⟩:=h cs avs cs' rs hol ⟨w,fun j=>if j<cs.length then (vals[j]?).getD undef else (xs[j-cs.length]?).getD undef,fun j=>if j<cs.length then K j else Ka,fun j c hc=>by
  by_cases hj:j<cs.length
  ·rw [List.getElem?_append_left hj] at hc;have hu:=Array.getElem?_eq_getElem (show j<vals.size by omega)
   simp only [if_pos hj,hu,Option.getD_some];exact (hcell j c _ hc hu).ro
  ·rw [List.getElem?_append_right (by omega)] at hc
   have hlt:=(List.getElem?_eq_some_iff.1 hc).1;have hu:=List.getElem?_eq_getElem (show j-cs.length<xs.length by rw [hxs.1];exact hlt)
   simp only [if_neg hj,hu,Option.getD_some];exact hxs.2 _ c _ hc hu⟩ hrun
 unfold zzh at hev;have hblt:blk<w.heap.size:=(Array.getElem?_eq_some_iff.1 hb).1;generalize hst:zU5 own cs avs=st at hev;have hro:st.ro=ze5 own cs 0++zdc false avs cs.length:=by rw [<- hst];rfl
 have hloe:st.lo=[(0,zfS cs 0)]:=by rw [<- hst];rfl
 have hstk:st.stk=[]:=by rw [<- hst];rfl
 have hnid:st.nid=cs.length+(zI avs).length+1:=by rw [<- hst];rfl
 have htme:st.tm = .v (.at (.lp 0 0)) :: (zfS cs 0).map fun a=>.v (.at a):=by rw [<- hst];rfl
 have hroot0:∀r R,zx st.ro r=some R->R.ep=none/\((r<cs.length/\own[r]?=some R.own/\cs[r]?=some (.s R.t R.l))\/(cs.length<=r/\r<cs.length+(zI avs).length/\R.own=false/\(zI avs)[r-cs.length]?=some (.s R.t R.l))):=by
  intro r R hR;rw [hro,zbY] at hR;split at hR
  ·rename_i Q hQ;cases hR;obtain ⟨_,t,l,h2,_,_,h5,h6⟩:=zl3 own cs 0 r R hQ;rw [h6] at h5 ⊢;simp only [Nat.sub_zero] at h2 h5;exact ⟨rfl,.inl ⟨(List.getElem?_eq_some_iff.1 h2).1,h5,h2⟩⟩
  ·obtain ⟨h1,t,l,h2,rfl⟩:=zg8 false avs cs.length r R hR;have:=(List.getElem?_eq_some_iff.1 h2).1;exact ⟨rfl,.inr ⟨h1,by omega,rfl,h2⟩⟩
 have hroot:∀r R,st.root r=some R->(r<cs.length/\own[r]?=some R.own/\cs[r]?=some (.s R.t R.l))\/(cs.length<=r/\R.own=false/\(zI avs)[r-cs.length]?=some (.s R.t R.l)):=by
  intro r R hR;rcases (hroot0 r R (zbL hR).1).2 with h|⟨h1,_,h2,h3⟩
  ·exact .inl h
  ·exact .inr ⟨h1,h2,h3⟩
 let E:Env:={ ρ:=fun n=>if n<cs.length then (vals[n]?).getD undef else (xs[n-cs.length]?).getD undef,φ:=fun n=>if n<cs.length then K n else Ka,β:=fun _=>blk,κ:=w }
 have hE1:∀n,n<cs.length->E.ρ n=(vals[n]?).getD undef/\E.φ n=K n:=fun n hn=>by simp only [E,if_pos hn,and_self]
 have hE2:∀n,cs.length<=n->E.ρ n=(xs[n-cs.length]?).getD undef/\E.φ n=Ka:=fun n hn=>by simp only [E,if_neg (show ¬ n<cs.length by omega),and_self]
 have hva:∀(j:Nat) (a:At) (u:Value),(zfS cs 0)[j]?=some a->vals[j]?=some u->u.oneCell'=true/\VA w st E a u:=by
  intro j a u ha hu;rw [zte,Nat.zero_add] at ha;cases hc:cs[j]? with
  | none=>rw [hc] at ha;cases ha
  | some c =>
   rw [hc] at ha;cases ha;have hr:=hcell j c u hc hu;have hj:j<cs.length:=(List.getElem?_eq_some_iff.1 hc).1;refine ⟨hr.one,?_⟩;cases c with
   | i k n=>exact hr.int_inv
   | b x=>exact hr.bool_inv
   | s t l =>
    obtain ⟨⟨a,cap,hv,_⟩,_⟩:=hr.len;refine ⟨⟨a,_,cap,hv⟩,fun R _=>?_⟩;rw [(hE1 j hj).1,hu];rfl
 have hlo:∀l cells,zx st.lo l=some cells->l=0/\cells=zfS cs 0:=by
  intro l cells h;rw [hloe] at h;simp only [zx] at h;split at h
  ·rename_i he;simp only [beq_iff_eq] at he;cases h;exact ⟨he.symm,rfl⟩
  ·cases h
 have hp:VA w st E (.lp 0 0) (.pointer (some ⟨blk,0,none⟩)):=⟨⟨_,rfl⟩,fun _ _=>rfl⟩;have hids:∀a∈zfS cs 0,∀m∈a.ids,m<cs.length:=by
  intro a ha m hm;obtain ⟨j,hj⟩:=List.mem_iff_getElem?.1 ha;rw [zte,Nat.zero_add] at hj;cases hc:cs[j]? with
  | none=>rw [hc] at hj;cases hj
  | some c =>
   rw [hc] at hj;cases hj;have:=zzS hm;have:=(List.getElem?_eq_some_iff.1 hc).1;omega
 let S0:zbn:=fun b=>b=blk\/∃j,j<cs.length/\zbk own j/\K j b
 have hS:Sim w S0 (fun n=>n<st.nid) st E (#[.pointer (some ⟨blk,0,none⟩)]++vals) [] w:=by
  refine ⟨⟨rfl,rfl,rfl,Nat.le_refl _,fun _ _ _=>rfl,fun r R hR=>?_,fun r R hR x hx=>?_,fun r R hR ho=>?_,fun r R r' R' hR ho hR' he hne x hx=>?_,fun l cells hl=>?_,fun l l' c1 c2 h1 h2 _=>?_,fun l cells r R hl hR=>?_,fun r R e hR he=>?_,rfl⟩,⟨fun n R hn=>?_,fun n cells hn=>?_,fun m hm n hn=>?_,fun f hf=>?_⟩,⟨?_,fun i m v hm hv=>?_⟩,?_⟩
  ·rcases hroot r R hR with ⟨h1,h2,h3⟩|⟨h1,h2,h3⟩
   ·have hu:=Array.getElem?_eq_getElem (show r<vals.size by omega)
    rw [(hE1 r h1).1,(hE1 r h1).2,hu];have:=hcell r _ _ h3 hu;rw [h2] at this;exact this
   ·have hlt:=(List.getElem?_eq_some_iff.1 h3).1;have hu:=List.getElem?_eq_getElem (show r-cs.length<xs.length by rw [hxs.1];exact hlt)
    rw [(hE2 r h1).1,(hE2 r h1).2,hu,h2];exact hxs.2 _ _ _ h3 hu
  ·rcases hroot r R hR with ⟨h1,h2,h3⟩|⟨h1,h2,h3⟩
   ·rw [(hE1 r h1).2] at hx;exact (hKlt r x h1 hx).1
   ·rw [(hE2 r h1).2] at hx;exact (hKa x hx).1
  ·rcases hroot r R hR with ⟨h1,h2,h3⟩|⟨h1,h2,h3⟩
   ·refine ⟨(hroot0 r R (zbL hR).1).1,fun x hx=>.inl (.inr ⟨r,h1,?_,?_⟩)⟩
    ·show own[r]?=some true
     rw [h2,ho]
    ·rw [(hE1 r h1).2] at hx;exact hx
   ·rw [h2] at ho;cases ho
  ·rcases hroot r R hR with ⟨h1,h2,h3⟩|⟨h1,h2,h3⟩
   ·have hor:zbk own r:=by show own[r]?=some true;rw [h2,ho]
    rw [(hE1 r h1).2] at hx;rcases hroot r' R' hR' with ⟨h1',h2',h3'⟩|⟨h1',h2',h3'⟩
    ·rw [(hE1 r' h1').2];exact hKd r r' x h1 h1' hor hne hx
    ·rw [(hE2 r' h1').2];exact fun hk=>(hKa x hk).2.2 r h1 hor hx
   ·rw [h2] at ho;cases ho
  ·obtain ⟨rfl,rfl⟩:=hlo l cells hl;exact ⟨.inl (.inl rfl),vals,e,hb,by rw [hvs,zzR],fun j c u hc hu=>hva j c u hc hu⟩
  ·rw [(hlo l c1 h1).1,(hlo l' c2 h2).1]
  ·intro hx;rcases hroot r R hR with ⟨h1,h2,h3⟩|⟨h1,h2,h3⟩
   ·rw [(hE1 r h1).2] at hx;exact (hKlt r _ h1 hx).2 rfl
   ·rw [(hE2 r h1).2] at hx;exact (hKa _ hx).2.1 rfl
  ·rw [(hroot0 r R hR).1] at he;cases he
  ·rcases (hroot0 n R hn).2 with ⟨h1,_⟩|⟨_,h1,_⟩<;>omega
  ·obtain ⟨rfl,rfl⟩:=hlo n cells hn;refine ⟨by omega,fun a ha m hm=>?_⟩
   have:=hids a ha m hm;omega
  ·rw [htme] at hm;rcases List.mem_cons.1 hm with rfl|hm
   ·simp only [MV.ids,zbU,zW,At.ids,zbA,zbB,List.nil_append,List.flatMap_cons,List.flatMap_nil,List.append_nil,List.mem_singleton] at hn;omega
   ·obtain ⟨a,ha,rfl⟩:=List.mem_map.1 hm;simp only [MV.ids,zbU,zW,List.flatMap_cons,List.flatMap_nil,List.append_nil] at hn;have:=hids a ha n hn;omega
  ·rw [hstk] at hf;simp at hf
  ·rw [htme];simp [zzR,hvs];omega
  ·rw [htme] at hm;cases i with
   | zero=>rw [zYR] at hv;simp at hm hv;subst hm hv;exact hp
   | succ i =>
    simp only [List.getElem?_cons_succ,List.getElem?_map] at hm;have hv':vals[i]?=some v:=by rw [zYS] at hv;exact hv
    cases ha:(zfS cs 0)[i]? with
    | none=>rw [ha] at hm;cases hm
    | some a=>rw [ha] at hm;cases hm;exact (hva i a v ha hv').2
  ·rw [hstk];trivial
 obtain ⟨hl1,hl2⟩:=zh8 (w:=w) (st:=st) (E:=E) avs xs cs.length hxs.1 (fun i c u hc hu=>by
  have hr:=hxs.2 i c u hc hu;refine ⟨?_,hr.one⟩;cases c with
  | i k n=>exact hr.int_inv
  | b x=>exact hr.bool_inv
  | s t l =>
   obtain ⟨⟨a,cap,hv,_⟩,_⟩:=hr.len;refine ⟨⟨a,_,cap,hv⟩,fun R hR=>?_⟩;have e:cs.length+i-cs.length=i:=by omega
   rw [(hE2 _ (Nat.le_add_right _ _)).1,e,hu];rfl)
 obtain ⟨_,hcalls⟩:=ziz hO (zhB hO (tms:=tms) (N:=N) D) f _ st _ _ hev w S0 _ E _ [] w (#[.pointer (some ⟨blk,0,none⟩)]++(zcn avs xs).toArray)
  (fun v w'=>w'.os=w.os/\w'.tape=w.tape/\w'.output=w.output/\w.heap.size<=w'.heap.size /\
   (∀b,b<w.heap.size->b≠blk->(∀j,j<cs.length->zbk own j->¬ K j b)->w'.heap[b]?=w.heap[b]?) /\
   ∃(vals':Array Value) (e':TypeId) (K':Nat->zbn) (ys:List Value) (Kr:Nat->zbn),w'.heap[blk]?=some (.cells vals' e' (0,0))/\vals'.size=cs'.length/\cs'.length=cs.length /\
    (∀(j:Nat) (c:CV) (u:Value),cs'[j]?=some c->vals'[j]?=some u->match c with
     | .i k n=>u = .int k n
     | .b x=>u = .bool x
     | .s t l=>(zbk own j->Rep true w' u (.s t l) (K' j))/\(¬ zbk own j->vals[j]?=some u)) /\
    zdO true w' (zI rs) ys Kr/\v=zkl (zcn rs ys) /\
    (∀j x,j<cs.length->K' j x->x<w'.heap.size/\x≠blk/\((∃i,i<cs.length/\zbk own i/\K i x)\/w.heap.size<=x)) /\
    (∀i x,i<(zI rs).length->Kr i x->x<w'.heap.size/\x≠blk/\((∃i,i<cs.length/\zbk own i/\K i x)\/w.heap.size<=x)) /\
    (∀i j x,i<cs.length->j<cs.length->i≠j->K' i x->¬ K' j x) /\
    (∀i j x,i<(zI rs).length->j<(zI rs).length->i≠j->Kr i x->¬ Kr j x) /\
    (∀i j x,i<cs.length->j<(zI rs).length->K' i x->¬ Kr j x)) hS (fun n hn h=>by omega)
  (by simp [hl1]) (fun i m v hm hv=>by
   cases i with
   | zero=>rw [zYR] at hv;simp at hm hv;subst hm hv;exact hp
   | succ i =>
    simp only [List.getElem?_cons_succ,List.getElem?_map] at hm;have hv':(zcn avs xs)[i]?=some v:=by rw [zYS] at hv;simpa using hv
    cases hx:(zdu avs cs.length)[i]? with
    | none=>rw [hx] at hm;cases hm
    | some x=>rw [hx] at hm;cases hm;exact hl2 i x v hx hv')
  (fun m hm n hn=>by
   rcases List.mem_cons.1 hm with rfl|hm
   ·simp only [MV.ids,zbU,zW,At.ids,zbA,zbB,List.nil_append,List.flatMap_cons,List.flatMap_nil,List.append_nil,List.mem_singleton] at hn;omega
   ·obtain ⟨x,hx,rfl⟩:=List.mem_map.1 hm;simp only [MV.ids,zbU,List.mem_flatMap] at hn;obtain ⟨a,ha,hn⟩:=hn;have:=(zgc avs cs.length n x a hx ha hn).2;omega)
  (fun U' st' E' w' tvs v hS' _ _ _ hv _ hans=>by
   split at hans
   ·rename_i l hs htm;split at hans
    ·rename_i cells hcells;split at hans
     ·rename_i cs1 ks hbe;split at hans
      ·rename_i ans hansof;simp only [Option.some.injEq,List.cons.injEq,AV.agg.injEq] at hans;obtain ⟨rfl,rfl⟩:=hans;have hB:=zLV own cells hs _ ks hbe;have hM:=hS'.mem;obtain ⟨hts,htv⟩:=hS'.tm;have hlp:=htv 0 (.v (.at (.lp l 0))) (.pointer (some ⟨blk,0,none⟩)) (by rw [htm];rfl) (zYR _ _)
       have hβ:E'.β l=blk:=by
        have:=hlp.2 cells hcells;simp only [Value.pointer.injEq,Option.some.injEq,Addr.mk.injEq,and_true] at this;exact this.symm
       obtain ⟨us,rfl,hul,huv⟩:=zCS hv;obtain ⟨ats,ys,kr,hG,hyl,hyv,rfl,hkr,_⟩:=ziy tvs ks _ us hansof hul huv;obtain ⟨_,vals',e',hb',hsz',hcv⟩:=hM.loc l cells hcells;rw [hβ] at hb';have hS0:∀x,(S0 x\/w.heap.size<=x)->x≠blk->((∃i,i<cs.length/\zbk own i/\K i x)\/w.heap.size<=x):=by
        intro x h hne;rcases h with (h|h)|h
        ·exact absurd h hne
        ·exact .inl h
        ·exact .inr h
       have hnb:∀r R x,st'.root r=some R->E'.φ r x->x≠blk:=by
        intro r R x hR hx he;subst he;rw [<- hβ] at hx;exact hM.lro l cells r R hcells hR hx
       have hget:∀i,i<(zI ans).length->∃a,ats[i]?=some a:=fun i hi=>⟨_,List.getElem?_eq_getElem (by rw [<- hG.len];exact hi)⟩
       let K':Nat->zbn:=fun j x=>zbk own j/\cφ E' cells j x
       have hK':∀j x,K' j x->∃r R,cells[j]?=some (.sl r [])/\zbk own j/\st'.root r=some R/\R.own=true/\r∈ks/\E'.φ r x:=by
        intro j x hx;obtain ⟨ho,hx⟩:=hx;obtain ⟨a,ha,hx⟩:=zxp hx;rcases hB.get j a ha with ⟨_,_,rfl,_⟩|⟨_,rfl,_⟩|⟨r,R,rfl,h1,h2,h3⟩
        ·exact hx.elim
        ·exact hx.elim
        ·rcases h3 with ⟨_,h4,h5⟩|⟨h4,_⟩
         ·exact ⟨r,R,ha,ho,h1,h4,h5,hx⟩
         ·exact absurd ho h4
       have hKr:∀i x,cφ E' ats i x->∃r∈kr,∃R,ats[i]?=some (.sl r [])/\st'.root r=some R/\R.own=true/\E'.φ r x:=by
        intro i x hx;obtain ⟨a,ha,hx⟩:=zxp hx;obtain ⟨r,hr,rfl,hrx⟩:=hG.fi ha hx;obtain ⟨R,hR,ho⟩:=hG.own r hr;exact ⟨r,hr,R,ha,hR,ho,hrx⟩
       refine ⟨hM.os,hM.tape,hM.output,hM.size,fun b hb hne hnk=>hM.keep b hb (fun h=>?_),vals',e',K',ys,cφ E' ats,hb',by rw [hsz',hB.len],hcl,fun j c u hc hu=>?_,⟨by rw [hyl,hG.len],fun i c x hc hx=>?_⟩,rfl,fun j x hj hx=>?_,fun i x hi hx=>?_,fun i j x hi hj hne hx hx'=>?_,fun i j x hi hj hne hx hx'=>?_,fun i j x hi hj hx hx'=>?_⟩
       ·rcases h with h|⟨j,hj,ho,hk⟩
        ·exact hne h
        ·exact hnk j hj ho hk
       ·have hj:j<cells.length:=by rw [<- hB.len];exact (List.getElem?_eq_some_iff.1 hc).1
        have ha:=List.getElem?_eq_getElem hj;obtain ⟨_,hva'⟩:=hcv j _ u ha hu;rcases hB.get j _ ha with ⟨k,n,h1,h2⟩|⟨y,h1,h2⟩|⟨r,R,h1,h2,h3,h4⟩
        ·rw [hc] at h2;cases h2;rw [h1] at hva';exact hva'
        ·rw [hc] at h2;cases h2;rw [h1] at hva';exact hva'
        ·rw [hc] at h3;cases h3;rw [h1] at hva' ha;have hρ:=hva'.2 R h2;simp only [zbi,Option.some.injEq] at hρ;refine ⟨fun ho=>?_,fun hno=>?_⟩
         ·rcases h4 with ⟨_,h5,_⟩|⟨h5,_⟩
          ·have hr:=hM.rep r R h2;rw [h5,hρ] at hr;exact hr.weak (fun x hx=>⟨ho,by rw [zgJ ha];exact hx⟩)
          ·exact absurd ho h5
         ·rcases h4 with ⟨h5,_⟩|⟨_,h5⟩
          ·exact absurd h5 hno
          ·have hjc:j<cs.length:=by rw [<- hcl,hB.len];exact hj
           have hu0:=Array.getElem?_eq_getElem (show j<vals.size by omega)
           have hsl:=htv (j+1) (.v (.at (.sl r []))) vals[j] (by rw [htm,List.getElem?_cons_succ];exact h5) (by rw [zYS];exact hu0)
           have hρ':=hsl.2 R h2;simp only [zbi,Option.some.injEq] at hρ';rw [hu0,<- hρ',hρ]
       ·obtain ⟨a,ha⟩:=hget i (List.getElem?_eq_some_iff.1 hc).1;rw [zgJ ha];exact hG.rep hM ha hc (hyv i a x ha hx)
       ·obtain ⟨r,R,_,ho,h1,h2,h3,h4⟩:=hK' j x hx;have:=hnb r R x h1 h4;exact ⟨hM.rlt r R h1 x h4,this,hS0 x ((hM.mine r R h1 h2).2 x h4) this⟩
       ·obtain ⟨r,hr,R,_,h1,h2,h4⟩:=hKr i x hx;have:=hnb r R x h1 h4;exact ⟨hM.rlt r R h1 x h4,this,hS0 x ((hM.mine r R h1 h2).2 x h4) this⟩
       ·obtain ⟨r,R,g1,ho,h1,h2,h3,h4⟩:=hK' i x hx;obtain ⟨r',R',g1',ho',h1',h2',h3',h4'⟩:=hK' j x hx';have:=hM.own_apart h1 h2 h1' h2' h4 h4';subst this;exact hne (hB.inj i j r ho ho' g1 g1')
       ·obtain ⟨r,hr,R,g1,h1,h2,h4⟩:=hKr i x hx;obtain ⟨r',hr',R',g1',h1',h2',h4'⟩:=hKr j x hx';have:=hM.own_apart h1 h2 h1' h2' h4 h4';subst this;exact hne (hG.inj i j r g1 g1')
       ·obtain ⟨r,R,g1,ho,h1,h2,h3,h4⟩:=hK' i x hx;obtain ⟨r',hr',R',g1',h1',h2',h4'⟩:=hKr j x hx';have:=hM.own_apart h1 h2 h1' h2' h4 h4';subst this;exact hkr r hr' h3
      ·cases hans
     ·cases hans
    ·cases hans
   ·cases hans)
 refine hcalls.mono ?_;intro ex w' he;cases ex with
 | returned v=>exact he
 | panicked chain=>exact he.elim
 | outgrown=>exact he.elim
end
def zCq (C:Cfg)(tms:FuncId->Nat->Option Tmpl)(N D:Nat)(f:FuncId)(own:List Bool)(ja jr:Nat)(js:List (List Nat))(t:Ty)(args:List AV):Option Ans :=
 zuS C tms N (zsJ C tms N D) f ((zdu args 0).map .v) { tm:=[.v (.at (.kp ja js t))],lo:=[],ro:=ze5 own (args.flatMap AV.cvs) 0,stk:=[],nid:=(args.flatMap AV.cvs).length,ep:=0 } fun rs st =>
  match st.tm,(rs.flatMap zW)[jr]? with
  | [.v (.at (.kp n J t'))],some (.sl m [])=>cond (Nat.beq n m&&(J==js&&decide (t'=t))) (zrg st rs []) none
  | _,_=>none
section
variable {C:Cfg} {w0 w w1:World} {S0:zbn} {U:Nat->Prop} {st st1:St} {E E1:Env} {ts:Array Value} {sv:List (Array Value)}
theorem zjR (hO:EngOk C){f:FuncId}{own:List Bool}{ja jr:Nat}{js:List (List Nat)}{kt:Ty}{run:List AV->Option (Bool×List AV)}(hf:FnOk C.P f)(hal0:zlr f=[[]])(h:∀(avs:List AV) (rs:List AV),own.length=(zI avs).length->(∃(w:World) (xs:Nat->Value) (K:Nat->zbn),∀(j:Nat) (c:CV),(zI avs)[j]?=some c->Rep false w (xs j) c (K j))->run avs=some (true,rs)->(∃l,(zI avs)[ja]?=some (.s kt l))/\own[ja]?=some true/\∃tms N D,zCq C tms N D f own ja jr js kt avs=some rs):zez C.P f own (some (ja,jr,js)) run:=by
 intro al hal;rw [hal0,List.mem_singleton] at hal;subst hal;refine ⟨hf,fun w K avs xs rs hxl hol hrep hKlt hKd0 _ hrun=>?_⟩;have hKd:=fun i j x hi hj ho hne=>hKd0 i j x hi hj ho hne (by simp)
 obtain ⟨⟨kl,hkl⟩,hoj,tms,N,D,hev⟩:=h avs rs hol ⟨w,fun j=>(xs[j]?).getD undef,K,fun j c hc=>by
  have hlt:=(List.getElem?_eq_some_iff.1 hc).1;have hu:=List.getElem?_eq_getElem (show j<xs.length by rw [hxl];exact hlt)
  simp only [hu,Option.getD_some];exact (hrep j c _ hc hu).ro⟩ hrun
 unfold zCq at hev;have hjl:ja<(zI avs).length:=(List.getElem?_eq_some_iff.1 hkl).1;have hjx:ja<xs.length:=by rw [hxl];exact hjl
 have hju:=List.getElem?_eq_getElem hjx;generalize hst:({ tm:=[.v (.at (.kp ja js kt))],lo:=[],ro:=ze5 own (avs.flatMap AV.cvs) 0,stk:=[],nid:=(avs.flatMap AV.cvs).length,ep:=0 }:St)=st at hev;have hro0:st.ro=ze5 own (zI avs) 0:=by rw [<- hst];rfl
 have hroot0:∀r R,zx st.ro r=some R->R.ep=none/\r<(zI avs).length/\own[r]?=some R.own/\(zI avs)[r]?=some (.s R.t R.l):=by
  intro r R hR;rw [hro0] at hR;obtain ⟨_,t,l,h2,_,_,h5,h6⟩:=zl3 own (zI avs) 0 r R hR;rw [h6] at h5 ⊢;simp only [Nat.sub_zero] at h2 h5;exact ⟨rfl,(List.getElem?_eq_some_iff.1 h2).1,h5,h2⟩
 have hlo:∀l,zx st.lo l=none:=fun l=>by rw [<- hst];rfl
 let E:Env:={ ρ:=fun n=>(xs[n]?).getD undef,φ:=K,β:=fun _=>0,κ:=w }
 let S0:zbn:=fun b=>∃j,j<(zI avs).length/\zbk own j/\K j b
 have hS:Sim w S0 (fun n=>n<(zI avs).length) st E #[xs[ja]] [] w:=by
  refine ⟨⟨rfl,rfl,rfl,Nat.le_refl _,fun _ _ _=>rfl,fun r R hR=>?_,fun r R hR x hx=>?_,fun r R hR ho=>?_,fun r R r' R' hR ho hR' _ hne x hx=>?_,fun l cs hl=>?_,fun l l' cs cs' hl=>?_,fun l cs r R hl=>?_,fun r R e hR he=>?_,rfl⟩,⟨fun n R hn=>?_,fun n cs hn=>?_,fun m hm=>?_,fun f hf=>?_⟩,⟨?_,fun i m v hm hv=>?_⟩,?_⟩
  ·obtain ⟨_,h1,h2,h3⟩:=hroot0 r R (zbL hR).1;have hu:=List.getElem?_eq_getElem (show r<xs.length by omega)
   show Rep R.own w ((xs[r]?).getD undef) _ (K r)
   have:=hrep r _ _ h3 hu;rw [h2] at this;rw [hu];exact this
  ·obtain ⟨_,h1,_,_⟩:=hroot0 r R (zbL hR).1;exact hKlt r x h1 hx
  ·obtain ⟨he,h1,h2,_⟩:=hroot0 r R (zbL hR).1;refine ⟨he,fun x hx=>.inl ⟨r,h1,?_,hx⟩⟩
   show own[r]?=some true
   rw [h2,ho]
  ·obtain ⟨_,h1,h2,_⟩:=hroot0 r R (zbL hR).1;obtain ⟨_,h1',_,_⟩:=hroot0 r' R' (zbL hR').1;exact hKd r r' x h1 h1' (by show own[r]?=some true;rw [h2,ho]) hne hx
  ·rw [hlo] at hl;cases hl
  ·rw [hlo] at hl;cases hl
  ·rw [hlo] at hl;cases hl
  ·rw [(hroot0 r R hR).1] at he;cases he
  ·exact (hroot0 n R hn).2.1
  ·rw [hlo] at hn;cases hn
  ·rw [<- hst] at hm;simp only [List.mem_singleton] at hm;subst hm;intro n hn;simp only [MV.ids,zbU,zW,List.flatMap_cons,List.flatMap_nil,At.ids,zbA,zbB,List.append_nil,List.mem_singleton] at hn;subst hn;exact hjl
  ·rw [<- hst] at hf;simp at hf
  ·rw [<- hst];rfl
  ·rw [<- hst] at hm;cases i with
   | succ i=>simp at hm
   | zero =>
    simp only [List.getElem?_cons_zero,Option.some.injEq] at hm hv;subst hm;have hv:xs[ja]=v:=by simpa using hv
    subst hv;have hr:=hrep ja _ _ hkl hju;obtain ⟨⟨a,cap,hva,_⟩,_⟩:=hr.len;refine ⟨⟨a,_,cap,hva⟩,fun R hR=>?_⟩;obtain ⟨_,_,_,h4⟩:=hroot0 ja R (zbL hR).1;rw [hkl] at h4;cases h4;refine ⟨rfl,?_,fun p u hp _=>hp⟩
    show (xs[ja]?).getD undef=xs[ja]
    rw [hju];rfl
  ·rw [<- hst];trivial
 obtain ⟨hl1,hl2⟩:=zh8 (w:=w) (st:=st) (E:=E) avs xs 0 hxl (fun i c u hc hu=>by
  have hr:=hrep i c u hc hu;refine ⟨?_,hr.one⟩;cases c with
  | i k n=>exact hr.int_inv
  | b x=>exact hr.bool_inv
  | s t l =>
   obtain ⟨⟨a,cap,hv,_⟩,_⟩:=hr.len;refine ⟨⟨a,_,cap,hv⟩,fun R hR=>?_⟩;have e:0+i=i:=by omega
   show some ((xs[0+i]?).getD undef)=some u
   rw [e,hu];rfl)
 have hnid:st.nid=(zI avs).length:=by rw [<- hst];rfl
 obtain ⟨_,hcalls⟩:=ziz hO (zhB hO (tms:=tms) (N:=N) D) f _ st _ rs hev w S0 _ E #[xs[ja]] [] w (zcn avs xs).toArray
  (fun v w'=>w'.os=w.os/\w'.tape=w.tape/\w'.output=w.output/\w.heap.size<=w'.heap.size /\
   (∀b,b<w.heap.size->(∀j,j<(zI avs).length->zbk own j->¬ K j b)->w'.heap[b]?=w.heap[b]?) /\
   ∃(ys:List Value) (Kr:Nat->zbn),zdO true w' (zI rs) ys Kr/\v=zkl (zcn rs ys) /\
    (∀i x,i<(zI rs).length->Kr i x->x<w'.heap.size/\((∃j,j<(zI avs).length/\zbk own j/\K j x)\/w.heap.size<=x)) /\
    (∀i j x,i<(zI rs).length->j<(zI rs).length->i≠j->Kr i x->¬ Kr j x) /\
    (∀ja2 jr2 js2,some (ja,jr,js)=some (ja2,jr2,js2)->∀t l u,(zI avs)[ja2]?=some (.s t l)->xs[ja2]?=some u->∃l',(zI rs)[jr2]?=some (.s t l')/\ys[jr2]?=some u /\
     ∀p v,zbi w t u p=some v->js2.any (fun c=>c.isPrefixOf (cols p))=false->zbi w' t u p=some v)) hS (fun n hn h=>by omega)
  (by simp [hl1]) (fun i m v hm hv=>by
   rw [List.getElem?_map] at hm;cases hx:(zdu avs 0)[i]? with
   | none=>rw [hx] at hm;cases hm
   | some x=>rw [hx] at hm;cases hm;exact hl2 i x v hx (by simpa using hv))
  (fun m hm n hn=>by
   obtain ⟨x,hx,rfl⟩:=List.mem_map.1 hm;simp only [MV.ids,zbU,List.mem_flatMap] at hn;obtain ⟨a,ha,hn⟩:=hn;have:=(zgc avs 0 n x a hx ha hn).2;omega)
  (fun U' st' E' w' tvs v hS' _ _ _ hv _ hans=>by
   obtain ⟨us,rfl,hul,huv⟩:=zCS hv;split at hans
   rotate_left
   ·cases hans
   rename_i n J t' m htm hrm;cases hck:(Nat.beq n m&&(J==js&&decide (t'=kt))) with
   | false=>rw [hck] at hans;cases hans
   | true =>
   rw [hck] at hans;simp only [cond_true] at hans;simp only [Bool.and_eq_true,Nat.beq_eq,beq_iff_eq,decide_eq_true_eq] at hck;obtain ⟨hnm,hJ,ht⟩:=hck;subst hnm hJ ht;obtain ⟨ats,ys,ks,hG,hyl,hyv,rfl,_,hats⟩:=ziy tvs [] rs us hans hul huv;have hM:=hS'.mem;have hget:∀i,i<(zI rs).length->∃a,ats[i]?=some a:=fun i hi=>⟨_,List.getElem?_eq_getElem (by rw [<- hG.len];exact hi)⟩
   have hKr:∀i x,cφ E' ats i x->∃r∈ks,∃R,ats[i]?=some (.sl r [])/\st'.root r=some R/\R.own=true/\E'.φ r x:=by
    intro i x hx;obtain ⟨a,ha,hx⟩:=zxp hx;obtain ⟨r,hr,rfl,hrx⟩:=hG.fi ha hx;obtain ⟨R,hR,ho⟩:=hG.own r hr;exact ⟨r,hr,R,ha,hR,ho,hrx⟩
   refine ⟨hM.os,hM.tape,hM.output,hM.size,fun b hb hnk=>hM.keep b hb (fun ⟨j,hj,ho,hk⟩=>hnk j hj ho hk),ys,cφ E' ats,⟨by rw [hyl,hG.len],fun i c x hc hx=>?_⟩,rfl,fun i x hi hx=>?_,fun i j x hi hj hne hx hx'=>?_,fun ja2 jr2 js2 he t l u hcl hxu=>?_⟩
   ·obtain ⟨a,ha⟩:=hget i (List.getElem?_eq_some_iff.1 hc).1;rw [zgJ ha];exact hG.rep hM ha hc (hyv i a x ha hx)
   ·obtain ⟨r,hr,R,_,h1,h2,h4⟩:=hKr i x hx;exact ⟨hM.rlt r R h1 x h4,(hM.mine r R h1 h2).2 x h4⟩
   ·obtain ⟨r,hr,R,g1,h1,h2,h4⟩:=hKr i x hx;obtain ⟨r',hr',R',g1',h1',h2',h4'⟩:=hKr j x hx';have:=hM.own_apart h1 h2 h1' h2' h4 h4';subst this;exact hne (hG.inj i j r g1 g1')
   ·cases he;rw [hkl] at hcl;cases hcl;rw [hju] at hxu;cases hxu;have ha:ats[jr]?=some (.sl n []):=by rw [hats];exact hrm
    rcases hG.get jr _ ha with ⟨_,_,h,_⟩|⟨_,h,_⟩|⟨r,R,h,hR,_,hcs⟩
    ·cases h
    ·cases h
    ·cases h;have hty:=hS'.tm.2 0 (.v (.at (.kp n J t'))) xs[ja] (by rw [htm];rfl) (by simp)
     obtain ⟨e1,e2,e3⟩:=hty.2 R hR;have hyl2:jr<ys.length:=by rw [hyl];exact (List.getElem?_eq_some_iff.1 ha).1
     have hy:=List.getElem?_eq_getElem hyl2;have e4:=(hyv jr _ _ ha hy).2 R hR;simp only [zbi,Option.some.injEq] at e4;refine ⟨e1 ▸ R.l,?_,by rw [hy,<- e4,e2],?_⟩
     ·rw [hcs];cases e1;rfl
     ·rw [hM.κ] at e3;exact e3)
 refine hcalls.mono ?_;intro ex w' he;cases ex with
 | returned v=>exact he
 | panicked chain=>exact he.elim
 | outgrown=>exact he.elim
def zO1 (al:List (Nat×Nat)):At->At
 | .sl r []=>match al.find? (fun x=>Nat.beq x.1 r) with
  | some x=>.sl x.2 []
  | none=>.sl r []
 | a=>a
def zOO (C:Cfg)(tms:FuncId->Nat->Option Tmpl)(N D:Nat)(f:FuncId)(own:List Bool)(al:List (Nat×Nat))(ja jr:Nat)(js:List (List Nat))(t:Ty)(args:List AV):Option Ans :=
 zuS C tms N (zsJ C tms N D) f (((zdu args 0).map .v).map (zia (zO1 al))) { tm:=[.v (.at (.kp ja js t))],lo:=[],ro:=(ze5 own (args.flatMap AV.cvs) 0).filter (fun x=>!al.any (fun y=>Nat.beq y.1 x.1)),stk:=[],nid:=(args.flatMap AV.cvs).length,ep:=0 } fun rs st =>
  match st.tm,(rs.flatMap zW)[jr]? with
  | [.v (.at (.kp n J t'))],some (.sl m [])=>cond (Nat.beq n m&&(J==js&&decide (t'=t))) (zrg st rs []) none
  | _,_=>none
def zRV (a:At):Prop:=(∃k n,a = .i k n)\/(∃b,a = .b b)\/∃r,a = .sl r []
theorem zrK:∀(cs:List CV) (id:Nat) (a:At),a∈zfS cs id->zRV a
 | [],_,_,h=>by simp [zfS] at h
 | .i k n :: cs,id,a,h=>by
  simp only [zfS,List.mem_cons] at h;rcases h with rfl|h
  ·exact .inl ⟨k,n,rfl⟩
  ·exact zrK cs (id+1) a h
 | .b x :: cs,id,a,h=>by
  simp only [zfS,List.mem_cons] at h;rcases h with rfl|h
  ·exact .inr (.inl ⟨x,rfl⟩)
  ·exact zrK cs (id+1) a h
 | .s t l :: cs,id,a,h=>by
  simp only [zfS,List.mem_cons] at h;rcases h with rfl|h
  ·exact .inr (.inr ⟨id,rfl⟩)
  ·exact zrK cs (id+1) a h
theorem zwH:∀(rs:List AV) (id:Nat) (x:TV) (a:At),x∈zdu rs id->a∈zW x->zRV a
 | [],_,_,_,h,_=>by simp [zdu] at h
 | .one c :: rs,id,x,a,h,ha=>by
  simp only [zdu,List.mem_cons] at h;rcases h with rfl|h
  ·simp only [zW,List.mem_singleton] at ha;subst ha;cases c with
   | i k n=>exact .inl ⟨k,n,rfl⟩
   | b x=>exact .inr (.inl ⟨x,rfl⟩)
   | s t l=>exact .inr (.inr ⟨id,rfl⟩)
  ·exact zwH rs (id+1) x a h ha
 | .agg cs :: rs,id,x,a,h,ha=>by
  simp only [zdu,List.mem_cons] at h;rcases h with rfl|h
  ·exact zrK cs id a ha
  ·exact zwH rs (id+cs.length) x a h ha
theorem z01 {w1:World}{st1:St}{E1:Env}{w:World}{st:St}{E:Env}{f:At->At}{P:At->Prop}(T:∀a v,P a->VA w st E a v->VA w1 st1 E1 (f a) v){x:TV}{v:Value}(hP:∀a∈zW x,P a)(h:VT w st E x v):VT w1 st1 E1 (zoZ f x) v:=by
 rcases x with a|l
 ·exact T a v (hP a (by simp [zW])) h
 ·obtain ⟨vs,h1,h2,h3⟩:=h;refine ⟨vs,h1,by simp [h2],fun j a u ha hu=>?_⟩
  rw [List.getElem?_map] at ha;cases hl:l[j]? with
  | none=>rw [hl] at ha;cases ha
  | some b=>rw [hl] at ha;cases ha;exact ⟨(h3 j b u hl hu).1,T _ _ (hP b (by simp only [zW];exact List.mem_of_getElem? hl)) (h3 j b u hl hu).2⟩
theorem zYQ {al:List (Nat×Nat)}{a:At}{n:Nat}(h:n∈(zO1 al a).ids):n∈a.ids\/∃r,(r,n)∈al:=by
 unfold zO1 at h;split at h
 ·split at h
  ·rename_i r x hx;simp only [At.ids,zbA,zbB,List.append_nil,List.mem_singleton] at h;subst h;exact .inr ⟨x.1,List.mem_of_find?_eq_some hx⟩
  ·exact .inl h
 ·exact .inl h
theorem zoG {α:Type}(q:Nat->Bool):∀(l:List (Nat×α)) (n:Nat) (x:α),zx (l.filter (fun y=>q y.1)) n=some x->q n=true/\zx l n=some x
 | [],_,_,h=>by simp [zx] at h
 | (k,v) :: l,n,x,h=>by
  cases hq:q k with
  | false =>
   rw [List.filter_cons_of_neg (by simp [hq])] at h
   obtain ⟨h1,h2⟩:=zoG q l n x h;refine ⟨h1,?_⟩;simp only [zx];cases hk:k==n with
   | false=>exact h2
   | true =>
    have:k=n:=by simpa using hk
    subst this;rw [hq] at h1;cases h1
  | true =>
   rw [List.filter_cons_of_pos (by simp [hq])] at h
   simp only [zx] at h ⊢;cases hk:k==n with
   | false =>
    rw [hk] at h;exact zoG q l n x (by simpa using h)
   | true =>
    rw [hk] at h;have:k=n:=by simpa using hk
    subst this;exact ⟨hq,by simpa using h⟩
theorem zJc (hO:EngOk C){f:FuncId}{own:List Bool}{ja jr:Nat}{js:List (List Nat)}{kt:Ty}{run:List AV->Option (Bool×List AV)}(hf:FnOk C.P f)(h:∀(al:List (Nat×Nat)) (avs:List AV) (rs:List AV),al∈zlr f->(∀j i,(j,i)∈al->(zI avs)[j]?=(zI avs)[i]?)->own.length=(zI avs).length->(∃(w:World) (xs:Nat->Value) (K:Nat->zbn),∀(j:Nat) (c:CV),(zI avs)[j]?=some c->Rep false w (xs j) c (K j))->run avs=some (true,rs)->(∃l,(zI avs)[ja]?=some (.s kt l))/\own[ja]?=some true/\∃tms N D,zOO C tms N D f own al ja jr js kt avs=some rs):zez C.P f own (some (ja,jr,js)) run:=by
 intro al hal;refine ⟨hf,fun w K avs xs rs hxl hol hrep hKlt hKd0 hali hrun=>?_⟩;obtain ⟨⟨kl,hkl⟩,hoj,tms,N,D,hev⟩:=h al avs rs hal (fun j i hji=>(hali j i hji).2.2.2.1) hol ⟨w,fun j=>(xs[j]?).getD undef,K,fun j c hc=>by
  have hlt:=(List.getElem?_eq_some_iff.1 hc).1;have hu:=List.getElem?_eq_getElem (show j<xs.length by rw [hxl];exact hlt)
  simp only [hu,Option.getD_some];exact (hrep j c _ hc hu).ro⟩ hrun
 unfold zOO at hev;have hjl:ja<(zI avs).length:=(List.getElem?_eq_some_iff.1 hkl).1;have hjx:ja<xs.length:=by rw [hxl];exact hjl
 have hju:=List.getElem?_eq_getElem hjx;generalize hst:({ tm:=[.v (.at (.kp ja js kt))],lo:=[],ro:=(ze5 own (avs.flatMap AV.cvs) 0).filter (fun x=>!al.any (fun y=>Nat.beq y.1 x.1)),stk:=[],nid:=(avs.flatMap AV.cvs).length,ep:=0 }:St)=st at hev;have hro0:st.ro=(ze5 own (zI avs) 0).filter (fun x=>!al.any (fun y=>Nat.beq y.1 x.1)):=by rw [<- hst];rfl
 have hna:∀r R,zx st.ro r=some R->∀i,(r,i)∉al:=by
  intro r R hR i hi;rw [hro0] at hR;have:=(zoG (fun n=>!al.any (fun y=>Nat.beq y.1 n)) _ r R hR).1;simp only [Bool.not_eq_true',List.any_eq_false] at this;exact this _ hi (Nat.beq_refl r)
 have hroot0:∀r R,zx st.ro r=some R->R.ep=none/\r<(zI avs).length/\own[r]?=some R.own/\(zI avs)[r]?=some (.s R.t R.l):=by
  intro r R hR;rw [hro0] at hR;obtain ⟨_,t,l,h2,_,_,h5,h6⟩:=zl3 own (zI avs) 0 r R (zoG (fun n=>!al.any (fun y=>Nat.beq y.1 n)) _ r R hR).2;rw [h6] at h5 ⊢;simp only [Nat.sub_zero] at h2 h5;exact ⟨rfl,(List.getElem?_eq_some_iff.1 h2).1,h5,h2⟩
 have hlo:∀l,zx st.lo l=none:=fun l=>by rw [<- hst];rfl
 let E:Env:={ ρ:=fun n=>(xs[n]?).getD undef,φ:=K,β:=fun _=>0,κ:=w }
 let S0:zbn:=fun b=>∃j,j<(zI avs).length/\zbk own j/\K j b
 have hS:Sim w S0 (fun n=>n<(zI avs).length) st E #[xs[ja]] [] w:=by
  refine ⟨⟨rfl,rfl,rfl,Nat.le_refl _,fun _ _ _=>rfl,fun r R hR=>?_,fun r R hR x hx=>?_,fun r R hR ho=>?_,fun r R r' R' hR ho hR' _ hne x hx=>?_,fun l cs hl=>?_,fun l l' cs cs' hl=>?_,fun l cs r R hl=>?_,fun r R e hR he=>?_,rfl⟩,⟨fun n R hn=>?_,fun n cs hn=>?_,fun m hm=>?_,fun f hf=>?_⟩,⟨?_,fun i m v hm hv=>?_⟩,?_⟩
  ·obtain ⟨_,h1,h2,h3⟩:=hroot0 r R (zbL hR).1;have hu:=List.getElem?_eq_getElem (show r<xs.length by omega)
   show Rep R.own w ((xs[r]?).getD undef) _ (K r)
   have:=hrep r _ _ h3 hu;rw [h2] at this;rw [hu];exact this
  ·obtain ⟨_,h1,_,_⟩:=hroot0 r R (zbL hR).1;exact hKlt r x h1 hx
  ·obtain ⟨he,h1,h2,_⟩:=hroot0 r R (zbL hR).1;refine ⟨he,fun x hx=>.inl ⟨r,h1,?_,hx⟩⟩
   show own[r]?=some true
   rw [h2,ho]
  ·obtain ⟨_,h1,h2,_⟩:=hroot0 r R (zbL hR).1;obtain ⟨_,h1',_,_⟩:=hroot0 r' R' (zbL hR').1;exact hKd0 r r' x h1 h1' (by show own[r]?=some true;rw [h2,ho]) hne (hna r' R' (zbL hR').1 r) hx
  ·rw [hlo] at hl;cases hl
  ·rw [hlo] at hl;cases hl
  ·rw [hlo] at hl;cases hl
  ·rw [(hroot0 r R hR).1] at he;cases he
  ·exact (hroot0 n R hn).2.1
  ·rw [hlo] at hn;cases hn
  ·rw [<- hst] at hm;simp only [List.mem_singleton] at hm;subst hm;intro n hn;simp only [MV.ids,zbU,zW,List.flatMap_cons,List.flatMap_nil,At.ids,zbA,zbB,List.append_nil,List.mem_singleton] at hn;subst hn;exact hjl
  ·rw [<- hst] at hf;simp at hf
  ·rw [<- hst];rfl
  ·rw [<- hst] at hm;cases i with
   | succ i=>simp at hm
   | zero =>
    simp only [List.getElem?_cons_zero,Option.some.injEq] at hm hv;subst hm;have hv:xs[ja]=v:=by simpa using hv
    subst hv;have hr:=hrep ja _ _ hkl hju;obtain ⟨⟨a,cap,hva,_⟩,_⟩:=hr.len;refine ⟨⟨a,_,cap,hva⟩,fun R hR=>?_⟩;obtain ⟨_,_,_,h4⟩:=hroot0 ja R (zbL hR).1;rw [hkl] at h4;cases h4;refine ⟨rfl,?_,fun p u hp _=>hp⟩
    show (xs[ja]?).getD undef=xs[ja]
    rw [hju];rfl
  ·rw [<- hst];trivial
 let st0:St:={ st with ro:=(List.range (zI avs).length).map (fun r=>(r,(⟨.int,[],false,none⟩:Root))),ep:=0 }
 have hst0:∀r,r<(zI avs).length->st0.root r=some ⟨.int,[],false,none⟩:=by
  intro r hr;have:∀(n k:Nat),k<=r->r<k+n->zx ((List.range' k n).map (fun r=>(r,(⟨.int,[],false,none⟩:Root)))) r=some ⟨.int,[],false,none⟩:=by
   intro n
   induction n with
   | zero=>intro k h1 h2;omega
   | succ n ih =>
    intro k h1 h2;simp only [List.range'_succ,List.map_cons,zx]
    by_cases he:k=r
    ·subst he;simp
    ·have hb:(k==r)=false:=by simpa using he
     simp only [hb,Bool.false_eq_true,if_false];exact ih (k+1) (by omega) (by omega)
  have h2:=this (zI avs).length 0 (Nat.zero_le _) (by omega)
  rw [<- List.range_eq_range'] at h2;exact zhN h2 (.inl rfl)
 obtain ⟨hl1,hl2⟩:=zh8 (w:=w) (st:=st0) (E:=E) avs xs 0 hxl (fun i c u hc hu=>by
  have hr:=hrep i c u hc hu;refine ⟨?_,hr.one⟩;cases c with
  | i k n=>exact hr.int_inv
  | b x=>exact hr.bool_inv
  | s t l =>
   obtain ⟨⟨a,cap,hv,_⟩,_⟩:=hr.len;refine ⟨⟨a,_,cap,hv⟩,fun R hR=>?_⟩;have e:0+i=i:=by omega
   show some ((xs[0+i]?).getD undef)=some u
   rw [e,hu];rfl)
 have hT:∀a v,(zRV a/\∀n∈a.ids,n<(zI avs).length)->VA w st0 E a v->VA w st E (zO1 al a) v:=by
  intro a v ⟨hpl,hid⟩ hv;have hkey:∀r,∀i,(r,i)∈al->E.ρ i=E.ρ r:=by
   intro r i hi
   show (xs[i]?).getD undef=(xs[r]?).getD undef
   rw [(hali r i hi).2.2.1]
  rcases hpl with ⟨k,n,rfl⟩|⟨b,rfl⟩|⟨r,rfl⟩
  ·exact hv
  ·exact hv
  ·have hr:r<(zI avs).length:=hid r (by simp [At.ids,zbA])
   have e1:=hv.2 _ (hst0 r hr);simp only [zbi,Option.some.injEq] at e1;simp only [zO1];split
   ·rename_i x hx;have hm:=List.mem_of_find?_eq_some hx;have hx1:x.1=r:=Nat.eq_of_beq_eq_true (by simpa using List.find?_some hx)
    subst hx1;refine ⟨hv.1,fun R _=>?_⟩;simp only [zbi,Option.some.injEq];rw [hkey x.1 x.2 hm];exact e1
   ·refine ⟨hv.1,fun R _=>?_⟩;simp only [zbi,Option.some.injEq];exact e1
 have hnid:st.nid=(zI avs).length:=by rw [<- hst];rfl
 obtain ⟨_,hcalls⟩:=ziz hO (zhB hO (tms:=tms) (N:=N) D) f _ st _ rs hev w S0 _ E #[xs[ja]] [] w (zcn avs xs).toArray
  (fun v w'=>w'.os=w.os/\w'.tape=w.tape/\w'.output=w.output/\w.heap.size<=w'.heap.size /\
   (∀b,b<w.heap.size->(∀j,j<(zI avs).length->zbk own j->¬ K j b)->w'.heap[b]?=w.heap[b]?) /\
   ∃(ys:List Value) (Kr:Nat->zbn),zdO true w' (zI rs) ys Kr/\v=zkl (zcn rs ys) /\
    (∀i x,i<(zI rs).length->Kr i x->x<w'.heap.size/\((∃j,j<(zI avs).length/\zbk own j/\K j x)\/w.heap.size<=x)) /\
    (∀i j x,i<(zI rs).length->j<(zI rs).length->i≠j->Kr i x->¬ Kr j x) /\
    (∀ja2 jr2 js2,some (ja,jr,js)=some (ja2,jr2,js2)->∀t l u,(zI avs)[ja2]?=some (.s t l)->xs[ja2]?=some u->∃l',(zI rs)[jr2]?=some (.s t l')/\ys[jr2]?=some u /\
     ∀p v,zbi w t u p=some v->js2.any (fun c=>c.isPrefixOf (cols p))=false->zbi w' t u p=some v)) hS (fun n hn h=>by omega)
  (by simp [hl1]) (fun i m v hm hv=>by
   rw [List.getElem?_map,List.getElem?_map] at hm;cases hx:(zdu avs 0)[i]? with
   | none=>rw [hx] at hm;cases hm
   | some x =>
    rw [hx] at hm;cases hm;exact z01 hT (fun a ha=>⟨zwH avs 0 x a (List.mem_of_getElem? hx) ha,fun n hn=>by
     have:=(zgc avs 0 n x a (List.mem_of_getElem? hx) ha hn).2;omega⟩) (hl2 i x v hx (by simpa using hv)))
  (fun m hm n hn=>by
   obtain ⟨m0,hm0,rfl⟩:=List.mem_map.1 hm;obtain ⟨x,hx,rfl⟩:=List.mem_map.1 hm0;obtain ⟨a,ha,hn⟩:=zL8 hn;simp only [zbU] at ha;rcases zYQ hn with h|⟨r,h⟩
   ·have:=(zgc avs 0 n x a hx ha h).2;omega
   ·obtain ⟨_,_,_,_,t,l,h5⟩:=hali r n h;exact (List.getElem?_eq_some_iff.1 h5).1)
  (fun U' st' E' w' tvs v hS' _ _ _ hv _ hans=>by
   obtain ⟨us,rfl,hul,huv⟩:=zCS hv;split at hans
   rotate_left
   ·cases hans
   rename_i n J t' m htm hrm;cases hck:(Nat.beq n m&&(J==js&&decide (t'=kt))) with
   | false=>rw [hck] at hans;cases hans
   | true =>
   rw [hck] at hans;simp only [cond_true] at hans;simp only [Bool.and_eq_true,Nat.beq_eq,beq_iff_eq,decide_eq_true_eq] at hck;obtain ⟨hnm,hJ,ht⟩:=hck;subst hnm hJ ht;obtain ⟨ats,ys,ks,hG,hyl,hyv,rfl,_,hats⟩:=ziy tvs [] rs us hans hul huv;have hM:=hS'.mem;have hget:∀i,i<(zI rs).length->∃a,ats[i]?=some a:=fun i hi=>⟨_,List.getElem?_eq_getElem (by rw [<- hG.len];exact hi)⟩
   have hKr:∀i x,cφ E' ats i x->∃r∈ks,∃R,ats[i]?=some (.sl r [])/\st'.root r=some R/\R.own=true/\E'.φ r x:=by
    intro i x hx;obtain ⟨a,ha,hx⟩:=zxp hx;obtain ⟨r,hr,rfl,hrx⟩:=hG.fi ha hx;obtain ⟨R,hR,ho⟩:=hG.own r hr;exact ⟨r,hr,R,ha,hR,ho,hrx⟩
   refine ⟨hM.os,hM.tape,hM.output,hM.size,fun b hb hnk=>hM.keep b hb (fun ⟨j,hj,ho,hk⟩=>hnk j hj ho hk),ys,cφ E' ats,⟨by rw [hyl,hG.len],fun i c x hc hx=>?_⟩,rfl,fun i x hi hx=>?_,fun i j x hi hj hne hx hx'=>?_,fun ja2 jr2 js2 he t l u hcl hxu=>?_⟩
   ·obtain ⟨a,ha⟩:=hget i (List.getElem?_eq_some_iff.1 hc).1;rw [zgJ ha];exact hG.rep hM ha hc (hyv i a x ha hx)
   ·obtain ⟨r,hr,R,_,h1,h2,h4⟩:=hKr i x hx;exact ⟨hM.rlt r R h1 x h4,(hM.mine r R h1 h2).2 x h4⟩
   ·obtain ⟨r,hr,R,g1,h1,h2,h4⟩:=hKr i x hx;obtain ⟨r',hr',R',g1',h1',h2',h4'⟩:=hKr j x hx';have:=hM.own_apart h1 h2 h1' h2' h4 h4';subst this;exact hne (hG.inj i j r g1 g1')
   ·cases he;rw [hkl] at hcl;cases hcl;rw [hju] at hxu;cases hxu;have ha:ats[jr]?=some (.sl n []):=by rw [hats];exact hrm
    rcases hG.get jr _ ha with ⟨_,_,h,_⟩|⟨_,h,_⟩|⟨r,R,h,hR,_,hcs⟩
    ·cases h
    ·cases h
    ·cases h;have hty:=hS'.tm.2 0 (.v (.at (.kp n J t'))) xs[ja] (by rw [htm];rfl) (by simp)
     obtain ⟨e1,e2,e3⟩:=hty.2 R hR;have hyl2:jr<ys.length:=by rw [hyl];exact (List.getElem?_eq_some_iff.1 ha).1
     have hy:=List.getElem?_eq_getElem hyl2;have e4:=(hyv jr _ _ ha hy).2 R hR;simp only [zbi,Option.some.injEq] at e4;refine ⟨e1 ▸ R.l,?_,by rw [hy,<- e4,e2],?_⟩
     ·rw [hcs];cases e1;rfl
     ·rw [hM.κ] at e3;exact e3)
 refine hcalls.mono ?_;intro ex w' he;cases ex with
 | returned v=>exact he
 | panicked chain=>exact he.elim
 | outgrown=>exact he.elim
end
def zA (h:Host):List CV:=[.s (.sl .int) h.Memory,.s .mon h.Mons,.s .entry h.Buffer,.s .entry h.IoBuffer]
def zkf (c:Ctl):List CV:=[.i .i64 c.Traps,.i .i64 c.Post,.b c.Open]
def zdQ (e:GExit):List CV:=[.i .i64 e.Kind,.i .i64 e.Page,.b e.Write,.i .i64 e.N]
structure Cur where
 b:List Int
 i:Int
 h:Int
def zB:List (Nat×Nat×Tmpl)->FuncId->Nat->Option Tmpl
 | [],_,_=>none
 | (g,c,T) :: r,f,b=>cond (Nat.beq g f) (cond (Nat.beq c b) (some T) (zB r f b)) (zB r f b)
def pc (p:Prop):Bool:=@decide p (Classical.propDecidable p)
theorem zJ {p:Prop}:pc p=true↔p:=by
 unfold pc;exact @decide_eq_true_iff p (Classical.propDecidable p)
theorem zU {p:Prop}(h:p):pc p=true:=zJ.2 h
inductive CVB (K:Nat):CV->Prop
 | i (k:IntKind) (n:Int):CVB K (.i k n)
 | b (x:Bool):CVB K (.b x)
 | s (t:Ty) (l:List t.den) (hl:l.length<=K) (h:∀x∈l,∀c∈t.cells x,CVB K c):CVB K (.s t l)
theorem CVB.inv {K:Nat}{t:Ty}{l:List t.den}(h:CVB K (.s t l)):l.length<=K/\∀x∈l,∀c∈t.cells x,CVB K c:=by
 cases h with
 | s _ _ hl h=>exact ⟨hl,h⟩
theorem CVB.len {K:Nat}{t:Ty}{l:List t.den}(h:CVB K (.s t l)):l.length<=K:=h.inv.1
theorem CVB.mono {K L:Nat}(hKL:K<=L){c:CV}(h:CVB K c):CVB L c:=by
 induction h with
 | i k n=>exact .i k n
 | b x=>exact .b x
 | s t l hl h ih=>exact .s t l (Nat.le_trans hl hKL) ih
theorem CVB.of_rep {o:Bool}{w:World}{v:Value}{c:CV}{S:zbn}(h:Rep o w v c S):CVB big c:=by
 induction h with
 | i k n S=>exact .i k n
 | b x S=>exact .b x
 | nil t S=>exact .s t [] (Nat.zero_le _) (fun x h=>by cases h)
 | void t a S ho=>exact .s t [] (Nat.zero_le _) (fun x h=>by cases h)
 | sl t l b off cap arr e fz V K S hb hfz hlen hcap hsz hS hsub hdis hv hc ih =>
  refine .s t l hlen (fun x hx c hcx=>?_);obtain ⟨i,hi⟩:=List.mem_iff_getElem?.1 hx;obtain ⟨j,hj⟩:=List.mem_iff_getElem?.1 hcx;exact ih i x hi j c hj
theorem CVB.of_ok {c:CV}(h:CVOk c):CVB big c:=by
 induction h with
 | i k n _=>exact .i k n
 | b x=>exact .b x
 | s t l hl h ih =>
  refine .s t l hl (fun x hx c hcx=>?_);obtain ⟨i,hi⟩:=List.mem_iff_getElem?.1 hx;obtain ⟨j,hj⟩:=List.mem_iff_getElem?.1 hcx;exact ih i x hi j c hj
def zG (K:Nat)(avs:List AV):Prop:=∀c∈zI avs,CVB K c
theorem zbu {K:Nat}{a:AV}{avs:List AV}(h:zG K (a :: avs)):(∀c∈a.cvs,CVB K c)/\zG K avs:=by
 unfold zG zI at *;simp only [List.flatMap_cons,List.mem_append] at h;exact ⟨fun c hc=>h c (.inl hc),fun c hc=>h c (.inr hc)⟩
theorem zSI {avs:List AV}(h:∃w xs,zdO false w (zI avs) xs (fun _ b=>b<w.heap.size)):zG big avs:=by
 obtain ⟨w,xs,h1,h2⟩:=h;intro c hc;obtain ⟨i,hi⟩:=List.mem_iff_getElem?.1 hc;have hlt:i<xs.length:=by rw [h1];exact (List.getElem?_eq_some_iff.1 hi).1
 exact CVB.of_rep (h2 i c _ hi (List.getElem?_eq_getElem hlt))
theorem zi7 {cs:List CV}{avs:List AV}(h:∃(w:World) (xs:Nat->Value) (K:Nat->zbn),∀(j:Nat) (c:CV),(cs++zI avs)[j]?=some c->Rep false w (xs j) c (K j)):zG big (.agg cs :: avs):=by
 obtain ⟨w,xs,K,h⟩:=h;intro c hc;have e:zI (AV.agg cs :: avs)=cs++zI avs:=by simp [zI,AV.cvs]
 rw [e] at hc;obtain ⟨j,hj⟩:=List.mem_iff_getElem?.1 hc;exact CVB.of_rep (h j c hj)
theorem zkI {b c:Bool}{x y:List CV}{z u:List AV}(h:some (b,x,z)=some (c,y,u)):b=c/\y=x/\u=z:=by
 cases h;exact ⟨rfl,rfl,rfl⟩
theorem zl {b c:Bool}{x y:List AV}(h:some (b,x)=some (c,y)):b=c/\y=x:=by
 cases h;exact ⟨rfl,rfl⟩
abbrev zbQ:=List (Nat×(List AV->Option (Bool×List AV)))
def zEr:zbQ:=[]
theorem zrU:∀f run,zx zEr f=some run->Holds Tryz.prog f run:=fun f run h=>by cases h
abbrev zbw (l:zbQ):Prop:=∀f run,zx l f=some run->Holds Tryz.prog f run
theorem zn {l:zbQ}{f:Nat}{run:List AV->Option (Bool×List AV)}(h:Holds Tryz.prog f run)(hl:zbw l):zbw ((f,run) :: l):=by
 intro g r hg;unfold zx at hg;split at hg
 ·rename_i e;cases hg;rw [<- beq_iff_eq.1 e];exact h
 ·exact hl g r hg
abbrev zEn:=List (Nat×(CV->Int->Option (Bool×CV×Int)))
def zbV:zEn:=[]
theorem zbd:∀f run,zx zbV f=some run->zen Tryz.prog f run:=fun f run h=>by cases h
theorem zFI {l m:zEn}(hm:∀f run,zx m f=some run->zen Tryz.prog f run)(hl:∀x∈l,zen Tryz.prog x.1 x.2):∀f run,zx (l++m) f=some run->zen Tryz.prog f run:=by
 intro f run h;rw [zbY] at h;split at h
 ·rename_i y hy;cases h;exact hl _ (zk0 hy)
 ·exact hm f run h
abbrev zy3:=List (Nat×(List Bool×(List CV->List AV->Option (Bool×List CV×List AV))))
def zK:zy3:=[]
theorem zu:∀f own run,zx zK f=some (own,run)->zeJ Tryz.prog f own run:=fun f own run h=>by cases h
theorem ztj {l m:zy3}(hm:∀f own run,zx m f=some (own,run)->zeJ Tryz.prog f own run)(hl:∀x∈l,zeJ Tryz.prog x.1 x.2.1 x.2.2):∀f own run,zx (l++m) f=some (own,run)->zeJ Tryz.prog f own run:=by
 intro f own run h;rw [zbY] at h;split at h
 ·rename_i y hy;cases h;exact hl _ (zk0 hy)
 ·exact hm f own run h
abbrev zy4:=List (Nat×(List Bool×Option (Nat×Nat×List (List Nat))×(List AV->Option (Bool×List AV))))
def zO:zy4:=[]
theorem zy:∀f own inp run,zx zO f=some (own,inp,run)->zez Tryz.prog f own inp run:=fun f own inp run h=>by cases h
theorem zuJ {l m:zy4}(hm:∀f own inp run,zx m f=some (own,inp,run)->zez Tryz.prog f own inp run)(hl:∀x∈l,zez Tryz.prog x.1 x.2.1 x.2.2.1 x.2.2.2):∀f own inp run,zx (l++m) f=some (own,inp,run)->zez Tryz.prog f own inp run:=by
 intro f own inp run h;rw [zbY] at h;split at h
 ·rename_i y hy;cases h;exact hl _ (zk0 hy)
 ·exact hm f own inp run h
abbrev cQ (c:zbQ)(m:zEn)(p:zy3)(t:zy4):Cfg:=zke (zx c) (zx m) (zx p) (zx t)
theorem zo {c:zbQ}{m:zEn}{p:zy3}{t:zy4}(o1:zbw c)(o2:∀f run,zx m f=some run->zen Tryz.prog f run)(o3:∀f own run,zx p f=some (own,run)->zeJ Tryz.prog f own run)(o4:∀f own inp run,zx t f=some (own,inp,run)->zez Tryz.prog f own inp run){f:FuncId}{run:List AV->Option (Bool×List AV)}(hf:FnOk Tryz.prog f)(h:∀avs rs,zG big avs->run avs=some (true,rs)->∃tms N,evalFn (cQ c m p t) tms N 12 f avs=some rs):Holds Tryz.prog f run :=
 zAp (zdF o1 o2 o3 o4) hf fun avs rs hr e=>(h avs rs (zSI hr) e).elim fun t x=>x.elim fun N y=>⟨t,N,12,y⟩
theorem fin0 {C:Cfg}{tms:FuncId->Nat->Option Tmpl}{f:FuncId}{av:List AV}{E:Nat->Option Ans}{r:Ans}{c:Bool}(law:zG big (av)->c=true->∃N,E N=some (r))(nf:∀N,evalFn C tms N 12 f (av)=E N)(hc:c=true)(hb:zG big (av)):∃tms N,evalFn C tms N 12 f (av)=some (r) :=
 (law hb hc).elim fun N e=>⟨tms,N,(nf N).trans e⟩
theorem fin1 {A0:Type}{C:Cfg}{tms:FuncId->Nat->Option Tmpl}{f:FuncId}{av:A0->List AV}{E:Nat->A0->Option Ans}{r:A0->Ans}{c:A0->Bool}(law:∀a0,zG big (av a0)->c a0=true->∃N,E N a0=some (r a0))(nf:∀N a0,evalFn C tms N 12 f (av a0)=E N a0){a0:A0}(hc:c a0=true)(hb:zG big (av a0)):∃tms N,evalFn C tms N 12 f (av a0)=some (r a0) :=
 (law _ hb hc).elim fun N e=>⟨tms,N,(nf N _).trans e⟩
theorem fin2 {A0 A1:Type}{C:Cfg}{tms:FuncId->Nat->Option Tmpl}{f:FuncId}{av:A0->A1->List AV}{E:Nat->A0->A1->Option Ans}{r:A0->A1->Ans}{c:A0->A1->Bool}(law:∀a0 a1,zG big (av a0 a1)->c a0 a1=true->∃N,E N a0 a1=some (r a0 a1))(nf:∀N a0 a1,evalFn C tms N 12 f (av a0 a1)=E N a0 a1){a0:A0}{a1:A1}(hc:c a0 a1=true)(hb:zG big (av a0 a1)):∃tms N,evalFn C tms N 12 f (av a0 a1)=some (r a0 a1) :=
 (law _ _ hb hc).elim fun N e=>⟨tms,N,(nf N _ _).trans e⟩
theorem zd3 {A0 A1 A2:Type}{C:Cfg}{tms:FuncId->Nat->Option Tmpl}{f:FuncId}{av:A0->A1->A2->List AV}{E:Nat->A0->A1->A2->Option Ans}{r:A0->A1->A2->Ans}{c:A0->A1->A2->Bool}(law:∀a0 a1 a2,zG big (av a0 a1 a2)->c a0 a1 a2=true->∃N,E N a0 a1 a2=some (r a0 a1 a2))(nf:∀N a0 a1 a2,evalFn C tms N 12 f (av a0 a1 a2)=E N a0 a1 a2){a0:A0}{a1:A1}{a2:A2}(hc:c a0 a1 a2=true)(hb:zG big (av a0 a1 a2)):∃tms N,evalFn C tms N 12 f (av a0 a1 a2)=some (r a0 a1 a2) :=
 (law _ _ _ hb hc).elim fun N e=>⟨tms,N,(nf N _ _ _).trans e⟩
theorem zWn {A0 A1 A2 A3:Type}{C:Cfg}{tms:FuncId->Nat->Option Tmpl}{f:FuncId}{av:A0->A1->A2->A3->List AV}{E:Nat->A0->A1->A2->A3->Option Ans}{r:A0->A1->A2->A3->Ans}{c:A0->A1->A2->A3->Bool}(law:∀a0 a1 a2 a3,zG big (av a0 a1 a2 a3)->c a0 a1 a2 a3=true->∃N,E N a0 a1 a2 a3=some (r a0 a1 a2 a3))(nf:∀N a0 a1 a2 a3,evalFn C tms N 12 f (av a0 a1 a2 a3)=E N a0 a1 a2 a3){a0:A0}{a1:A1}{a2:A2}{a3:A3}(hc:c a0 a1 a2 a3=true)(hb:zG big (av a0 a1 a2 a3)):∃tms N,evalFn C tms N 12 f (av a0 a1 a2 a3)=some (r a0 a1 a2 a3) :=
 (law _ _ _ _ hb hc).elim fun N e=>⟨tms,N,(nf N _ _ _ _).trans e⟩
theorem z2K {A0 A1 A2 A3 A4:Type}{C:Cfg}{tms:FuncId->Nat->Option Tmpl}{f:FuncId}{av:A0->A1->A2->A3->A4->List AV}{E:Nat->A0->A1->A2->A3->A4->Option Ans}{r:A0->A1->A2->A3->A4->Ans}{c:A0->A1->A2->A3->A4->Bool}(law:∀a0 a1 a2 a3 a4,zG big (av a0 a1 a2 a3 a4)->c a0 a1 a2 a3 a4=true->∃N,E N a0 a1 a2 a3 a4=some (r a0 a1 a2 a3 a4))(nf:∀N a0 a1 a2 a3 a4,evalFn C tms N 12 f (av a0 a1 a2 a3 a4)=E N a0 a1 a2 a3 a4){a0:A0}{a1:A1}{a2:A2}{a3:A3}{a4:A4}(hc:c a0 a1 a2 a3 a4=true)(hb:zG big (av a0 a1 a2 a3 a4)):∃tms N,evalFn C tms N 12 f (av a0 a1 a2 a3 a4)=some (r a0 a1 a2 a3 a4) :=
 (law _ _ _ _ _ hb hc).elim fun N e=>⟨tms,N,(nf N _ _ _ _ _).trans e⟩
theorem z2L {A0 A1 A2 A3 A4 A5:Type}{C:Cfg}{tms:FuncId->Nat->Option Tmpl}{f:FuncId}{av:A0->A1->A2->A3->A4->A5->List AV}{E:Nat->A0->A1->A2->A3->A4->A5->Option Ans}{r:A0->A1->A2->A3->A4->A5->Ans}{c:A0->A1->A2->A3->A4->A5->Bool}(law:∀a0 a1 a2 a3 a4 a5,zG big (av a0 a1 a2 a3 a4 a5)->c a0 a1 a2 a3 a4 a5=true->∃N,E N a0 a1 a2 a3 a4 a5=some (r a0 a1 a2 a3 a4 a5))(nf:∀N a0 a1 a2 a3 a4 a5,evalFn C tms N 12 f (av a0 a1 a2 a3 a4 a5)=E N a0 a1 a2 a3 a4 a5){a0:A0}{a1:A1}{a2:A2}{a3:A3}{a4:A4}{a5:A5}(hc:c a0 a1 a2 a3 a4 a5=true)(hb:zG big (av a0 a1 a2 a3 a4 a5)):∃tms N,evalFn C tms N 12 f (av a0 a1 a2 a3 a4 a5)=some (r a0 a1 a2 a3 a4 a5) :=
 (law _ _ _ _ _ _ hb hc).elim fun N e=>⟨tms,N,(nf N _ _ _ _ _ _).trans e⟩
theorem zi8 {avs:List AV}(h:∃(w:World) (xs:Nat->Value) (K:Nat->zbn),∀(j:Nat) (c:CV),(zI avs)[j]?=some c->Rep false w (xs j) c (K j)):zG big avs:=by
 obtain ⟨w,xs,K,h⟩:=h;intro c hc;obtain ⟨j,hj⟩:=List.mem_iff_getElem?.1 hc;exact CVB.of_rep (h j c hj)
noncomputable def zXN (f:FuncId):Bool :=
 match Tryz.prog.funcs[f]? with
 | some fn=>fn.body.isSome && !(fn.name == "runtime.NumGoroutine")
 | none=>false
theorem zC {f:FuncId}(h:zXN f=true):FnOk Tryz.prog f:=by
 unfold zXN at h;split at h
 ·rename_i fn hf;simp only [Bool.and_eq_true,Bool.not_eq_true'] at h;obtain ⟨b,hb⟩:=Option.isSome_iff_exists.1 h.1;exact ⟨fn,b,hf,hb,h.2⟩
 ·cases h
theorem cT {α:Type}(x y:α):(cond true x y)=x:=by simp
theorem cF {α:Type}(x y:α):(cond false x y)=y:=by simp
theorem zxl:big=140737488355328:=rfl
theorem zVI {x:Int}(h1 : -9223372036854775808<=x)(h2:x<=9223372036854775807):IntKind.i64.wrap x=x:=by
 simp only [IntKind.wrap,IntKind.signed,IntKind.bits];simp;omega
theorem zeF {x y:Int}(h1 : -9223372036854775808<=x+y)(h2:x+y<=9223372036854775807):zq .i64 x y=x+y:=zVI h1 h2
theorem zoE {x y:Int}(h1 : -9223372036854775808<=x-y)(h2:x-y<=9223372036854775807):wsub .i64 x y=x-y:=zVI h1 h2
theorem zbf {i n:Nat}(h:i<n)(hn:n<=big):zq .i64 (i:Int) 1=((i+1:Nat):Int):=by
 rw [zxl] at hn;rw [zeF (by omega) (by omega)]
 omega
section
variable {α:Type}
theorem zbv {l:List α}{i:Nat}(h:i<l.length):ilt (i:Int) (ln l)=true:=by
 unfold ilt ln;exact decide_eq_true (by omega)
theorem zbj {l:List α}:ilt ((l.length:Nat):Int) (ln l)=false:=by
 unfold ilt ln;exact decide_eq_false (by omega)
theorem zbg {l:List α}{i:Nat}(h:i<l.length):inb (i:Int) (ln l)=true:=by
 unfold inb ln;exact decide_eq_true (by omega)
theorem zbq {l:List α}{i:Nat}(h:i<l.length)(d:α):ix l (i:Int) d=l[i]:=by
 unfold ix;simp [List.getD,List.getElem?_eq_getElem h]
theorem zeo {l:List α}(h:l.length<=2147483648):few (ln l)=true:=by
 unfold few ln;exact decide_eq_true (by omega)
theorem zfQ (x:Int):ieq x x=true:=by simp [ieq]
theorem zb2 (x:Int):ine x x=false:=by simp [ine]
theorem zcj (x:Bool):zhh x x=true:=by simp [zhh]
end
theorem zcw {σ ρ:Type}(n:Nat)(F:(σ->Option ρ)->σ->Option ρ)(s:σ):iter (n+1) F s=F (iter n F) s:=rfl
def goL {α τ ρ:Type}(body:Nat->α->τ->(τ->Option ρ)->Option ρ)(K:τ->Option ρ):List α->Nat->τ->Option ρ
 | [],_,t=>K t
 | x :: l,i,t=>body i x t (goL body K l (i+1))
theorem zbF {α τ ρ σ:Type}(l:List α)(st:Nat->τ->σ)(F:(σ->Option ρ)->σ->Option ρ)(body:Nat->α->τ->(τ->Option ρ)->Option ρ)(K:τ->Option ρ)(hstep:∀(i:Nat) (hi:i<l.length) (t:τ) (rec:σ->Option ρ),F rec (st i t)=body i l[i] t (fun t'=>rec (st (i+1) t')))(hend:∀(t:τ) (rec:σ->Option ρ),F rec (st l.length t)=K t) :
 ∀(N:Nat) (t:τ),l.length<N->iter N F (st 0 t)=goL body K l 0 t:=by
 have key:∀(m i N:Nat) (t:τ),l.length-i=m->i<=l.length->m<N->iter N F (st i t)=goL body K (l.drop i) i t:=by
  intro m
  induction m with
  | zero =>
   intro i N t hm hi hN;have:i=l.length:=by omega
   subst this;obtain ⟨n,rfl⟩:∃n,N=n+1:=⟨N-1,by omega⟩
   rw [zcw,hend,List.drop_length];rfl
  | succ m ih =>
   intro i N t hm hi hN;obtain ⟨n,rfl⟩:∃n,N=n+1:=⟨N-1,by omega⟩
   have hlt:i<l.length:=by omega
   rw [zcw,hstep i hlt,List.drop_eq_getElem_cons hlt];simp only [goL]
   congr 1
   funext t'
   exact ih (i+1) n t' (by omega) (by omega) (by omega)
 intro N t hN;have:=key l.length 0 N t (by omega) (Nat.zero_le _) hN
 simpa using this
def goN {τ ρ:Type}(body:Nat->τ->(τ->Option ρ)->Option ρ)(K:τ->Option ρ):Nat->Nat->τ->Option ρ
 | 0,_,t=>K t
 | n+1,i,t=>body i t (goN body K n (i+1))
theorem zzN {τ ρ σ:Type}(n:Nat)(st:Nat->τ->σ)(F:(σ->Option ρ)->σ->Option ρ)(body:Nat->τ->(τ->Option ρ)->Option ρ)(K:τ->Option ρ)(hstep:∀(i:Nat) (hi:i<n) (t:τ) (rec:σ->Option ρ),F rec (st i t)=body i t (fun t'=>rec (st (i+1) t')))(hend:∀(t:τ) (rec:σ->Option ρ),F rec (st n t)=K t) :
 ∀(N:Nat) (t:τ),n<N->iter N F (st 0 t)=goN body K n 0 t:=by
 have key:∀(m i N:Nat) (t:τ),n-i=m->i<=n->m<N->iter N F (st i t)=goN body K (n-i) i t:=by
  intro m
  induction m with
  | zero =>
   intro i N t hm hi hN;have:i=n:=by omega
   subst this;obtain ⟨k,rfl⟩:∃k,N=k+1:=⟨N-1,by omega⟩
   rw [zcw,hend,Nat.sub_self];rfl
  | succ m ih =>
   intro i N t hm hi hN;obtain ⟨k,rfl⟩:∃k,N=k+1:=⟨N-1,by omega⟩
   have hlt:i<n:=by omega
   have e:n-i=(n-(i+1))+1:=by omega
   rw [zcw,hstep i hlt,e];simp only [goN]
   congr 1
   funext t'
   exact ih (i+1) k t' (by omega) (by omega) (by omega)
 intro N t hN;have:=key n 0 N t (by omega) (Nat.zero_le _) hN
 simpa using this
theorem zlL {α ρ:Type}(l:List α)(d:α)(c:α->Bool)(f:α->α)(K:List α->Option ρ)(hl:l.length<=big)(hf:∀x∈l,c x=true/\f x=x){N:Nat}(hN:l.length<N) :
 iter N (fun r (s:Int×List α×List α×Unit)=>(bif (ilt s.1 (ln s.2.1)) then (bif (inb s.1 (ln s.2.1)) then (bif (c (ix s.2.1 s.1 d)) then (bif (inb s.1 (ln s.2.2.1)) then
  (r ((zq .i64 s.1 1),(s.2.1,((up s.2.2.1 s.1 (f (ix s.2.1 s.1 d))),())))) else none) else none) else none) else K s.2.2.1)) (0,(l,((rp (ln l) d),())))=K l:=by
 have key:∀(m i N:Nat),l.length-i=m->i<=l.length->m<N->iter N (fun r (s:Int×List α×List α×Unit)=>(bif (ilt s.1 (ln s.2.1)) then (bif (inb s.1 (ln s.2.1)) then (bif (c (ix s.2.1 s.1 d)) then (bif (inb s.1 (ln s.2.2.1)) then
  (r ((zq .i64 s.1 1),(s.2.1,((up s.2.2.1 s.1 (f (ix s.2.1 s.1 d))),())))) else none) else none) else none) else K s.2.2.1)) ((i:Int),(l,(l.take i++List.replicate (l.length-i) d,())))=K l:=by
  intro m
  induction m with
  | zero =>
   intro i N hm hi hN;have:i=l.length:=by omega
   subst this;obtain ⟨n,rfl⟩:∃n,N=n+1:=⟨N-1,by omega⟩
   rw [zcw];simp only [zbj,cF];simp
  | succ m ih =>
   intro i N hm hi hN;obtain ⟨n,rfl⟩:∃n,N=n+1:=⟨N-1,by omega⟩
   have hlt:i<l.length:=by omega
   have hlen:(l.take i++List.replicate (l.length-i) d).length=l.length:=by simp;omega
   obtain ⟨h1,h2⟩:=hf l[i] (List.getElem_mem hlt);have hup:up (l.take i++List.replicate (l.length-i) d) (i:Int) l[i]=l.take (i+1)++List.replicate (l.length-(i+1)) d:=by
    unfold up;apply List.ext_getElem?;intro k;have e:(i:Int).toNat=i:=by omega
    rw [e,List.getElem?_set]
    by_cases hk:i=k
    ·subst hk;rw [if_pos rfl,if_pos (by omega),List.getElem?_append_left (by simp;omega),List.getElem?_take,if_pos (by omega),List.getElem?_eq_getElem hlt]
    ·rw [if_neg hk]
     by_cases hki:k<i
     ·rw [List.getElem?_append_left (by simp;omega),List.getElem?_append_left (by simp;omega),List.getElem?_take,List.getElem?_take,if_pos hki,if_pos (by omega)]
     ·have e1:(l.take i).length=i:=by simp;omega
      have e2:(l.take (i+1)).length=i+1:=by simp;omega
      rw [List.getElem?_append_right (by omega),List.getElem?_append_right (by omega),List.getElem?_replicate,List.getElem?_replicate,e1,e2]
      by_cases hkl:k<l.length
      ·rw [if_pos (by omega),if_pos (by omega)]
      ·rw [if_neg (by omega),if_neg (by omega)]
   rw [zcw];simp only [zbv hlt,zbg hlt,zbq hlt,h1,h2,cT,zbg (l:=l.take i++List.replicate (l.length-i) d) (i:=i) (by omega),zbf hlt hl,hup]
   exact ih (i+1) n (by omega) (by omega) (by omega)
 have:=key l.length 0 N (by omega) (Nat.zero_le _) hN
 have e:rp (ln l) d=List.replicate l.length d:=by simp [rp,ln]
 rw [e];simpa using this
theorem zjO {α ρ:Type}(l:List α)(d:α)(F:(Int×List α×List α×Unit->Option ρ)->Int×List α×List α×Unit->Option ρ)(k:Option ρ)(hl:l.length<=big)(hstep:∀(i:Nat) (hi:i<l.length) rec,F rec ((i:Int),l,l,())=rec (zq .i64 (i:Int) 1,l,l,()))(hend:∀rec,F rec ((l.length:Int),l,l,())=k){N:Nat}(hN:l.length<N) :
 iter N F (0,(l,(l,())))=k:=by
 have key:∀(m i N:Nat),l.length-i=m->i<=l.length->m<N->iter N F ((i:Int),(l,(l,())))=k:=by
  intro m
  induction m with
  | zero =>
   intro i N hm hi hN;have:i=l.length:=by omega
   subst this;obtain ⟨n,rfl⟩:∃n,N=n+1:=⟨N-1,by omega⟩
   rw [zcw,hend]
  | succ m ih =>
   intro i N hm hi hN;obtain ⟨n,rfl⟩:∃n,N=n+1:=⟨N-1,by omega⟩
   have hlt:i<l.length:=by omega
   rw [zcw,hstep i hlt,zbf hlt hl];exact ih (i+1) n (by omega) (by omega) (by omega)
 exact key l.length 0 N (by omega) (Nat.zero_le _) hN
def sm:Nat:=1048576
def szL {α:Type}(l:List α)(n:Int):Int:=if n-l.length<0 then -1 else n-l.length
theorem znn {α:Type}{l:List α}{n:Int}(hl:l.length<=big)(h0:0<=n)(h1:n<=1048576):wsub .i64 n (ln l)=n-l.length:=by
 rw [zxl] at hl;exact zoE (by simp only [ln];omega) (by simp only [ln];omega)
theorem ziU:pc True=true:=zU trivial
theorem zcA {n:Nat}(h:n<=sm):n<=big/\n<=2147483648:=by
 unfold sm at h;rw [zxl];omega
def hasB (i n:Int):Bool:=decide (0<=i/\i<n)
theorem has_eq (i n:Int):(ige i 0&&ilt i n)=hasB i n:=by
 unfold ige ilt hasB
 by_cases h1:0<=i<;>by_cases h2:i<n<;>simp [h1,h2]
theorem zF {i n:Int}(h:hasB i n=true):inb i n=true:=h
theorem zej {i:Int}{n:Nat}(h:hasB i n=true):∃k:Nat,i=k/\k<n:=by
 have:0<=i/\i<n:=of_decide_eq_true h;exact ⟨i.toNat,by omega,by omega⟩
theorem zdd {α:Type}{l:List α}{i:Int}(h:hasB i (ln l)=true)(d:α):ix l i d∈l:=by
 obtain ⟨k,rfl,hk⟩:=zej (n:=l.length) h;rw [zbq hk];exact List.getElem_mem hk
theorem zkt {α:Type}(l:List α):ap [] l=l:=rfl
theorem zhX {α ρ:Type}(c:α->Bool)(f:α->α)(K:List α->Option ρ):∀(l:List α) (i:Nat) (acc:List α),(∀x∈l,c x=true/\f x=x)->acc.length+l.length<=2147483648 ->
 goL (fun _ x acc k=>bif c x then (cond (few (ln (ap acc [f x]))) (k (ap acc [f x])) none) else none) K l i acc=K (acc++l)
 | [],i,acc,_,_=>by simp [goL]
 | x :: l,i,acc,h,hn=>by
  obtain ⟨h1,h2⟩:=h x (by simp)
  simp only [List.length_cons] at hn;simp only [goL,h1,h2,cT];rw [zeo (by simp [ap];omega),cT,zhX c f K l (i+1) _ (fun y hy=>h y (by simp [hy])) (by simp [ap];omega)]
  simp [ap]
def zea (h:Host):Prop:=∀c∈zA h,CVB sm c
theorem zea.mem {h:Host}(hs:zea h):CVB sm (.s (.sl .int) h.Memory):=hs _ (by simp [zA])
theorem zea.mons {h:Host}(hs:zea h):CVB sm (.s .mon h.Mons):=hs _ (by simp [zA])
theorem zl8 {t:Ty}{l:List t.den}(h:CVB sm (.s t l)):few (ln l)=true:=zeo (zcA h.len).2
def NN:Nat:=big+1
theorem zb8 {n:Nat}(h:n<=big):n<NN:=Nat.lt_succ_of_le h
def zsH (p:Nat->Bool):Nat->Nat->Bool
 | 0,_=>true
 | n+1,i=>p i&&zsH p n (i+1)
theorem zCw {ρ:Type}(p:Nat->Bool)(r:Option ρ)(K:Unit->Option ρ):∀(n i:Nat),goN (fun i (_:Unit) k=>bif p i then k () else r) K n i ()=bif zsH p n i then K () else r
 | 0,_=>rfl
 | n+1,i=>by
  simp only [goN,zsH];cases p i
  ·rfl
  ·simp only [cT,Bool.true_and];exact zCw p r K n (i+1)
theorem zxs {α τ ρ:Type}(b:Nat->τ->(τ->Option ρ)->Option ρ)(K:τ->Option ρ):∀(l:List α) (i:Nat) (t:τ),goL (fun i _ t k=>b i t k) K l i t=goN b K l.length i t
 | [],_,_=>rfl
 | _ :: l,i,t=>by
  have ih:goL (fun i _ t k=>b i t k) K l (i+1)=goN b K l.length (i+1):=funext fun t=>zxs b K l (i+1) t;simp only [goL,List.length_cons,goN,ih]
theorem zgm {α ρ:Type}(p:α->Bool)(r:Option ρ)(K:Unit->Option ρ):∀(l:List α) (i:Nat),goL (fun _ x (_:Unit) k=>bif p x then k () else r) K l i ()=bif l.all p then K () else r
 | [],_=>rfl
 | x :: l,i=>by
  simp only [goL,List.all_cons];cases p x
  ·rfl
  ·simp only [cT,Bool.true_and];exact zgm p r K l (i+1)
theorem zHy {n:Nat}(hn:n<=big)(i:Int):(ige i 0&&ile i (wsub .i64 (n:Int) 1))=hasB i n:=by
 rw [zxl] at hn;rw [zoE (by omega) (by omega)]
 unfold ige ile hasB
 by_cases h1:0<=i<;>by_cases h2:i<n
 ·rw [decide_eq_true (p:=i≥0) (by omega),decide_eq_true (p:=i<=(n:Int)-1) (by omega),decide_eq_true (p:=0<=i/\i<(n:Int)) ⟨h1,h2⟩];rfl
 ·rw [decide_eq_false (p:=i<=(n:Int)-1) (by omega),decide_eq_false (p:=0<=i/\i<(n:Int)) (by omega)];simp
 ·rw [decide_eq_false (p:=i≥0) (by omega),decide_eq_false (p:=0<=i/\i<(n:Int)) (by omega)];simp
 ·rw [decide_eq_false (p:=i≥0) (by omega),decide_eq_false (p:=0<=i/\i<(n:Int)) (by omega)];simp
theorem zxz {σ ρ τ:Type}(n:Nat)(st:Nat->τ->σ)(F:(σ->Option ρ)->σ->Option ρ)(I:Nat->τ->Prop)(res:Nat->τ->Option ρ)(hstep:∀(i:Nat) (t:τ) (rec:σ->Option ρ),i<n->I i t->(∀t',I (i+1) t'->rec (st (i+1) t')=res (i+1) t')->F rec (st i t)=res i t)(hend:∀(t:τ) (rec:σ->Option ρ),I n t->F rec (st n t)=res n t):∀(N i:Nat) (t:τ),I i t->i<=n->n-i<N->iter N F (st i t)=res i t:=by
 have key:∀(m N i:Nat) (t:τ),n-i=m->I i t->i<=n->m<N->iter N F (st i t)=res i t:=by
  intro m
  induction m with
  | zero =>
   intro N i t hm hI hi hN;obtain ⟨k,rfl⟩:∃k,N=k+1:=⟨N-1,by omega⟩
   have:i=n:=by omega
   subst this;rw [zcw];exact hend t _ hI
  | succ m ih =>
   intro N i t hm hI hi hN;obtain ⟨k,rfl⟩:∃k,N=k+1:=⟨N-1,by omega⟩
   rw [zcw];exact hstep i t _ (by omega) hI (fun t' hI'=>ih k (i+1) t' (by omega) hI' (by omega) (by omega))
 intro N i t hI hi hN;exact key (n-i) N i t rfl hI hi hN
section
variable {α:Type}
theorem zVD {l:List α}{i:Nat}(h:i<l.length)(d:α):up l (i:Int) (ix l (i:Int) d)=l:=by
 rw [zbq h];unfold up;apply List.ext_getElem?;intro k;rw [List.getElem?_set];have e:(i:Int).toNat=i:=by omega
 rw [e]
 by_cases hk:i=k
 ·subst hk;simp [h]
 ·simp [hk]
theorem ze3 {l:List α}{i:Nat}(h:i<l.length)(x d:α):ix (up l (i:Int) x) (i:Int) d=x:=by
 unfold ix up;have e:(i:Int).toNat=i:=by omega
 rw [e];simp [List.getD,h]
theorem zCR (l:List α)(i:Int)(x y:α):up (up l i x) i y=up l i y:=by
 unfold up;simp
theorem z1J {l:List α}{i k:Nat}(h:i<k)(x:α):(up l (i:Int) x)[k]?=l[k]?:=by
 unfold up;have e:(i:Int).toNat=i:=by omega
 rw [e,List.getElem?_set,if_neg (by omega)]
end
def thn (n:Int)(k:Int->Int):Int:=if n<0 then -1 else k n
def zAi {α:Type}(f:α->Int->Int):List α->Int->Int
 | [],n=>n
 | x :: l,n=>thn (f x n) (zAi f l)
def zoA {α:Type}(f:α->Int->Int)(l:List α)(n:Int):Int:=thn (n-l.length) (zAi f l)
def SzP {α:Type}(sm':α->Prop)(f:α->Int->Int):Prop:=∀x n,0<=n->n<=1048576->f x n<=n/\(0<=f x n->sm' x)
theorem zeE {P Q:Prop}{f g:Int->Int}(hf:∀n,0<=n->n<=1048576->f n<=n/\(0<=f n->P))(hg:∀n,0<=n->n<=1048576->g n<=n/\(0<=g n->Q)) :
 ∀n,0<=n->n<=1048576->thn (f n) g<=n/\(0<=thn (f n) g->P/\Q):=by
 intro n h0 h1;obtain ⟨a,b⟩:=hf n h0 h1;unfold thn;split
 ·exact ⟨by omega,fun h=>by omega⟩
 ·obtain ⟨c,d⟩:=hg (f n) (by omega) (by omega)
  exact ⟨by omega,fun h=>⟨b (by omega),d h⟩⟩
theorem zhr {α:Type}(l:List α):∀n,0<=n->n<=1048576->szL l n<=n/\(0<=szL l n->l.length<=sm):=by
 intro n h0 h1;unfold szL sm;split
 ·exact ⟨by omega,fun h=>by omega⟩
 ·exact ⟨by omega,fun h=>by omega⟩
theorem zYJ {α:Type}{S:α->Prop}{f:α->Int->Int}(hf:SzP S f):∀(l:List α) (n:Int),0<=n->n<=1048576->zAi f l n<=n/\(0<=zAi f l n->∀x∈l,S x)
 | [],n,h0,h1=>⟨Int.le_refl _,fun _ x h=>by cases h⟩
 | x :: l,n,h0,h1=>by
  obtain ⟨a,b⟩:=zeE (hf x) (zYJ hf l) n h0 h1;refine ⟨a,fun h y hy=>?_⟩;obtain ⟨c,d⟩:=b h;rcases List.mem_cons.1 hy with rfl|hy
  ·exact c
  ·exact d y hy
theorem zAj {α:Type}{S:α->Prop}{f:α->Int->Int}(hf:SzP S f)(l:List α):∀n,0<=n->n<=1048576->zoA f l n<=n/\(0<=zoA f l n->l.length<=sm/\∀x∈l,S x):=by
 intro n h0 h1;unfold zoA thn;split
 ·exact ⟨by omega,fun h=>by omega⟩
 ·obtain ⟨a,b⟩:=zYJ hf l (n-l.length) (by omega) (by omega)
  exact ⟨by omega,fun h=>⟨by unfold sm;omega,b h⟩⟩
theorem zsR {t:Ty}{l:List t.den}(hf:t.flat=true)(h:l.length<=sm):CVB sm (.s t l):=by
 refine .s t l h (fun x _ c hc=>?_);obtain ⟨j,hj⟩:=List.mem_iff_getElem?.1 hc;have:=zpd hf hj;cases c with
 | i k n=>exact .i k n
 | b x=>exact .b x
 | s t l=>cases this
theorem zc7 (n:Int):ilt n 0=decide (n<0):=rfl
theorem zCP {α:Type}(l:List α)(d:α)(c:α->Int->Bool)(f:α->Int->Int){S:α->Prop}(hf:SzP S f)(hc:∀x n,0<=n->n<=1048576->c x n=true)(hl:l.length<=big)(n0:Int)(h0:0<=n0)(h1:n0<=1048576){N:Nat}(hN:l.length<N) :
 iter N (fun r (s:Int×Int×List α×Unit)=>(bif (ilt s.2.1 (ln s.2.2.1)) then (bif (inb s.2.1 (ln s.2.2.1)) then (bif (c (ix s.2.2.1 s.2.1 d) s.1) then (bif (ilt (f (ix s.2.2.1 s.2.1 d) s.1) 0) then (some [AV.one (.i .i64 (-1))])
  else (r ((f (ix s.2.2.1 s.2.1 d) s.1),((zq .i64 s.2.1 1),(s.2.2.1,()))))) else none) else none) else (some [.one (.i .i64 s.1)]))) (n0,(0,(l,())))=some [.one (.i .i64 (zAi f l n0))]:=by
 refine (zbF l (fun i n=>(n,((i:Int),(l,())))) _ (fun _ x n k=>bif c x n then (cond (ilt (f x n) 0) (some [AV.one (.i .i64 (-1))]) (k (f x n))) else none) (fun n=>some [AV.one (.i .i64 n)])
  (fun i hi n rec=>?_) (fun n rec=>?_) _ n0 hN).trans ?_
 ·simp only [zbv hi,zbg hi,zbq hi,cT,zbf hi hl]
 ·simp only [zbj,cF]
 ·clear hl hN
  revert n0
  generalize 0=i
  induction l generalizing i with
  | nil=>intro n h0 h1;rfl
  | cons x l ih =>
   intro n h0 h1;have:=hf x n h0 h1;simp only [goL,zAi,hc x n h0 h1,cT,thn,zc7]
   by_cases hneg:f x n<0
   ·simp [hneg]
   ·simp only [hneg,decide_false,cF,if_false];exact ih (i+1) (f x n) (by omega) (by omega)
def zg6 (_:List Int)(n:Int):Bool:=pc (0<=n/\n<=1048576)
def zcI (l:List Int)(n:Int):Int:=szL l n
def ztW:List AV->Option (Bool×List AV)
 | [.one (.s .int b),.one (.i .i64 c)]=>some ((zg6 b c),[.one (.i .i64 (zcI b c))])
 | _=>none
def zyy (N:Nat)(a0:List Int)(a1:Int):Option Ans :=
 (cond (ilt (wsub .i64 a1 (ln a0)) 0) (some [(.one (.i .i64 (-1)))]) (some [(.one (.i .i64 (wsub .i64 a1 (ln a0))))]))
theorem zTZ (N:Nat)(a0:List Int)(a1:Int):evalFn (cQ zEr zbV zK zO) (zB []) N 12 35 [.one (.s .int a0),.one (.i .i64 a1)]=zyy N a0 a1:=by kernel_rfl
theorem zQu (a0:List Int)(a1:Int)(hb:zG big [.one (.s .int a0),.one (.i .i64 a1)])(hc:(zg6 a0 a1)=true):∃N,zyy N a0 a1=some [.one (.i .i64 (zcI a0 a1))]:=by
 obtain ⟨h0,h1⟩:=zJ.1 hc;have hl:=((zbu hb).1 _ (List.mem_singleton.2 rfl)).len;refine ⟨0,?_⟩;simp only [zyy,znn hl h0 h1,zcI,szL,ilt]
 by_cases h:a1-a0.length<0<;>simp [h]
theorem zJO:Holds Tryz.prog 35 ztW:=zo zrU zbd zu zy (zC (by kernel_rfl)) fun avs rs hb h=>by
 unfold ztW at h;split at h
 ·obtain ⟨hc,rfl⟩:=zl h;exact (fin2 zQu zTZ hc hb :)
 ·cases h
theorem zmy (l:List Int):∀n,0<=n->n<=1048576->zcI l n<=n/\(0<=zcI l n->CVB sm (.s .int l)):=fun n h0 h1=>⟨(zhr l n h0 h1).1,fun h=>zsR (by rfl) ((zhr l n h0 h1).2 h)⟩
def ziJ (_:List Bool)(n:Int):Bool:=pc (0<=n/\n<=1048576)
def zcx (l:List Bool)(n:Int):Int:=szL l n
def zqv:List AV->Option (Bool×List AV)
 | [.one (.s .bool b),.one (.i .i64 c)]=>some ((ziJ b c),[.one (.i .i64 (zcx b c))])
 | _=>none
def zv5 (N:Nat)(a0:List Bool)(a1:Int):Option Ans :=
 (cond (ilt (wsub .i64 a1 (ln a0)) 0) (some [(.one (.i .i64 (-1)))]) (some [(.one (.i .i64 (wsub .i64 a1 (ln a0))))]))
theorem zRs (N:Nat)(a0:List Bool)(a1:Int):evalFn (cQ zEr zbV zK zO) (zB []) N 12 82 [.one (.s .bool a0),.one (.i .i64 a1)]=zv5 N a0 a1:=by kernel_rfl
theorem zNc (a0:List Bool)(a1:Int)(hb:zG big [.one (.s .bool a0),.one (.i .i64 a1)])(hc:(ziJ a0 a1)=true):∃N,zv5 N a0 a1=some [.one (.i .i64 (zcx a0 a1))]:=by
 obtain ⟨h0,h1⟩:=zJ.1 hc;have hl:=((zbu hb).1 _ (List.mem_singleton.2 rfl)).len;refine ⟨0,?_⟩;simp only [zv5,znn hl h0 h1,zcx,szL,ilt]
 by_cases h:a1-a0.length<0<;>simp [h]
theorem zG1:Holds Tryz.prog 82 zqv:=zo zrU zbd zu zy (zC (by kernel_rfl)) fun avs rs hb h=>by
 unfold zqv at h;split at h
 ·obtain ⟨hc,rfl⟩:=zl h;exact (fin2 zNc zRs hc hb :)
 ·cases h
theorem zoS (l:List Bool):∀n,0<=n->n<=1048576->zcx l n<=n/\(0<=zcx l n->CVB sm (.s .bool l)):=fun n h0 h1=>⟨(zhr l n h0 h1).1,fun h=>zsR (by rfl) ((zhr l n h0 h1).2 h)⟩
def zeH (_:List Slot)(n:Int):Bool:=pc (0<=n/\n<=1048576)
def zbK (l:List Slot)(n:Int):Int:=szL l n
def zqz:List AV->Option (Bool×List AV)
 | [.one (.s .slot b),.one (.i .i64 c)]=>some ((zeH b c),[.one (.i .i64 (zbK b c))])
 | _=>none
def zv9 (N:Nat)(a0:List Slot)(a1:Int):Option Ans :=
 (cond (ilt (wsub .i64 a1 (ln a0)) 0) (some [(.one (.i .i64 (-1)))]) (some [(.one (.i .i64 (wsub .i64 a1 (ln a0))))]))
theorem zRw (N:Nat)(a0:List Slot)(a1:Int):evalFn (cQ zEr zbV zK zO) (zB []) N 12 81 [.one (.s .slot a0),.one (.i .i64 a1)]=zv9 N a0 a1:=by kernel_rfl
theorem zNg (a0:List Slot)(a1:Int)(hb:zG big [.one (.s .slot a0),.one (.i .i64 a1)])(hc:(zeH a0 a1)=true):∃N,zv9 N a0 a1=some [.one (.i .i64 (zbK a0 a1))]:=by
 obtain ⟨h0,h1⟩:=zJ.1 hc;have hl:=((zbu hb).1 _ (List.mem_singleton.2 rfl)).len;refine ⟨0,?_⟩;simp only [zv9,znn hl h0 h1,zbK,szL,ilt]
 by_cases h:a1-a0.length<0<;>simp [h]
theorem zG5:Holds Tryz.prog 81 zqz:=zo zrU zbd zu zy (zC (by kernel_rfl)) fun avs rs hb h=>by
 unfold zqz at h;split at h
 ·obtain ⟨hc,rfl⟩:=zl h;exact (fin2 zNg zRw hc hb :)
 ·cases h
theorem zgb (l:List Slot):∀n,0<=n->n<=1048576->zbK l n<=n/\(0<=zbK l n->CVB sm (.s .slot l)):=fun n h0 h1=>⟨(zhr l n h0 h1).1,fun h=>zsR (by rfl) ((zhr l n h0 h1).2 h)⟩
def zrB (_:List Ins)(n:Int):Bool:=pc (0<=n/\n<=1048576)
def zdW (l:List Ins)(n:Int):Int:=szL l n
def ztV:List AV->Option (Bool×List AV)
 | [.one (.s .ins b),.one (.i .i64 c)]=>some ((zrB b c),[.one (.i .i64 (zdW b c))])
 | _=>none
def zyx (N:Nat)(a0:List Ins)(a1:Int):Option Ans :=
 (cond (ilt (wsub .i64 a1 (ln a0)) 0) (some [(.one (.i .i64 (-1)))]) (some [(.one (.i .i64 (wsub .i64 a1 (ln a0))))]))
theorem zTY (N:Nat)(a0:List Ins)(a1:Int):evalFn (cQ zEr zbV zK zO) (zB []) N 12 192 [.one (.s .ins a0),.one (.i .i64 a1)]=zyx N a0 a1:=by kernel_rfl
theorem zQt (a0:List Ins)(a1:Int)(hb:zG big [.one (.s .ins a0),.one (.i .i64 a1)])(hc:(zrB a0 a1)=true):∃N,zyx N a0 a1=some [.one (.i .i64 (zdW a0 a1))]:=by
 obtain ⟨h0,h1⟩:=zJ.1 hc;have hl:=((zbu hb).1 _ (List.mem_singleton.2 rfl)).len;refine ⟨0,?_⟩;simp only [zyx,znn hl h0 h1,zdW,szL,ilt]
 by_cases h:a1-a0.length<0<;>simp [h]
theorem zJN:Holds Tryz.prog 192 ztV:=zo zrU zbd zu zy (zC (by kernel_rfl)) fun avs rs hb h=>by
 unfold ztV at h;split at h
 ·obtain ⟨hc,rfl⟩:=zl h;exact (fin2 zQt zTY hc hb :)
 ·cases h
theorem zHz (l:List Ins):∀n,0<=n->n<=1048576->zdW l n<=n/\(0<=zdW l n->CVB sm (.s .ins l)):=fun n h0 h1=>⟨(zhr l n h0 h1).1,fun h=>zsR (by rfl) ((zhr l n h0 h1).2 h)⟩
def zhI (_:List Entry)(n:Int):Bool:=pc (0<=n/\n<=1048576)
def zcT (l:List Entry)(n:Int):Int:=szL l n
def zod:List AV->Option (Bool×List AV)
 | [.one (.s .entry b),.one (.i .i64 c)]=>some ((zhI b c),[.one (.i .i64 (zcT b c))])
 | _=>none
def zsv (N:Nat)(a0:List Entry)(a1:Int):Option Ans :=
 (cond (ilt (wsub .i64 a1 (ln a0)) 0) (some [(.one (.i .i64 (-1)))]) (some [(.one (.i .i64 (wsub .i64 a1 (ln a0))))]))
theorem zN4 (N:Nat)(a0:List Entry)(a1:Int):evalFn (cQ zEr zbV zK zO) (zB []) N 12 16 [.one (.s .entry a0),.one (.i .i64 a1)]=zsv N a0 a1:=by kernel_rfl
theorem zKP (a0:List Entry)(a1:Int)(hb:zG big [.one (.s .entry a0),.one (.i .i64 a1)])(hc:(zhI a0 a1)=true):∃N,zsv N a0 a1=some [.one (.i .i64 (zcT a0 a1))]:=by
 obtain ⟨h0,h1⟩:=zJ.1 hc;have hl:=((zbu hb).1 _ (List.mem_singleton.2 rfl)).len;refine ⟨0,?_⟩;simp only [zsv,znn hl h0 h1,zcT,szL,ilt]
 by_cases h:a1-a0.length<0<;>simp [h]
theorem zE8:Holds Tryz.prog 16 zod:=zo zrU zbd zu zy (zC (by kernel_rfl)) fun avs rs hb h=>by
 unfold zod at h;split at h
 ·obtain ⟨hc,rfl⟩:=zl h;exact (fin2 zKP zN4 hc hb :)
 ·cases h
theorem zmw (l:List Entry):∀n,0<=n->n<=1048576->zcT l n<=n/\(0<=zcT l n->CVB sm (.s .entry l)):=fun n h0 h1=>⟨(zhr l n h0 h1).1,fun h=>zsR (by rfl) ((zhr l n h0 h1).2 h)⟩
def zPg:zbQ:=[(35,ztW),(82,zqv),(81,zqz),(192,ztV),(16,zod)]++zEr
theorem zCl:zbw zPg:=zn zJO (zn zG1 (zn zG5 (zn zJN (zn zE8 zrU))))
theorem zHA:SzP (fun x=>∀c∈Ty.cells (.sl .int) x,CVB sm c) zcI:=by
 intro x n h0 h1;obtain ⟨a,b⟩:=zmy x n h0 h1;exact ⟨a,fun h c hc=>by rw [List.mem_singleton.1 hc];exact b h⟩
def ziK (_:List (List Int))(n:Int):Bool:=pc (0<=n/\n<=1048576)
def zcb (l:List (List Int))(n:Int):Int:=zoA zcI l n
def zqx:List AV->Option (Bool×List AV)
 | [.one (.s (.sl .int) b),.one (.i .i64 c)]=>some ((ziK b c),[.one (.i .i64 (zcb b c))])
 | _=>none
def zv7 (N:Nat)(a0:List (List Int))(a1:Int):Option Ans :=
 (cond (ilt (wsub .i64 a1 (ln a0)) 0) (some [(.one (.i .i64 (-1)))]) (iter (σ:=(Int×(Int×((List (List Int))×Unit)))) N (fun r3 s4=>(cond (ilt s4.2.1 (ln s4.2.2.1)) (cond (inb s4.2.1 (ln s4.2.2.1)) (cond (zg6 (ix s4.2.2.1 s4.2.1 []) s4.1) (cond (ilt (zcI (ix s4.2.2.1 s4.2.1 []) s4.1) 0) (some [(.one (.i .i64 (-1)))]) (r3 ((zcI (ix s4.2.2.1 s4.2.1 []) s4.1),((zq .i64 s4.2.1 1),(s4.2.2.1,()))))) none) none) (some [(.one (.i .i64 s4.1))]))) ((wsub .i64 a1 (ln a0)),(0,(a0,())))))
def zOq:FuncId->Nat->Option Tmpl:=zB [(14,0,{ n:=27,tm:=[(0,.sl 0 []),(1,.i .i64),(5,.i .i64)],lo:=[],ro:=[(0,(.sl .int),false)] })]
theorem zRu (N:Nat)(a0:List (List Int))(a1:Int):evalFn (cQ zPg zbV zK zO) zOq N 12 14 [.one (.s (.sl .int) a0),.one (.i .i64 a1)]=zv7 N a0 a1:=by kernel_rfl
theorem zoU (l:List (List Int)):∀n,0<=n->n<=1048576->zcb l n<=n/\(0<=zcb l n->CVB sm (.s (.sl .int) l)):=fun n h0 h1=>by
 obtain ⟨a,b⟩:=zAj (S:=fun x=>∀c∈Ty.cells (.sl .int) x,CVB sm c) (f:=zcI) zHA l n h0 h1;exact ⟨a,fun h=>.s (.sl .int) l (b h).1 (b h).2⟩
theorem zNe (a0:List (List Int))(a1:Int)(hb:zG big [.one (.s (.sl .int) a0),.one (.i .i64 a1)])(hc:(ziK a0 a1)=true):∃N,zv7 N a0 a1=some [.one (.i .i64 (zcb a0 a1))]:=by
 obtain ⟨h0,h1⟩:=zJ.1 hc;have hl:=((zbu hb).1 _ (List.mem_singleton.2 rfl)).len;refine ⟨a0.length+1,?_⟩;simp only [zv7,znn hl h0 h1,zcb,zoA,thn,zc7]
 by_cases h:a1-a0.length<0
 ·simp [h]
 ·simp only [h,decide_false,cF,if_false];exact zCP a0 _ zg6 zcI zHA (fun x n h0 h1=>zU ⟨h0,h1⟩) hl _ (by omega) (by omega) (Nat.lt_succ_self _)
theorem zG3:Holds Tryz.prog 14 zqx:=zo zCl zbd zu zy (zC (by kernel_rfl)) fun avs rs hb h=>by
 unfold zqx at h;split at h
 ·obtain ⟨hc,rfl⟩:=zl h;exact (fin2 zNe zRu hc hb :)
 ·cases h
def zoT (_:Guest)(n:Int):Bool:=pc (0<=n/\n<=1048576)
def zga (x:Guest)(n:Int):Int:=(fun n=>thn (zdW x.Prog n) (fun n=>thn (zbK x.Written n) (fun n=>thn (zbK x.Live n) (fun n=>thn (zcI x.Seen n) (fun n=>n))))) n
def zqw:List AV->Option (Bool×List AV)
 | [.agg [.s .ins c,.i .i64 d,.i .i64 e,.s .slot f,.s .slot g,.i .i64 h,.i .i64 j,.b k,.i .i64 l,.i .i64 m,.i .i64 n,.b o,.i .i64 p,.b q,.s .int r],.one (.i .i64 t)]=>some ((zoT (⟨c,d,e,f,g,⟨h,j,k⟩,l,⟨m,n,o,p⟩,q,r⟩:Guest) t),[.one (.i .i64 (zga (⟨c,d,e,f,g,⟨h,j,k⟩,l,⟨m,n,o,p⟩,q,r⟩:Guest) t))])
 | _=>none
def zv6 (N:Nat)(a0:Guest)(a1:Int):Option Ans :=
 (cond (zrB a0.Prog a1) (cond (ilt (zdW a0.Prog a1) 0) (some [(.one (.i .i64 (-1)))]) (cond (zeH a0.Written (zdW a0.Prog a1)) (cond (ilt (zbK a0.Written (zdW a0.Prog a1)) 0) (some [(.one (.i .i64 (-1)))]) (cond (zeH a0.Live (zbK a0.Written (zdW a0.Prog a1))) (cond (ilt (zbK a0.Live (zbK a0.Written (zdW a0.Prog a1))) 0) (some [(.one (.i .i64 (-1)))]) (cond (zg6 a0.Seen (zbK a0.Live (zbK a0.Written (zdW a0.Prog a1)))) (cond (ilt (zcI a0.Seen (zbK a0.Live (zbK a0.Written (zdW a0.Prog a1)))) 0) (some [(.one (.i .i64 (-1)))]) (some [(.one (.i .i64 (zcI a0.Seen (zbK a0.Live (zbK a0.Written (zdW a0.Prog a1))))))])) none)) none)) none)) none)
theorem zRt (N:Nat)(a0:Guest)(a1:Int):evalFn (cQ zPg zbV zK zO) (zB []) N 12 149 [.agg (Ty.cells .guest a0),.one (.i .i64 a1)]=zv6 N a0 a1:=by kernel_rfl
theorem zDV:SzP (fun x=>∀c∈Ty.cells .guest x,CVB sm c) zga:=by
 intro x n h0 h1;obtain ⟨a,b⟩:=zeE (zHz x.Prog) (zeE (zgb x.Written) (zeE (zgb x.Live) (zeE (zmy x.Seen) (fun n _ _=>⟨Int.le_refl _,fun _=>trivial⟩)))) n h0 h1;refine ⟨a,fun h c hc=>?_⟩;obtain ⟨g0,g1,g2,g3,_⟩:=b h;simp only [Ty.cells,List.mem_cons,List.not_mem_nil,or_false] at hc;rcases hc with rfl|rfl|rfl|rfl|rfl|rfl|rfl|rfl|rfl|rfl|rfl|rfl|rfl|rfl|rfl
 ·exact g0
 ·first|exact .i _ _|exact .b _
 ·first|exact .i _ _|exact .b _
 ·exact g1
 ·exact g2
 ·first|exact .i _ _|exact .b _
 ·first|exact .i _ _|exact .b _
 ·first|exact .i _ _|exact .b _
 ·first|exact .i _ _|exact .b _
 ·first|exact .i _ _|exact .b _
 ·first|exact .i _ _|exact .b _
 ·first|exact .i _ _|exact .b _
 ·first|exact .i _ _|exact .b _
 ·first|exact .i _ _|exact .b _
 ·exact g3
theorem zNd (a0:Guest)(a1:Int)(hb:zG big [.agg (Ty.cells .guest a0),.one (.i .i64 a1)])(hc:(zoT a0 a1)=true):∃N,zv6 N a0 a1=some [.one (.i .i64 (zga a0 a1))]:=by
 obtain ⟨h0,h1⟩:=zJ.1 hc;refine ⟨0,?_⟩;unfold zv6 zga;simp only [thn];have c0:zrB a0.Prog a1=true:=zU ⟨by omega,by omega⟩
 have p0:=(zHz a0.Prog a1 (by omega) (by omega)).1
 rw [c0,cT];generalize zdW a0.Prog a1=n0 at *;rw [zc7]
 by_cases k0:n0<0
 ·simp [k0]
 simp only [k0,decide_false,cF,if_false];have c1:zeH a0.Written n0=true:=zU ⟨by omega,by omega⟩
 have p1:=(zgb a0.Written n0 (by omega) (by omega)).1
 rw [c1,cT];generalize zbK a0.Written n0=n1 at *;rw [zc7]
 by_cases k1:n1<0
 ·simp [k1]
 simp only [k1,decide_false,cF,if_false];have c2:zeH a0.Live n1=true:=zU ⟨by omega,by omega⟩
 have p2:=(zgb a0.Live n1 (by omega) (by omega)).1
 rw [c2,cT];generalize zbK a0.Live n1=n2 at *;rw [zc7]
 by_cases k2:n2<0
 ·simp [k2]
 simp only [k2,decide_false,cF,if_false];have c3:zg6 a0.Seen n2=true:=zU ⟨by omega,by omega⟩
 have p3:=(zmy a0.Seen n2 (by omega) (by omega)).1
 rw [c3,cT];generalize zcI a0.Seen n2=n3 at *;rw [zc7]
 by_cases k3:n3<0
 ·simp [k3]
 simp only [k3,decide_false,cF,if_false]
theorem zG2:Holds Tryz.prog 149 zqw:=zo zCl zbd zu zy (zC (by kernel_rfl)) fun avs rs hb h=>by
 unfold zqw at h;split at h
 ·obtain ⟨hc,rfl⟩:=zl h;exact (fin2 zNd zRt hc hb :)
 ·cases h
def zrC (_:Kept)(n:Int):Bool:=pc (0<=n/\n<=1048576)
def zhl (x:Kept)(n:Int):Int:=(fun n=>thn (zcx x.Known n) (fun n=>thn (zbK x.Slots n) (fun n=>n))) n
def ztX:List AV->Option (Bool×List AV)
 | [.agg [.s .bool b,.s .slot c],.one (.i .i64 d)]=>some ((zrC (⟨b,c⟩:Kept) d),[.one (.i .i64 (zhl (⟨b,c⟩:Kept) d))])
 | _=>none
def zyz (N:Nat)(a0:Kept)(a1:Int):Option Ans :=
 (cond (ziJ a0.Known a1) (cond (ilt (zcx a0.Known a1) 0) (some [(.one (.i .i64 (-1)))]) (cond (zeH a0.Slots (zcx a0.Known a1)) (cond (ilt (zbK a0.Slots (zcx a0.Known a1)) 0) (some [(.one (.i .i64 (-1)))]) (some [(.one (.i .i64 (zbK a0.Slots (zcx a0.Known a1))))])) none)) none)
theorem zT0 (N:Nat)(a0:Kept)(a1:Int):evalFn (cQ zPg zbV zK zO) (zB []) N 12 150 [.agg (Ty.cells .kept a0),.one (.i .i64 a1)]=zyz N a0 a1:=by kernel_rfl
theorem zHB:SzP (fun x=>∀c∈Ty.cells .kept x,CVB sm c) zhl:=by
 intro x n h0 h1;obtain ⟨a,b⟩:=zeE (zoS x.Known) (zeE (zgb x.Slots) (fun n _ _=>⟨Int.le_refl _,fun _=>trivial⟩)) n h0 h1;refine ⟨a,fun h c hc=>?_⟩;obtain ⟨g0,g1,_⟩:=b h;simp only [Ty.cells,List.mem_cons,List.not_mem_nil,or_false] at hc;rcases hc with rfl|rfl
 ·exact g0
 ·exact g1
theorem zQv (a0:Kept)(a1:Int)(hb:zG big [.agg (Ty.cells .kept a0),.one (.i .i64 a1)])(hc:(zrC a0 a1)=true):∃N,zyz N a0 a1=some [.one (.i .i64 (zhl a0 a1))]:=by
 obtain ⟨h0,h1⟩:=zJ.1 hc;refine ⟨0,?_⟩;unfold zyz zhl;simp only [thn];have c0:ziJ a0.Known a1=true:=zU ⟨by omega,by omega⟩
 have p0:=(zoS a0.Known a1 (by omega) (by omega)).1
 rw [c0,cT];generalize zcx a0.Known a1=n0 at *;rw [zc7]
 by_cases k0:n0<0
 ·simp [k0]
 simp only [k0,decide_false,cF,if_false];have c1:zeH a0.Slots n0=true:=zU ⟨by omega,by omega⟩
 have p1:=(zgb a0.Slots n0 (by omega) (by omega)).1
 rw [c1,cT];generalize zbK a0.Slots n0=n1 at *;rw [zc7]
 by_cases k1:n1<0
 ·simp [k1]
 simp only [k1,decide_false,cF,if_false]
theorem zJP:Holds Tryz.prog 150 ztX:=zo zCl zbd zu zy (zC (by kernel_rfl)) fun avs rs hb h=>by
 unfold ztX at h;split at h
 ·obtain ⟨hc,rfl⟩:=zl h;exact (fin2 zQv zT0 hc hb :)
 ·cases h
def zVW:zbQ:=[(14,zqx),(149,zqw),(150,ztX)]++zPg
theorem zI2:zbw zVW:=zn zG3 (zn zG2 (zn zJP zCl))
def zmx (_:List Guest)(n:Int):Bool:=pc (0<=n/\n<=1048576)
def zdA (l:List Guest)(n:Int):Int:=zoA zga l n
def zoe:List AV->Option (Bool×List AV)
 | [.one (.s .guest b),.one (.i .i64 c)]=>some ((zmx b c),[.one (.i .i64 (zdA b c))])
 | _=>none
def zsw (N:Nat)(a0:List Guest)(a1:Int):Option Ans :=
 (cond (ilt (wsub .i64 a1 (ln a0)) 0) (some [(.one (.i .i64 (-1)))]) (iter (σ:=(Int×(Int×((List Guest)×Unit)))) N (fun r3 s4=>(cond (ilt s4.2.1 (ln s4.2.2.1)) (cond (inb s4.2.1 (ln s4.2.2.1)) (cond (zoT (ix s4.2.2.1 s4.2.1 zi) s4.1) (cond (ilt (zga (ix s4.2.2.1 s4.2.1 zi) s4.1) 0) (some [(.one (.i .i64 (-1)))]) (r3 ((zga (ix s4.2.2.1 s4.2.1 zi) s4.1),((zq .i64 s4.2.1 1),(s4.2.2.1,()))))) none) none) (some [(.one (.i .i64 s4.1))]))) ((wsub .i64 a1 (ln a0)),(0,(a0,())))))
def zLN:FuncId->Nat->Option Tmpl:=zB [(83,0,{ n:=27,tm:=[(0,.sl 0 []),(1,.i .i64),(5,.i .i64)],lo:=[],ro:=[(0,.guest,false)] })]
theorem zN5 (N:Nat)(a0:List Guest)(a1:Int):evalFn (cQ zVW zbV zK zO) zLN N 12 83 [.one (.s .guest a0),.one (.i .i64 a1)]=zsw N a0 a1:=by kernel_rfl
theorem zBJ (l:List Guest):∀n,0<=n->n<=1048576->zdA l n<=n/\(0<=zdA l n->CVB sm (.s .guest l)):=fun n h0 h1=>by
 obtain ⟨a,b⟩:=zAj (S:=fun x=>∀c∈Ty.cells .guest x,CVB sm c) (f:=zga) zDV l n h0 h1;exact ⟨a,fun h=>.s .guest l (b h).1 (b h).2⟩
theorem zKQ (a0:List Guest)(a1:Int)(hb:zG big [.one (.s .guest a0),.one (.i .i64 a1)])(hc:(zmx a0 a1)=true):∃N,zsw N a0 a1=some [.one (.i .i64 (zdA a0 a1))]:=by
 obtain ⟨h0,h1⟩:=zJ.1 hc;have hl:=((zbu hb).1 _ (List.mem_singleton.2 rfl)).len;refine ⟨a0.length+1,?_⟩;simp only [zsw,znn hl h0 h1,zdA,zoA,thn,zc7]
 by_cases h:a1-a0.length<0
 ·simp [h]
 ·simp only [h,decide_false,cF,if_false];exact zCP a0 _ zoT zga zDV (fun x n h0 h1=>zU ⟨h0,h1⟩) hl _ (by omega) (by omega) (Nat.lt_succ_self _)
theorem zE9:Holds Tryz.prog 83 zoe:=zo zI2 zbd zu zy (zC (by kernel_rfl)) fun avs rs hb h=>by
 unfold zoe at h;split at h
 ·obtain ⟨hc,rfl⟩:=zl h;exact (fin2 zKQ zN5 hc hb :)
 ·cases h
def zoV (_:List Kept)(n:Int):Bool:=pc (0<=n/\n<=1048576)
def zfB (l:List Kept)(n:Int):Int:=zoA zhl l n
def zqy:List AV->Option (Bool×List AV)
 | [.one (.s .kept b),.one (.i .i64 c)]=>some ((zoV b c),[.one (.i .i64 (zfB b c))])
 | _=>none
def zv8 (N:Nat)(a0:List Kept)(a1:Int):Option Ans :=
 (cond (ilt (wsub .i64 a1 (ln a0)) 0) (some [(.one (.i .i64 (-1)))]) (iter (σ:=(Int×(Int×((List Kept)×Unit)))) N (fun r3 s4=>(cond (ilt s4.2.1 (ln s4.2.2.1)) (cond (inb s4.2.1 (ln s4.2.2.1)) (cond (zrC (ix s4.2.2.1 s4.2.1 zbD) s4.1) (cond (ilt (zhl (ix s4.2.2.1 s4.2.1 zbD) s4.1) 0) (some [(.one (.i .i64 (-1)))]) (r3 ((zhl (ix s4.2.2.1 s4.2.1 zbD) s4.1),((zq .i64 s4.2.1 1),(s4.2.2.1,()))))) none) none) (some [(.one (.i .i64 s4.1))]))) ((wsub .i64 a1 (ln a0)),(0,(a0,())))))
def zOr:FuncId->Nat->Option Tmpl:=zB [(84,0,{ n:=27,tm:=[(0,.sl 0 []),(1,.i .i64),(5,.i .i64)],lo:=[],ro:=[(0,.kept,false)] })]
theorem zRv (N:Nat)(a0:List Kept)(a1:Int):evalFn (cQ zVW zbV zK zO) zOr N 12 84 [.one (.s .kept a0),.one (.i .i64 a1)]=zv8 N a0 a1:=by kernel_rfl
theorem zDW (l:List Kept):∀n,0<=n->n<=1048576->zfB l n<=n/\(0<=zfB l n->CVB sm (.s .kept l)):=fun n h0 h1=>by
 obtain ⟨a,b⟩:=zAj (S:=fun x=>∀c∈Ty.cells .kept x,CVB sm c) (f:=zhl) zHB l n h0 h1;exact ⟨a,fun h=>.s .kept l (b h).1 (b h).2⟩
theorem zNf (a0:List Kept)(a1:Int)(hb:zG big [.one (.s .kept a0),.one (.i .i64 a1)])(hc:(zoV a0 a1)=true):∃N,zv8 N a0 a1=some [.one (.i .i64 (zfB a0 a1))]:=by
 obtain ⟨h0,h1⟩:=zJ.1 hc;have hl:=((zbu hb).1 _ (List.mem_singleton.2 rfl)).len;refine ⟨a0.length+1,?_⟩;simp only [zv8,znn hl h0 h1,zfB,zoA,thn,zc7]
 by_cases h:a1-a0.length<0
 ·simp [h]
 ·simp only [h,decide_false,cF,if_false];exact zCP a0 _ zrC zhl zHB (fun x n h0 h1=>zU ⟨h0,h1⟩) hl _ (by omega) (by omega) (Nat.lt_succ_self _)
theorem zG4:Holds Tryz.prog 84 zqy:=zo zI2 zbd zu zy (zC (by kernel_rfl)) fun avs rs hb h=>by
 unfold zqy at h;split at h
 ·obtain ⟨hc,rfl⟩:=zl h;exact (fin2 zNf zRv hc hb :)
 ·cases h
def zYX:zbQ:=[(83,zoe),(84,zqy)]++zVW
theorem zUS:zbw zYX:=zn zE9 (zn zG4 zI2)
def zu5 (_:Mon)(n:Int):Bool:=pc (0<=n/\n<=1048576)
def ziL (x:Mon)(n:Int):Int:=(fun n=>thn (zbK x.Outer n) (fun n=>thn (zcb x.Out n) (fun n=>thn (zcx x.Dirty n) (fun n=>thn (zdA x.Guests n) (fun n=>thn (zcI x.Outs n) (fun n=>thn (zfB x.Tables n) (fun n=>n))))))) n
def zwW:List AV->Option (Bool×List AV)
 | [.agg [.s .slot b,.s (.sl .int) c,.s .bool d,.s .guest e,.s .int f,.i .i64 g,.i .i64 h,.s .kept j,.i .i64 k],.one (.i .i64 l)]=>some ((zu5 (⟨b,c,d,e,f,g,h,j,k⟩:Mon) l),[.one (.i .i64 (ziL (⟨b,c,d,e,f,g,h,j,k⟩:Mon) l))])
 | _=>none
def zA1 (N:Nat)(a0:Mon)(a1:Int):Option Ans :=
 (cond (zeH a0.Outer a1) (cond (ilt (zbK a0.Outer a1) 0) (some [(.one (.i .i64 (-1)))]) (cond (ziK a0.Out (zbK a0.Outer a1)) (cond (ilt (zcb a0.Out (zbK a0.Outer a1)) 0) (some [(.one (.i .i64 (-1)))]) (cond (ziJ a0.Dirty (zcb a0.Out (zbK a0.Outer a1))) (cond (ilt (zcx a0.Dirty (zcb a0.Out (zbK a0.Outer a1))) 0) (some [(.one (.i .i64 (-1)))]) (cond (zmx a0.Guests (zcx a0.Dirty (zcb a0.Out (zbK a0.Outer a1)))) (cond (ilt (zdA a0.Guests (zcx a0.Dirty (zcb a0.Out (zbK a0.Outer a1)))) 0) (some [(.one (.i .i64 (-1)))]) (cond (zg6 a0.Outs (zdA a0.Guests (zcx a0.Dirty (zcb a0.Out (zbK a0.Outer a1))))) (cond (ilt (zcI a0.Outs (zdA a0.Guests (zcx a0.Dirty (zcb a0.Out (zbK a0.Outer a1))))) 0) (some [(.one (.i .i64 (-1)))]) (cond (zoV a0.Tables (zcI a0.Outs (zdA a0.Guests (zcx a0.Dirty (zcb a0.Out (zbK a0.Outer a1)))))) (cond (ilt (zfB a0.Tables (zcI a0.Outs (zdA a0.Guests (zcx a0.Dirty (zcb a0.Out (zbK a0.Outer a1)))))) 0) (some [(.one (.i .i64 (-1)))]) (some [(.one (.i .i64 (zfB a0.Tables (zcI a0.Outs (zdA a0.Guests (zcx a0.Dirty (zcb a0.Out (zbK a0.Outer a1))))))))])) none)) none)) none)) none)) none)) none)
theorem zWX (N:Nat)(a0:Mon)(a1:Int):evalFn (cQ zYX zbV zK zO) (zB []) N 12 36 [.agg (Ty.cells .mon a0),.one (.i .i64 a1)]=zA1 N a0 a1:=by kernel_rfl
theorem zL7:SzP (fun x=>∀c∈Ty.cells .mon x,CVB sm c) ziL:=by
 intro x n h0 h1;obtain ⟨a,b⟩:=zeE (zgb x.Outer) (zeE (zoU x.Out) (zeE (zoS x.Dirty) (zeE (zBJ x.Guests) (zeE (zmy x.Outs) (zeE (zDW x.Tables) (fun n _ _=>⟨Int.le_refl _,fun _=>trivial⟩)))))) n h0 h1;refine ⟨a,fun h c hc=>?_⟩;obtain ⟨g0,g1,g2,g3,g4,g5,_⟩:=b h;simp only [Ty.cells,List.mem_cons,List.not_mem_nil,or_false] at hc;rcases hc with rfl|rfl|rfl|rfl|rfl|rfl|rfl|rfl|rfl
 ·exact g0
 ·exact g1
 ·exact g2
 ·exact g3
 ·exact g4
 ·first|exact .i _ _|exact .b _
 ·first|exact .i _ _|exact .b _
 ·exact g5
 ·first|exact .i _ _|exact .b _
theorem zTa (a0:Mon)(a1:Int)(hb:zG big [.agg (Ty.cells .mon a0),.one (.i .i64 a1)])(hc:(zu5 a0 a1)=true):∃N,zA1 N a0 a1=some [.one (.i .i64 (ziL a0 a1))]:=by
 obtain ⟨h0,h1⟩:=zJ.1 hc;refine ⟨0,?_⟩;unfold zA1 ziL;simp only [thn];have c0:zeH a0.Outer a1=true:=zU ⟨by omega,by omega⟩
 have p0:=(zgb a0.Outer a1 (by omega) (by omega)).1
 rw [c0,cT];generalize zbK a0.Outer a1=n0 at *;rw [zc7]
 by_cases k0:n0<0
 ·simp [k0]
 simp only [k0,decide_false,cF,if_false];have c1:ziK a0.Out n0=true:=zU ⟨by omega,by omega⟩
 have p1:=(zoU a0.Out n0 (by omega) (by omega)).1
 rw [c1,cT];generalize zcb a0.Out n0=n1 at *;rw [zc7]
 by_cases k1:n1<0
 ·simp [k1]
 simp only [k1,decide_false,cF,if_false];have c2:ziJ a0.Dirty n1=true:=zU ⟨by omega,by omega⟩
 have p2:=(zoS a0.Dirty n1 (by omega) (by omega)).1
 rw [c2,cT];generalize zcx a0.Dirty n1=n2 at *;rw [zc7]
 by_cases k2:n2<0
 ·simp [k2]
 simp only [k2,decide_false,cF,if_false];have c3:zmx a0.Guests n2=true:=zU ⟨by omega,by omega⟩
 have p3:=(zBJ a0.Guests n2 (by omega) (by omega)).1
 rw [c3,cT];generalize zdA a0.Guests n2=n3 at *;rw [zc7]
 by_cases k3:n3<0
 ·simp [k3]
 simp only [k3,decide_false,cF,if_false];have c4:zg6 a0.Outs n3=true:=zU ⟨by omega,by omega⟩
 have p4:=(zmy a0.Outs n3 (by omega) (by omega)).1
 rw [c4,cT];generalize zcI a0.Outs n3=n4 at *;rw [zc7]
 by_cases k4:n4<0
 ·simp [k4]
 simp only [k4,decide_false,cF,if_false];have c5:zoV a0.Tables n4=true:=zU ⟨by omega,by omega⟩
 have p5:=(zDW a0.Tables n4 (by omega) (by omega)).1
 rw [c5,cT];generalize zfB a0.Tables n4=n5 at *;rw [zc7]
 by_cases k5:n5<0
 ·simp [k5]
 simp only [k5,decide_false,cF,if_false]
theorem zMD:Holds Tryz.prog 36 zwW:=zo zUS zbd zu zy (zC (by kernel_rfl)) fun avs rs hb h=>by
 unfold zwW at h;split at h
 ·obtain ⟨hc,rfl⟩:=zl h;exact (fin2 zTa zWX hc hb :)
 ·cases h
def zYY:zbQ:=[(36,zwW)]++zYX
theorem zUT:zbw zYY:=zn zMD zUS
def zrD (_:List Mon)(n:Int):Bool:=pc (0<=n/\n<=1048576)
def zey (l:List Mon)(n:Int):Int:=zoA ziL l n
def ztY:List AV->Option (Bool×List AV)
 | [.one (.s .mon b),.one (.i .i64 c)]=>some ((zrD b c),[.one (.i .i64 (zey b c))])
 | _=>none
def zyA (N:Nat)(a0:List Mon)(a1:Int):Option Ans :=
 (cond (ilt (wsub .i64 a1 (ln a0)) 0) (some [(.one (.i .i64 (-1)))]) (iter (σ:=(Int×(Int×((List Mon)×Unit)))) N (fun r3 s4=>(cond (ilt s4.2.1 (ln s4.2.2.1)) (cond (inb s4.2.1 (ln s4.2.2.1)) (cond (zu5 (ix s4.2.2.1 s4.2.1 zf) s4.1) (cond (ilt (ziL (ix s4.2.2.1 s4.2.1 zf) s4.1) 0) (some [(.one (.i .i64 (-1)))]) (r3 ((ziL (ix s4.2.2.1 s4.2.1 zf) s4.1),((zq .i64 s4.2.1 1),(s4.2.2.1,()))))) none) none) (some [(.one (.i .i64 s4.1))]))) ((wsub .i64 a1 (ln a0)),(0,(a0,())))))
def zSn:FuncId->Nat->Option Tmpl:=zB [(15,0,{ n:=27,tm:=[(0,.sl 0 []),(1,.i .i64),(5,.i .i64)],lo:=[],ro:=[(0,.mon,false)] })]
theorem zT1 (N:Nat)(a0:List Mon)(a1:Int):evalFn (cQ zYY zbV zK zO) zSn N 12 15 [.one (.s .mon a0),.one (.i .i64 a1)]=zyA N a0 a1:=by kernel_rfl
theorem zHC (l:List Mon):∀n,0<=n->n<=1048576->zey l n<=n/\(0<=zey l n->CVB sm (.s .mon l)):=fun n h0 h1=>by
 obtain ⟨a,b⟩:=zAj (S:=fun x=>∀c∈Ty.cells .mon x,CVB sm c) (f:=ziL) zL7 l n h0 h1;exact ⟨a,fun h=>.s .mon l (b h).1 (b h).2⟩
theorem zQw (a0:List Mon)(a1:Int)(hb:zG big [.one (.s .mon a0),.one (.i .i64 a1)])(hc:(zrD a0 a1)=true):∃N,zyA N a0 a1=some [.one (.i .i64 (zey a0 a1))]:=by
 obtain ⟨h0,h1⟩:=zJ.1 hc;have hl:=((zbu hb).1 _ (List.mem_singleton.2 rfl)).len;refine ⟨a0.length+1,?_⟩;simp only [zyA,znn hl h0 h1,zey,zoA,thn,zc7]
 by_cases h:a1-a0.length<0
 ·simp [h]
 ·simp only [h,decide_false,cF,if_false];exact zCP a0 _ zu5 ziL zL7 (fun x n h0 h1=>zU ⟨h0,h1⟩) hl _ (by omega) (by omega) (Nat.lt_succ_self _)
theorem zJQ:Holds Tryz.prog 15 ztY:=zo zUT zbd zu zy (zC (by kernel_rfl)) fun avs rs hb h=>by
 unfold ztY at h;split at h
 ·obtain ⟨hc,rfl⟩:=zl h;exact (fin2 zQw zT1 hc hb :)
 ·cases h
def zYZ:zbQ:=[(15,ztY)]++zYY
theorem zUU:zbw zYZ:=zn zJQ zUT
def zrA (_:Host)(n:Int):Bool:=pc (0<=n/\n<=1048576)
def zfc (x:Host)(n:Int):Int:=(fun n=>thn (zcb x.Memory n) (fun n=>thn (zey x.Mons n) (fun n=>thn (zcT x.Buffer n) (fun n=>thn (zcT x.IoBuffer n) (fun n=>n))))) n
def ztU:List AV->Option (Bool×List AV)
 | [.agg [.s (.sl .int) b,.s .mon c,.s .entry d,.s .entry e],.one (.i .i64 f)]=>some ((zrA (⟨b,c,d,e⟩:Host) f),[.one (.i .i64 (zfc (⟨b,c,d,e⟩:Host) f))])
 | _=>none
def zyw (N:Nat)(a0:Host)(a1:Int):Option Ans :=
 (cond (ziK a0.Memory a1) (cond (ilt (zcb a0.Memory a1) 0) (some [(.one (.i .i64 (-1)))]) (cond (zrD a0.Mons (zcb a0.Memory a1)) (cond (ilt (zey a0.Mons (zcb a0.Memory a1)) 0) (some [(.one (.i .i64 (-1)))]) (cond (zhI a0.Buffer (zey a0.Mons (zcb a0.Memory a1))) (cond (ilt (zcT a0.Buffer (zey a0.Mons (zcb a0.Memory a1))) 0) (some [(.one (.i .i64 (-1)))]) (cond (zhI a0.IoBuffer (zcT a0.Buffer (zey a0.Mons (zcb a0.Memory a1)))) (cond (ilt (zcT a0.IoBuffer (zcT a0.Buffer (zey a0.Mons (zcb a0.Memory a1)))) 0) (some [(.one (.i .i64 (-1)))]) (some [(.one (.i .i64 (zcT a0.IoBuffer (zcT a0.Buffer (zey a0.Mons (zcb a0.Memory a1))))))])) none)) none)) none)) none)
theorem zTX (N:Nat)(a0:Host)(a1:Int):evalFn (cQ zYZ zbV zK zO) (zB []) N 12 5 [.agg (zA a0),.one (.i .i64 a1)]=zyw N a0 a1:=by kernel_rfl
theorem zWC:SzP (fun x=>∀c∈zA x,CVB sm c) zfc:=by
 intro x n h0 h1;obtain ⟨a,b⟩:=zeE (zoU x.Memory) (zeE (zHC x.Mons) (zeE (zmw x.Buffer) (zeE (zmw x.IoBuffer) (fun n _ _=>⟨Int.le_refl _,fun _=>trivial⟩)))) n h0 h1;refine ⟨a,fun h c hc=>?_⟩;obtain ⟨g0,g1,g2,g3,_⟩:=b h;simp only [zA,List.mem_cons,List.not_mem_nil,or_false] at hc;rcases hc with rfl|rfl|rfl|rfl
 ·exact g0
 ·exact g1
 ·exact g2
 ·exact g3
theorem zQs (a0:Host)(a1:Int)(hb:zG big [.agg (zA a0),.one (.i .i64 a1)])(hc:(zrA a0 a1)=true):∃N,zyw N a0 a1=some [.one (.i .i64 (zfc a0 a1))]:=by
 obtain ⟨h0,h1⟩:=zJ.1 hc;refine ⟨0,?_⟩;unfold zyw zfc;simp only [thn];have c0:ziK a0.Memory a1=true:=zU ⟨by omega,by omega⟩
 have p0:=(zoU a0.Memory a1 (by omega) (by omega)).1
 rw [c0,cT];generalize zcb a0.Memory a1=n0 at *;rw [zc7]
 by_cases k0:n0<0
 ·simp [k0]
 simp only [k0,decide_false,cF,if_false];have c1:zrD a0.Mons n0=true:=zU ⟨by omega,by omega⟩
 have p1:=(zHC a0.Mons n0 (by omega) (by omega)).1
 rw [c1,cT];generalize zey a0.Mons n0=n1 at *;rw [zc7]
 by_cases k1:n1<0
 ·simp [k1]
 simp only [k1,decide_false,cF,if_false];have c2:zhI a0.Buffer n1=true:=zU ⟨by omega,by omega⟩
 have p2:=(zmw a0.Buffer n1 (by omega) (by omega)).1
 rw [c2,cT];generalize zcT a0.Buffer n1=n2 at *;rw [zc7]
 by_cases k2:n2<0
 ·simp [k2]
 simp only [k2,decide_false,cF,if_false];have c3:zhI a0.IoBuffer n2=true:=zU ⟨by omega,by omega⟩
 have p3:=(zmw a0.IoBuffer n2 (by omega) (by omega)).1
 rw [c3,cT];generalize zcT a0.IoBuffer n2=n3 at *;rw [zc7]
 by_cases k3:n3<0
 ·simp [k3]
 simp only [k3,decide_false,cF,if_false]
theorem zJM:Holds Tryz.prog 5 ztU:=zo zUU zbd zu zy (zC (by kernel_rfl)) fun avs rs hb h=>by
 unfold ztU at h;split at h
 ·obtain ⟨hc,rfl⟩:=zl h;exact (fin2 zQs zTX hc hb :)
 ·cases h
def zzb:zbQ:=[(5,ztU)]++zYZ
theorem zls:zbw zzb:=zn zJM zUU
theorem zSA {α ρ:Type}(l:List α)(d:α)(K:List α->Option ρ)(hl:l.length<=big){N:Nat}(hN:l.length<N) :
 iter N (fun r (s:Int×List α×List α×Unit)=>(bif (ilt s.1 (ln s.2.1)) then (bif (inb s.1 (ln s.2.1)) then (bif (inb s.1 (ln s.2.2.1)) then
  (r ((zq .i64 s.1 1),(s.2.1,((up s.2.2.1 s.1 (ix s.2.1 s.1 d)),())))) else none) else none) else K s.2.2.1)) (0,(l,((rp (ln l) d),())))=K l :=
 zlL l d (fun _=>true) (fun x=>x) K hl (fun _ _=>⟨rfl,rfl⟩) hN
def zrJ (_:Slot):Bool:=true
def zzQ (x:Slot):Slot:=x
def zt5:List AV->Option (Bool×List AV)
 | [.agg [.i .i64 b,.i .i64 c]]=>some ((zrJ (⟨b,c⟩:Slot)),[.agg (Ty.cells .slot (zzQ (⟨b,c⟩:Slot)))])
 | _=>none
def zGd (N:Nat)(a0:Slot):Option Ans :=
 (some [(.agg [(.i .i64 a0.Page),(.i .i64 a0.Rights)])])
theorem zT8 (N:Nat)(a0:Slot):evalFn (cQ zzb zbV zK zO) (zB []) N 12 168 [.agg (Ty.cells .slot a0)]=zGd N a0:=by kernel_rfl
theorem zQD (a0:Slot)(hb:zG big [.agg (Ty.cells .slot a0)])(hc:(zrJ a0)=true):∃N,zGd N a0=some [.agg (Ty.cells .slot (zzQ a0))]:=by
 exact ⟨0,rfl⟩
theorem zJX:Holds Tryz.prog 168 zt5:=zo zls zbd zu zy (zC (by kernel_rfl)) fun avs rs hb h=>by
 unfold zt5 at h;split at h
 ·obtain ⟨hc,rfl⟩:=zl h;exact (fin1 zQD zT8 hc hb :)
 ·cases h
def zva (_:Ins):Bool:=true
def zCB (x:Ins):Ins:=x
def zwY:List AV->Option (Bool×List AV)
 | [.agg [.i .i64 b,.i .i64 c]]=>some ((zva (⟨b,c⟩:Ins)),[.agg (Ty.cells .ins (zCB (⟨b,c⟩:Ins)))])
 | _=>none
def zLT (N:Nat)(a0:Ins):Option Ans :=
 (some [(.agg [(.i .i64 a0.Op),(.i .i64 a0.X)])])
theorem zWZ (N:Nat)(a0:Ins):evalFn (cQ zzb zbV zK zO) (zB []) N 12 232 [.agg (Ty.cells .ins a0)]=zLT N a0:=by kernel_rfl
theorem zTc (a0:Ins)(hb:zG big [.agg (Ty.cells .ins a0)])(hc:(zva a0)=true):∃N,zLT N a0=some [.agg (Ty.cells .ins (zCB a0))]:=by
 exact ⟨0,rfl⟩
theorem zMF:Holds Tryz.prog 232 zwY:=zo zls zbd zu zy (zC (by kernel_rfl)) fun avs rs hb h=>by
 unfold zwY at h;split at h
 ·obtain ⟨hc,rfl⟩:=zl h;exact (fin1 zTc zWZ hc hb :)
 ·cases h
def zu7 (_:Ctl):Bool:=true
def zxE (x:Ctl):Ctl:=x
def zwX:List AV->Option (Bool×List AV)
 | [.agg [.i .i64 c,.i .i64 d,.b e]]=>some ((zu7 (⟨c,d,e⟩:Ctl)),[.agg (zkf (zxE (⟨c,d,e⟩:Ctl)))])
 | _=>none
def zLS (N:Nat)(a0:Ctl):Option Ans :=
 (some [(.agg [(.i .i64 a0.Traps),(.i .i64 a0.Post),(.b a0.Open)])])
theorem zWY (N:Nat)(a0:Ctl):evalFn (cQ zzb zbV zK zO) (zB []) N 12 206 [.agg (zkf a0)]=zLS N a0:=by kernel_rfl
theorem zTb (a0:Ctl)(hb:zG big [.agg (zkf a0)])(hc:(zu7 a0)=true):∃N,zLS N a0=some [.agg (zkf (zxE a0))]:=by
 exact ⟨0,rfl⟩
theorem zME:Holds Tryz.prog 206 zwX:=zo zls zbd zu zy (zC (by kernel_rfl)) fun avs rs hb h=>by
 unfold zwX at h;split at h
 ·obtain ⟨hc,rfl⟩:=zl h;exact (fin1 zTb zWY hc hb :)
 ·cases h
def zrF (_:GExit):Bool:=true
def znM (x:GExit):GExit:=x
def ztZ:List AV->Option (Bool×List AV)
 | [.agg [.i .i64 c,.i .i64 d,.b e,.i .i64 f]]=>some ((zrF (⟨c,d,e,f⟩:GExit)),[.agg (zdQ (znM (⟨c,d,e,f⟩:GExit)))])
 | _=>none
def zGc (N:Nat)(a0:GExit):Option Ans :=
 (some [(.agg [(.i .i64 a0.Kind),(.i .i64 a0.Page),(.b a0.Write),(.i .i64 a0.N)])])
theorem zT2 (N:Nat)(a0:GExit):evalFn (cQ zzb zbV zK zO) (zB []) N 12 207 [.agg (zdQ a0)]=zGc N a0:=by kernel_rfl
theorem zQx (a0:GExit)(hb:zG big [.agg (zdQ a0)])(hc:(zrF a0)=true):∃N,zGc N a0=some [.agg (zdQ (znM a0))]:=by
 exact ⟨0,rfl⟩
theorem zJR:Holds Tryz.prog 207 ztZ:=zo zls zbd zu zy (zC (by kernel_rfl)) fun avs rs hb h=>by
 unfold ztZ at h;split at h
 ·obtain ⟨hc,rfl⟩:=zl h;exact (fin1 zQx zT2 hc hb :)
 ·cases h
def zoW (_:Entry):Bool:=true
def zu8 (x:Entry):Entry:=x
def zqB:List AV->Option (Bool×List AV)
 | [.agg [.i .i64 b,.i .i64 c,.i .i64 d,.i .i64 e]]=>some ((zoW (⟨b,c,d,e⟩:Entry)),[.agg (Ty.cells .entry (zu8 (⟨b,c,d,e⟩:Entry)))])
 | _=>none
def zDJ (N:Nat)(a0:Entry):Option Ans :=
 (some [(.agg [(.i .i64 a0.Tag),(.i .i64 a0.Page),(.i .i64 a0.Host),(.i .i64 a0.Rights)])])
theorem zRy (N:Nat)(a0:Entry):evalFn (cQ zzb zbV zK zO) (zB []) N 12 47 [.agg (Ty.cells .entry a0)]=zDJ N a0:=by kernel_rfl
theorem zNi (a0:Entry)(hb:zG big [.agg (Ty.cells .entry a0)])(hc:(zoW a0)=true):∃N,zDJ N a0=some [.agg (Ty.cells .entry (zu8 a0))]:=by
 exact ⟨0,rfl⟩
theorem zG7:Holds Tryz.prog 47 zqB:=zo zls zbd zu zy (zC (by kernel_rfl)) fun avs rs hb h=>by
 unfold zqB at h;split at h
 ·obtain ⟨hc,rfl⟩:=zl h;exact (fin1 zNi zRy hc hb :)
 ·cases h
def zg7 (l:List Int):Bool:=pc (CVB sm (.s .int l))
def znN (l:List Int):List Int:=l
def zt2:List AV->Option (Bool×List AV)
 | [.one (.s .int b)]=>some ((zg7 b),[.one (.s .int (znN b))])
 | _=>none
def zyD (N:Nat)(a0:List Int):Option Ans :=
 (cond (cond (few (ln a0)) (ieq (ln a0) (ln a0)) false) (iter (σ:=(Int×((List Int)×((List Int)×Unit)))) N (fun r2 s3=>(cond (ilt s3.1 (ln s3.2.1)) (cond (inb s3.1 (ln s3.2.1)) (cond (inb s3.1 (ln s3.2.2.1)) (share (up s3.2.2.1 s3.1 (ix s3.2.1 s3.1 0)) (fun x4=>(r2 ((zq .i64 s3.1 1),(s3.2.1,(x4,())))))) none) none) (some [(.one (.s .int s3.2.2.1))]))) (0,(a0,((rp (ln a0) 0),())))) none)
def zSp:FuncId->Nat->Option Tmpl:=zB [(45,0,{ n:=22,tm:=[(0,.sl 0 []),(3,.sl 1 []),(4,.i .i64)],lo:=[],ro:=[(0,.int,false),(1,.int,true)] })]
theorem zT5 (N:Nat)(a0:List Int):evalFn (cQ zzb zbV zK zO) zSp N 12 45 [.one (.s .int a0)]=zyD N a0:=by kernel_rfl
theorem zQA (a0:List Int)(hb:zG big [.one (.s .int a0)])(hc:(zg7 a0)=true):∃N,zyD N a0=some [.one (.s .int (znN a0))]:=by
 have hl:=zcA (zJ.1 hc).len;refine ⟨a0.length+1,?_⟩;unfold zyD;rw [zeo hl.2,zfQ];exact zSA a0 _ (fun l=>some [AV.one (.s .int l)]) hl.1 (Nat.lt_succ_self _)
theorem zJU:Holds Tryz.prog 45 zt2:=zo zls zbd zu zy (zC (by kernel_rfl)) fun avs rs hb h=>by
 unfold zt2 at h;split at h
 ·obtain ⟨hc,rfl⟩:=zl h;exact (fin1 zQA zT5 hc hb :)
 ·cases h
def ziM (l:List Bool):Bool:=pc (CVB sm (.s .bool l))
def zu6 (l:List Bool):List Bool:=l
def zqA:List AV->Option (Bool×List AV)
 | [.one (.s .bool b)]=>some ((ziM b),[.one (.s .bool (zu6 b))])
 | _=>none
def zwa (N:Nat)(a0:List Bool):Option Ans :=
 (cond (cond (few (ln a0)) (ieq (ln a0) (ln a0)) false) (iter (σ:=(Int×((List Bool)×((List Bool)×Unit)))) N (fun r2 s3=>(cond (ilt s3.1 (ln s3.2.1)) (cond (inb s3.1 (ln s3.2.1)) (cond (inb s3.1 (ln s3.2.2.1)) (share (up s3.2.2.1 s3.1 (ix s3.2.1 s3.1 false)) (fun x4=>(r2 ((zq .i64 s3.1 1),(s3.2.1,(x4,())))))) none) none) (some [(.one (.s .bool s3.2.2.1))]))) (0,(a0,((rp (ln a0) false),())))) none)
def zOs:FuncId->Nat->Option Tmpl:=zB [(110,0,{ n:=22,tm:=[(0,.sl 0 []),(3,.sl 1 []),(4,.i .i64)],lo:=[],ro:=[(0,.bool,false),(1,.bool,true)] })]
theorem zRx (N:Nat)(a0:List Bool):evalFn (cQ zzb zbV zK zO) zOs N 12 110 [.one (.s .bool a0)]=zwa N a0:=by kernel_rfl
theorem zNh (a0:List Bool)(hb:zG big [.one (.s .bool a0)])(hc:(ziM a0)=true):∃N,zwa N a0=some [.one (.s .bool (zu6 a0))]:=by
 have hl:=zcA (zJ.1 hc).len;refine ⟨a0.length+1,?_⟩;unfold zwa;rw [zeo hl.2,zfQ];exact zSA a0 _ (fun l=>some [AV.one (.s .bool l)]) hl.1 (Nat.lt_succ_self _)
theorem zG6:Holds Tryz.prog 110 zqA:=zo zls zbd zu zy (zC (by kernel_rfl)) fun avs rs hb h=>by
 unfold zqA at h;split at h
 ·obtain ⟨hc,rfl⟩:=zl h;exact (fin1 zNh zRx hc hb :)
 ·cases h
def zI3:zbQ:=[(168,zt5),(232,zwY),(206,zwX),(207,ztZ),(47,zqB),(45,zt2),(110,zqA)]++zzb
theorem zxn:zbw zI3:=zn zJX (zn zMF (zn zME (zn zJR (zn zG7 (zn zJU (zn zG6 zls))))))
def zeI (l:List Slot):Bool:=pc (CVB sm (.s .slot l))
def zlB (l:List Slot):List Slot:=l
def zqF:List AV->Option (Bool×List AV)
 | [.one (.s .slot b)]=>some ((zeI b),[.one (.s .slot (zlB b))])
 | _=>none
def zwe (N:Nat)(a0:List Slot):Option Ans :=
 (cond (cond (few (ln a0)) (ieq (ln a0) (ln a0)) false) (iter (σ:=(Int×((List Slot)×((List Slot)×Unit)))) N (fun r2 s3=>(cond (ilt s3.1 (ln s3.2.1)) (cond (inb s3.1 (ln s3.2.1)) (cond (zrJ (ix s3.2.1 s3.1 zQ)) (cond (inb s3.1 (ln s3.2.2.1)) (share (up s3.2.2.1 s3.1 (zzQ (ix s3.2.1 s3.1 zQ))) (fun x4=>(r2 ((zq .i64 s3.1 1),(s3.2.1,(x4,())))))) none) none) none) (some [(.one (.s .slot s3.2.2.1))]))) (0,(a0,((rp (ln a0) zQ),())))) none)
def zOv:FuncId->Nat->Option Tmpl:=zB [(109,0,{ n:=23,tm:=[(0,.sl 0 []),(3,.sl 1 []),(4,.i .i64)],lo:=[],ro:=[(0,.slot,false),(1,.slot,true)] })]
theorem zRC (N:Nat)(a0:List Slot):evalFn (cQ zI3 zbV zK zO) zOv N 12 109 [.one (.s .slot a0)]=zwe N a0:=by kernel_rfl
theorem zNm (a0:List Slot)(hb:zG big [.one (.s .slot a0)])(hc:(zeI a0)=true):∃N,zwe N a0=some [.one (.s .slot (zlB a0))]:=by
 have hs:=zJ.1 hc;have hl:=zcA hs.len;refine ⟨a0.length+1,?_⟩;unfold zwe;rw [zeo hl.2,zfQ];exact zlL a0 _ zrJ zzQ (fun l=>some [AV.one (.s .slot l)]) hl.1 (fun x hx=>⟨by first|rfl|exact zU (hs.inv.2 x hx)|exact zU (hs.inv.2 x hx _ (List.mem_singleton.2 rfl)),rfl⟩) (Nat.lt_succ_self _)
theorem zHb:Holds Tryz.prog 109 zqF:=zo zxn zbd zu zy (zC (by kernel_rfl)) fun avs rs hb h=>by
 unfold zqF at h;split at h
 ·obtain ⟨hc,rfl⟩:=zl h;exact (fin1 zNm zRC hc hb :)
 ·cases h
def zrG (l:List Ins):Bool:=pc (CVB sm (.s .ins l))
def zFu (l:List Ins):List Ins:=l
def zt1:List AV->Option (Bool×List AV)
 | [.one (.s .ins b)]=>some ((zrG b),[.one (.s .ins (zFu b))])
 | _=>none
def zyC (N:Nat)(a0:List Ins):Option Ans :=
 (cond (cond (few (ln a0)) (ieq (ln a0) (ln a0)) false) (iter (σ:=(Int×((List Ins)×((List Ins)×Unit)))) N (fun r2 s3=>(cond (ilt s3.1 (ln s3.2.1)) (cond (inb s3.1 (ln s3.2.1)) (cond (zva (ix s3.2.1 s3.1 zfs)) (cond (inb s3.1 (ln s3.2.2.1)) (share (up s3.2.2.1 s3.1 (zCB (ix s3.2.1 s3.1 zfs))) (fun x4=>(r2 ((zq .i64 s3.1 1),(s3.2.1,(x4,())))))) none) none) none) (some [(.one (.s .ins s3.2.2.1))]))) (0,(a0,((rp (ln a0) zfs),())))) none)
def zSo:FuncId->Nat->Option Tmpl:=zB [(205,0,{ n:=23,tm:=[(0,.sl 0 []),(3,.sl 1 []),(4,.i .i64)],lo:=[],ro:=[(0,.ins,false),(1,.ins,true)] })]
theorem zT4 (N:Nat)(a0:List Ins):evalFn (cQ zI3 zbV zK zO) zSo N 12 205 [.one (.s .ins a0)]=zyC N a0:=by kernel_rfl
theorem zQz (a0:List Ins)(hb:zG big [.one (.s .ins a0)])(hc:(zrG a0)=true):∃N,zyC N a0=some [.one (.s .ins (zFu a0))]:=by
 have hs:=zJ.1 hc;have hl:=zcA hs.len;refine ⟨a0.length+1,?_⟩;unfold zyC;rw [zeo hl.2,zfQ];exact zlL a0 _ zva zCB (fun l=>some [AV.one (.s .ins l)]) hl.1 (fun x hx=>⟨by first|rfl|exact zU (hs.inv.2 x hx)|exact zU (hs.inv.2 x hx _ (List.mem_singleton.2 rfl)),rfl⟩) (Nat.lt_succ_self _)
theorem zJT:Holds Tryz.prog 205 zt1:=zo zxn zbd zu zy (zC (by kernel_rfl)) fun avs rs hb h=>by
 unfold zt1 at h;split at h
 ·obtain ⟨hc,rfl⟩:=zl h;exact (fin1 zQz zT4 hc hb :)
 ·cases h
def zhJ (l:List Entry):Bool:=pc (CVB sm (.s .entry l))
def zrE (l:List Entry):List Entry:=l
def zof:List AV->Option (Bool×List AV)
 | [.one (.s .entry b)]=>some ((zhJ b),[.one (.s .entry (zrE b))])
 | _=>none
def zsx (N:Nat)(a0:List Entry):Option Ans :=
 (cond (cond (few (ln a0)) (ieq (ln a0) (ln a0)) false) (iter (σ:=(Int×((List Entry)×((List Entry)×Unit)))) N (fun r2 s3=>(cond (ilt s3.1 (ln s3.2.1)) (cond (inb s3.1 (ln s3.2.1)) (cond (zoW (ix s3.2.1 s3.1 zbz)) (cond (inb s3.1 (ln s3.2.2.1)) (share (up s3.2.2.1 s3.1 (zu8 (ix s3.2.1 s3.1 zbz))) (fun x4=>(r2 ((zq .i64 s3.1 1),(s3.2.1,(x4,())))))) none) none) none) (some [(.one (.s .entry s3.2.2.1))]))) (0,(a0,((rp (ln a0) zbz),())))) none)
def zLO:FuncId->Nat->Option Tmpl:=zB [(21,0,{ n:=23,tm:=[(0,.sl 0 []),(3,.sl 1 []),(4,.i .i64)],lo:=[],ro:=[(0,.entry,false),(1,.entry,true)] })]
theorem zN6 (N:Nat)(a0:List Entry):evalFn (cQ zI3 zbV zK zO) zLO N 12 21 [.one (.s .entry a0)]=zsx N a0:=by kernel_rfl
theorem zKR (a0:List Entry)(hb:zG big [.one (.s .entry a0)])(hc:(zhJ a0)=true):∃N,zsx N a0=some [.one (.s .entry (zrE a0))]:=by
 have hs:=zJ.1 hc;have hl:=zcA hs.len;refine ⟨a0.length+1,?_⟩;unfold zsx;rw [zeo hl.2,zfQ];exact zlL a0 _ zoW zu8 (fun l=>some [AV.one (.s .entry l)]) hl.1 (fun x hx=>⟨by first|rfl|exact zU (hs.inv.2 x hx)|exact zU (hs.inv.2 x hx _ (List.mem_singleton.2 rfl)),rfl⟩) (Nat.lt_succ_self _)
theorem zFa:Holds Tryz.prog 21 zof:=zo zxn zbd zu zy (zC (by kernel_rfl)) fun avs rs hb h=>by
 unfold zof at h;split at h
 ·obtain ⟨hc,rfl⟩:=zl h;exact (fin1 zKR zN6 hc hb :)
 ·cases h
def ziN (l:List (List Int)):Bool:=pc (CVB sm (.s (.sl .int) l))
def zvb (l:List (List Int)):List (List Int):=l
def zqD:List AV->Option (Bool×List AV)
 | [.one (.s (.sl .int) b)]=>some ((ziN b),[.one (.s (.sl .int) (zvb b))])
 | _=>none
def zwc (N:Nat)(a0:List (List Int)):Option Ans :=
 (cond (cond (few (ln a0)) (ieq (ln a0) (ln a0)) false) (iter (σ:=(Int×((List (List Int))×((List (List Int))×Unit)))) N (fun r2 s3=>(cond (ilt s3.1 (ln s3.2.1)) (cond (inb s3.1 (ln s3.2.1)) (cond (zg7 (ix s3.2.1 s3.1 [])) (cond (inb s3.1 (ln s3.2.2.1)) (share (up s3.2.2.1 s3.1 (znN (ix s3.2.1 s3.1 []))) (fun x4=>(r2 ((zq .i64 s3.1 1),(s3.2.1,(x4,())))))) none) none) none) (some [(.one (.s (.sl .int) s3.2.2.1))]))) (0,(a0,((rp (ln a0) []),())))) none)
def zOt:FuncId->Nat->Option Tmpl:=zB [(19,0,{ n:=23,tm:=[(0,.sl 0 []),(3,.sl 1 []),(4,.i .i64)],lo:=[],ro:=[(0,(.sl .int),false),(1,(.sl .int),true)] })]
theorem zRA (N:Nat)(a0:List (List Int)):evalFn (cQ zI3 zbV zK zO) zOt N 12 19 [.one (.s (.sl .int) a0)]=zwc N a0:=by kernel_rfl
theorem zNk (a0:List (List Int))(hb:zG big [.one (.s (.sl .int) a0)])(hc:(ziN a0)=true):∃N,zwc N a0=some [.one (.s (.sl .int) (zvb a0))]:=by
 have hs:=zJ.1 hc;have hl:=zcA hs.len;refine ⟨a0.length+1,?_⟩;unfold zwc;rw [zeo hl.2,zfQ];exact zlL a0 _ zg7 znN (fun l=>some [AV.one (.s (.sl .int) l)]) hl.1 (fun x hx=>⟨by first|rfl|exact zU (hs.inv.2 x hx)|exact zU (hs.inv.2 x hx _ (List.mem_singleton.2 rfl)),rfl⟩) (Nat.lt_succ_self _)
theorem zG9:Holds Tryz.prog 19 zqD:=zo zxn zbd zu zy (zC (by kernel_rfl)) fun avs rs hb h=>by
 unfold zqD at h;split at h
 ·obtain ⟨hc,rfl⟩:=zl h;exact (fin1 zNk zRA hc hb :)
 ·cases h
def zOD:zbQ:=[(109,zqF),(205,zt1),(21,zof),(19,zqD)]++zI3
theorem zEs:zbw zOD:=zn zHb (zn zJT (zn zFa (zn zG9 zxn)))
def zoX (x:Guest):Bool:=pc (∀c∈Ty.cells .guest x,CVB sm c)
def zu9 (x:Guest):Guest:=x
def zqC:List AV->Option (Bool×List AV)
 | [.agg [.s .ins c,.i .i64 d,.i .i64 e,.s .slot f,.s .slot g,.i .i64 h,.i .i64 j,.b k,.i .i64 l,.i .i64 m,.i .i64 n,.b o,.i .i64 p,.b q,.s .int r]]=>some ((zoX (⟨c,d,e,f,g,⟨h,j,k⟩,l,⟨m,n,o,p⟩,q,r⟩:Guest)),[.agg (Ty.cells .guest (zu9 (⟨c,d,e,f,g,⟨h,j,k⟩,l,⟨m,n,o,p⟩,q,r⟩:Guest)))])
 | _=>none
def zwb (N:Nat)(a0:Guest):Option Ans :=
 (cond (zrG a0.Prog) (cond (zeI a0.Written) (cond (zeI a0.Live) (cond (zu7 a0.Ctl) (cond (zrF a0.Exit) (cond (zg7 a0.Seen) (some [(.agg [(.s .ins (zFu a0.Prog)),(.i .i64 a0.A),(.i .i64 a0.Pc),(.s .slot (zlB a0.Written)),(.s .slot (zlB a0.Live)),(.i .i64 (zxE a0.Ctl).Traps),(.i .i64 (zxE a0.Ctl).Post),(.b (zxE a0.Ctl).Open),(.i .i64 a0.Pending),(.i .i64 (znM a0.Exit).Kind),(.i .i64 (znM a0.Exit).Page),(.b (znM a0.Exit).Write),(.i .i64 (znM a0.Exit).N),(.b a0.Halted),(.s .int (znN a0.Seen))])]) none) none) none) none) none) none)
theorem zRz (N:Nat)(a0:Guest):evalFn (cQ zOD zbV zK zO) (zB []) N 12 169 [.agg (Ty.cells .guest a0)]=zwb N a0:=by kernel_rfl
theorem zNj (a0:Guest)(hb:zG big [.agg (Ty.cells .guest a0)])(hc:(zoX a0)=true):∃N,zwb N a0=some [.agg (Ty.cells .guest (zu9 a0))]:=by
 have h:=zJ.1 hc;have h0:zrG a0.Prog=true:=zU (h (.s .ins a0.Prog) (by simp [Ty.cells]))
 have h1:zeI a0.Written=true:=zU (h (.s .slot a0.Written) (by simp [Ty.cells]))
 have h2:zeI a0.Live=true:=zU (h (.s .slot a0.Live) (by simp [Ty.cells]))
 have h5:zg7 a0.Seen=true:=zU (h (.s .int a0.Seen) (by simp [Ty.cells]))
 refine ⟨0,?_⟩;simp only [zwb,h0,h1,h2,zu7,zrF,h5,cT];rfl
theorem zG8:Holds Tryz.prog 169 zqC:=zo zEs zbd zu zy (zC (by kernel_rfl)) fun avs rs hb h=>by
 unfold zqC at h;split at h
 ·obtain ⟨hc,rfl⟩:=zl h;exact (fin1 zNj zRz hc hb :)
 ·cases h
def zrH (x:Kept):Bool:=pc (∀c∈Ty.cells .kept x,CVB sm c)
def zzP (x:Kept):Kept:=x
def zt3:List AV->Option (Bool×List AV)
 | [.agg [.s .bool b,.s .slot c]]=>some ((zrH (⟨b,c⟩:Kept)),[.agg (Ty.cells .kept (zzP (⟨b,c⟩:Kept)))])
 | _=>none
def zyE (N:Nat)(a0:Kept):Option Ans :=
 (cond (ziM a0.Known) (cond (zeI a0.Slots) (some [(.agg [(.s .bool (zu6 a0.Known)),(.s .slot (zlB a0.Slots))])]) none) none)
theorem zT6 (N:Nat)(a0:Kept):evalFn (cQ zOD zbV zK zO) (zB []) N 12 170 [.agg (Ty.cells .kept a0)]=zyE N a0:=by kernel_rfl
theorem zQB (a0:Kept)(hb:zG big [.agg (Ty.cells .kept a0)])(hc:(zrH a0)=true):∃N,zyE N a0=some [.agg (Ty.cells .kept (zzP a0))]:=by
 have h:=zJ.1 hc;have h0:ziM a0.Known=true:=zU (h (.s .bool a0.Known) (by simp [Ty.cells]))
 have h1:zeI a0.Slots=true:=zU (h (.s .slot a0.Slots) (by simp [Ty.cells]))
 refine ⟨0,?_⟩;simp only [zyE,h0,h1,cT];rfl
theorem zJV:Holds Tryz.prog 170 zt3:=zo zEs zbd zu zy (zC (by kernel_rfl)) fun avs rs hb h=>by
 unfold zt3 at h;split at h
 ·obtain ⟨hc,rfl⟩:=zl h;exact (fin1 zQB zT6 hc hb :)
 ·cases h
def zOE:zbQ:=[(169,zqC),(170,zt3)]++zOD
theorem zEt:zbw zOE:=zn zG8 (zn zJV zEs)
def zmz (l:List Guest):Bool:=pc (CVB sm (.s .guest l))
def zzO (l:List Guest):List Guest:=l
def zog:List AV->Option (Bool×List AV)
 | [.one (.s .guest b)]=>some ((zmz b),[.one (.s .guest (zzO b))])
 | _=>none
def zsy (N:Nat)(a0:List Guest):Option Ans :=
 (cond (cond (few (ln a0)) (ieq (ln a0) (ln a0)) false) (iter (σ:=(Int×((List Guest)×((List Guest)×Unit)))) N (fun r2 s3=>(cond (ilt s3.1 (ln s3.2.1)) (cond (inb s3.1 (ln s3.2.1)) (cond (zoX (ix s3.2.1 s3.1 zi)) (cond (inb s3.1 (ln s3.2.2.1)) (share (up s3.2.2.1 s3.1 (zu9 (ix s3.2.1 s3.1 zi))) (fun x4=>(r2 ((zq .i64 s3.1 1),(s3.2.1,(x4,())))))) none) none) none) (some [(.one (.s .guest s3.2.2.1))]))) (0,(a0,((rp (ln a0) zi),())))) none)
def zLP:FuncId->Nat->Option Tmpl:=zB [(111,0,{ n:=23,tm:=[(0,.sl 0 []),(3,.sl 1 []),(4,.i .i64)],lo:=[],ro:=[(0,.guest,false),(1,.guest,true)] })]
theorem zN7 (N:Nat)(a0:List Guest):evalFn (cQ zOE zbV zK zO) zLP N 12 111 [.one (.s .guest a0)]=zsy N a0:=by kernel_rfl
theorem zKS (a0:List Guest)(hb:zG big [.one (.s .guest a0)])(hc:(zmz a0)=true):∃N,zsy N a0=some [.one (.s .guest (zzO a0))]:=by
 have hs:=zJ.1 hc;have hl:=zcA hs.len;refine ⟨a0.length+1,?_⟩;unfold zsy;rw [zeo hl.2,zfQ];exact zlL a0 _ zoX zu9 (fun l=>some [AV.one (.s .guest l)]) hl.1 (fun x hx=>⟨by first|rfl|exact zU (hs.inv.2 x hx)|exact zU (hs.inv.2 x hx _ (List.mem_singleton.2 rfl)),rfl⟩) (Nat.lt_succ_self _)
theorem zFb:Holds Tryz.prog 111 zog:=zo zEt zbd zu zy (zC (by kernel_rfl)) fun avs rs hb h=>by
 unfold zog at h;split at h
 ·obtain ⟨hc,rfl⟩:=zl h;exact (fin1 zKS zN7 hc hb :)
 ·cases h
def zoY (l:List Kept):Bool:=pc (CVB sm (.s .kept l))
def zBK (l:List Kept):List Kept:=l
def zqE:List AV->Option (Bool×List AV)
 | [.one (.s .kept b)]=>some ((zoY b),[.one (.s .kept (zBK b))])
 | _=>none
def zwd (N:Nat)(a0:List Kept):Option Ans :=
 (cond (cond (few (ln a0)) (ieq (ln a0) (ln a0)) false) (iter (σ:=(Int×((List Kept)×((List Kept)×Unit)))) N (fun r2 s3=>(cond (ilt s3.1 (ln s3.2.1)) (cond (inb s3.1 (ln s3.2.1)) (cond (zrH (ix s3.2.1 s3.1 zbD)) (cond (inb s3.1 (ln s3.2.2.1)) (share (up s3.2.2.1 s3.1 (zzP (ix s3.2.1 s3.1 zbD))) (fun x4=>(r2 ((zq .i64 s3.1 1),(s3.2.1,(x4,())))))) none) none) none) (some [(.one (.s .kept s3.2.2.1))]))) (0,(a0,((rp (ln a0) zbD),())))) none)
def zOu:FuncId->Nat->Option Tmpl:=zB [(112,0,{ n:=23,tm:=[(0,.sl 0 []),(3,.sl 1 []),(4,.i .i64)],lo:=[],ro:=[(0,.kept,false),(1,.kept,true)] })]
theorem zRB (N:Nat)(a0:List Kept):evalFn (cQ zOE zbV zK zO) zOu N 12 112 [.one (.s .kept a0)]=zwd N a0:=by kernel_rfl
theorem zNl (a0:List Kept)(hb:zG big [.one (.s .kept a0)])(hc:(zoY a0)=true):∃N,zwd N a0=some [.one (.s .kept (zBK a0))]:=by
 have hs:=zJ.1 hc;have hl:=zcA hs.len;refine ⟨a0.length+1,?_⟩;unfold zwd;rw [zeo hl.2,zfQ];exact zlL a0 _ zrH zzP (fun l=>some [AV.one (.s .kept l)]) hl.1 (fun x hx=>⟨by first|rfl|exact zU (hs.inv.2 x hx)|exact zU (hs.inv.2 x hx _ (List.mem_singleton.2 rfl)),rfl⟩) (Nat.lt_succ_self _)
theorem zHa:Holds Tryz.prog 112 zqE:=zo zEt zbd zu zy (zC (by kernel_rfl)) fun avs rs hb h=>by
 unfold zqE at h;split at h
 ·obtain ⟨hc,rfl⟩:=zl h;exact (fin1 zNl zRB hc hb :)
 ·cases h
def zVQ:zbQ:=[(111,zog),(112,zqE)]++zOE
theorem zPa:zbw zVQ:=zn zFb (zn zHa zEt)
def zvc (x:Mon):Bool:=pc (∀c∈Ty.cells .mon x,CVB sm c)
def zCC (x:Mon):Mon:=x
def zwZ:List AV->Option (Bool×List AV)
 | [.agg [.s .slot b,.s (.sl .int) c,.s .bool d,.s .guest e,.s .int f,.i .i64 g,.i .i64 h,.s .kept j,.i .i64 k]]=>some ((zvc (⟨b,c,d,e,f,g,h,j,k⟩:Mon)),[.agg (Ty.cells .mon (zCC (⟨b,c,d,e,f,g,h,j,k⟩:Mon)))])
 | _=>none
def zA2 (N:Nat)(a0:Mon):Option Ans :=
 (cond (zeI a0.Outer) (cond (ziN a0.Out) (cond (ziM a0.Dirty) (cond (zmz a0.Guests) (cond (zg7 a0.Outs) (cond (zoY a0.Tables) (some [(.agg [(.s .slot (zlB a0.Outer)),(.s (.sl .int) (zvb a0.Out)),(.s .bool (zu6 a0.Dirty)),(.s .guest (zzO a0.Guests)),(.s .int (znN a0.Outs)),(.i .i64 a0.Pending),(.i .i64 a0.Traps),(.s .kept (zBK a0.Tables)),(.i .i64 a0.Own)])]) none) none) none) none) none) none)
theorem zW0 (N:Nat)(a0:Mon):evalFn (cQ zVQ zbV zK zO) (zB []) N 12 46 [.agg (Ty.cells .mon a0)]=zA2 N a0:=by kernel_rfl
theorem zTd (a0:Mon)(hb:zG big [.agg (Ty.cells .mon a0)])(hc:(zvc a0)=true):∃N,zA2 N a0=some [.agg (Ty.cells .mon (zCC a0))]:=by
 have h:=zJ.1 hc;have h0:zeI a0.Outer=true:=zU (h (.s .slot a0.Outer) (by simp [Ty.cells]))
 have h1:ziN a0.Out=true:=zU (h (.s (.sl .int) a0.Out) (by simp [Ty.cells]))
 have h2:ziM a0.Dirty=true:=zU (h (.s .bool a0.Dirty) (by simp [Ty.cells]))
 have h3:zmz a0.Guests=true:=zU (h (.s .guest a0.Guests) (by simp [Ty.cells]))
 have h4:zg7 a0.Outs=true:=zU (h (.s .int a0.Outs) (by simp [Ty.cells]))
 have h5:zoY a0.Tables=true:=zU (h (.s .kept a0.Tables) (by simp [Ty.cells]))
 refine ⟨0,?_⟩;simp only [zA2,h0,h1,h2,h3,h4,h5,cT];rfl
theorem zMG:Holds Tryz.prog 46 zwZ:=zo zPa zbd zu zy (zC (by kernel_rfl)) fun avs rs hb h=>by
 unfold zwZ at h;split at h
 ·obtain ⟨hc,rfl⟩:=zl h;exact (fin1 zTd zW0 hc hb :)
 ·cases h
def zVR:zbQ:=[(46,zwZ)]++zVQ
theorem zPb:zbw zVR:=zn zMG zPa
def zrI (l:List Mon):Bool:=pc (CVB sm (.s .mon l))
def zFv (l:List Mon):List Mon:=l
def zt4:List AV->Option (Bool×List AV)
 | [.one (.s .mon b)]=>some ((zrI b),[.one (.s .mon (zFv b))])
 | _=>none
def zyF (N:Nat)(a0:List Mon):Option Ans :=
 (cond (cond (few (ln a0)) (ieq (ln a0) (ln a0)) false) (iter (σ:=(Int×((List Mon)×((List Mon)×Unit)))) N (fun r2 s3=>(cond (ilt s3.1 (ln s3.2.1)) (cond (inb s3.1 (ln s3.2.1)) (cond (zvc (ix s3.2.1 s3.1 zf)) (cond (inb s3.1 (ln s3.2.2.1)) (share (up s3.2.2.1 s3.1 (zCC (ix s3.2.1 s3.1 zf))) (fun x4=>(r2 ((zq .i64 s3.1 1),(s3.2.1,(x4,())))))) none) none) none) (some [(.one (.s .mon s3.2.2.1))]))) (0,(a0,((rp (ln a0) zf),())))) none)
def zSq:FuncId->Nat->Option Tmpl:=zB [(20,0,{ n:=23,tm:=[(0,.sl 0 []),(3,.sl 1 []),(4,.i .i64)],lo:=[],ro:=[(0,.mon,false),(1,.mon,true)] })]
theorem zT7 (N:Nat)(a0:List Mon):evalFn (cQ zVR zbV zK zO) zSq N 12 20 [.one (.s .mon a0)]=zyF N a0:=by kernel_rfl
theorem zQC (a0:List Mon)(hb:zG big [.one (.s .mon a0)])(hc:(zrI a0)=true):∃N,zyF N a0=some [.one (.s .mon (zFv a0))]:=by
 have hs:=zJ.1 hc;have hl:=zcA hs.len;refine ⟨a0.length+1,?_⟩;unfold zyF;rw [zeo hl.2,zfQ];exact zlL a0 _ zvc zCC (fun l=>some [AV.one (.s .mon l)]) hl.1 (fun x hx=>⟨by first|rfl|exact zU (hs.inv.2 x hx)|exact zU (hs.inv.2 x hx _ (List.mem_singleton.2 rfl)),rfl⟩) (Nat.lt_succ_self _)
theorem zJW:Holds Tryz.prog 20 zt4:=zo zPb zbd zu zy (zC (by kernel_rfl)) fun avs rs hb h=>by
 unfold zt4 at h;split at h
 ·obtain ⟨hc,rfl⟩:=zl h;exact (fin1 zQC zT7 hc hb :)
 ·cases h
def zVS:zbQ:=[(20,zt4)]++zVR
theorem zPc:zbw zVS:=zn zJW zPb
def zh7 (x:Host):Bool:=pc (∀c∈zA x,CVB sm c)
def zY (x:Host):Host:=x
def zt0:List AV->Option (Bool×List AV)
 | [.agg [.s (.sl .int) b,.s .mon c,.s .entry d,.s .entry e]]=>some ((zh7 (⟨b,c,d,e⟩:Host)),[.agg (zA (zY (⟨b,c,d,e⟩:Host)))])
 | _=>none
def zyB (N:Nat)(a0:Host):Option Ans :=
 (cond (ziN a0.Memory) (cond (zrI a0.Mons) (cond (zhJ a0.Buffer) (cond (zhJ a0.IoBuffer) (some [(.agg [(.s (.sl .int) (zvb a0.Memory)),(.s .mon (zFv a0.Mons)),(.s .entry (zrE a0.Buffer)),(.s .entry (zrE a0.IoBuffer))])]) none) none) none) none)
theorem zT3 (N:Nat)(a0:Host):evalFn (cQ zVS zbV zK zO) (zB []) N 12 7 [.agg (zA a0)]=zyB N a0:=by kernel_rfl
theorem zQy (a0:Host)(hb:zG big [.agg (zA a0)])(hc:(zh7 a0)=true):∃N,zyB N a0=some [.agg (zA (zY a0))]:=by
 have h:=zJ.1 hc;have h0:ziN a0.Memory=true:=zU (h (.s (.sl .int) a0.Memory) (by simp [zA]))
 have h1:zrI a0.Mons=true:=zU (h (.s .mon a0.Mons) (by simp [zA]))
 have h2:zhJ a0.Buffer=true:=zU (h (.s .entry a0.Buffer) (by simp [zA]))
 have h3:zhJ a0.IoBuffer=true:=zU (h (.s .entry a0.IoBuffer) (by simp [zA]))
 refine ⟨0,?_⟩;simp only [zyB,h0,h1,h2,h3,cT];rfl
theorem zJS:Holds Tryz.prog 7 zt0:=zo zPc zbd zu zy (zC (by kernel_rfl)) fun avs rs hb h=>by
 unfold zt0 at h;split at h
 ·obtain ⟨hc,rfl⟩:=zl h;exact (fin1 zQy zT3 hc hb :)
 ·cases h
def zrk:zbQ:=[(7,zt0)]++zVS
theorem zjd:zbw zrk:=zn zJS zPc
def zrz (x y:Slot):Bool:=pc (x=y)
def ztd (_ _:Slot):Bool:=true
def ztT:List AV->Option (Bool×List AV)
 | [.agg [.i .i64 c,.i .i64 d],.agg [.i .i64 e,.i .i64 f]]=>some ((zrz (⟨c,d⟩:Slot) (⟨e,f⟩:Slot)),[.one (.b (ztd (⟨c,d⟩:Slot) (⟨e,f⟩:Slot)))])
 | _=>none
def zyv (N:Nat)(a0:Slot)(a1:Slot):Option Ans :=
 (cond (ine a0.Page a1.Page) (some [(.one (.b false))]) (cond (ine a0.Rights a1.Rights) (some [(.one (.b false))]) (some [(.one (.b true))])))
theorem zTW (N:Nat)(a0:Slot)(a1:Slot):evalFn (cQ zrk zbV zK zO) (zB []) N 12 189 [.agg (Ty.cells .slot a0),.agg (Ty.cells .slot a1)]=zyv N a0 a1:=by kernel_rfl
theorem zQr (a0:Slot)(a1:Slot)(hb:zG big [.agg (Ty.cells .slot a0),.agg (Ty.cells .slot a1)])(hc:(zrz a0 a1)=true):∃N,zyv N a0 a1=some [.one (.b (ztd a0 a1))]:=by
 have:=zJ.1 hc;subst this;refine ⟨0,?_⟩;simp only [zyv, ziU,zb2,zcj,cT,cF,Bool.not_true,ztd]
theorem zJL:Holds Tryz.prog 189 ztT:=zo zjd zbd zu zy (zC (by kernel_rfl)) fun avs rs hb h=>by
 unfold ztT at h;split at h
 ·obtain ⟨hc,rfl⟩:=zl h;exact (fin2 zQr zTW hc hb :)
 ·cases h
def zu3 (x y:Ins):Bool:=pc (x=y)
def zxC (_ _:Ins):Bool:=true
def zwU:List AV->Option (Bool×List AV)
 | [.agg [.i .i64 c,.i .i64 d],.agg [.i .i64 e,.i .i64 f]]=>some ((zu3 (⟨c,d⟩:Ins) (⟨e,f⟩:Ins)),[.one (.b (zxC (⟨c,d⟩:Ins) (⟨e,f⟩:Ins)))])
 | _=>none
def zAZ (N:Nat)(a0:Ins)(a1:Ins):Option Ans :=
 (cond (ine a0.Op a1.Op) (some [(.one (.b false))]) (cond (ine a0.X a1.X) (some [(.one (.b false))]) (some [(.one (.b true))])))
theorem zWV (N:Nat)(a0:Ins)(a1:Ins):evalFn (cQ zrk zbV zK zO) (zB []) N 12 245 [.agg (Ty.cells .ins a0),.agg (Ty.cells .ins a1)]=zAZ N a0 a1:=by kernel_rfl
theorem zS8 (a0:Ins)(a1:Ins)(hb:zG big [.agg (Ty.cells .ins a0),.agg (Ty.cells .ins a1)])(hc:(zu3 a0 a1)=true):∃N,zAZ N a0 a1=some [.one (.b (zxC a0 a1))]:=by
 have:=zJ.1 hc;subst this;refine ⟨0,?_⟩;simp only [zAZ, ziU,zb2,zcj,cT,cF,Bool.not_true,zxC]
theorem zMB:Holds Tryz.prog 245 zwU:=zo zjd zbd zu zy (zC (by kernel_rfl)) fun avs rs hb h=>by
 unfold zwU at h;split at h
 ·obtain ⟨hc,rfl⟩:=zl h;exact (fin2 zS8 zWV hc hb :)
 ·cases h
def zu1 (x y:Ctl):Bool:=pc (x=y)
def zxB (_ _:Ctl):Bool:=true
def zwT:List AV->Option (Bool×List AV)
 | [.agg [.i .i64 c,.i .i64 d,.b e],.agg [.i .i64 f,.i .i64 g,.b h]]=>some ((zu1 (⟨c,d,e⟩:Ctl) (⟨f,g,h⟩:Ctl)),[.one (.b (zxB (⟨c,d,e⟩:Ctl) (⟨f,g,h⟩:Ctl)))])
 | _=>none
def zAY (N:Nat)(a0:Ctl)(a1:Ctl):Option Ans :=
 (cond (ine a0.Traps a1.Traps) (some [(.one (.b false))]) (cond (ine a0.Post a1.Post) (some [(.one (.b false))]) (cond (cond (zhh a0.Open a1.Open) false true) (some [(.one (.b false))]) (some [(.one (.b true))]))))
theorem zWU (N:Nat)(a0:Ctl)(a1:Ctl):evalFn (cQ zrk zbV zK zO) (zB []) N 12 219 [.agg (zkf a0),.agg (zkf a1)]=zAY N a0 a1:=by kernel_rfl
theorem zS7 (a0:Ctl)(a1:Ctl)(hb:zG big [.agg (zkf a0),.agg (zkf a1)])(hc:(zu1 a0 a1)=true):∃N,zAY N a0 a1=some [.one (.b (zxB a0 a1))]:=by
 have:=zJ.1 hc;subst this;refine ⟨0,?_⟩;simp only [zAY, ziU,zb2,zcj,cT,cF,Bool.not_true,zxB]
theorem zMA:Holds Tryz.prog 219 zwT:=zo zjd zbd zu zy (zC (by kernel_rfl)) fun avs rs hb h=>by
 unfold zwT at h;split at h
 ·obtain ⟨hc,rfl⟩:=zl h;exact (fin2 zS7 zWU hc hb :)
 ·cases h
def zru (x y:GExit):Bool:=pc (x=y)
def zs9 (_ _:GExit):Bool:=true
def ztN:List AV->Option (Bool×List AV)
 | [.agg [.i .i64 c,.i .i64 d,.b e,.i .i64 f],.agg [.i .i64 g,.i .i64 h,.b j,.i .i64 k]]=>some ((zru (⟨c,d,e,f⟩:GExit) (⟨g,h,j,k⟩:GExit)),[.one (.b (zs9 (⟨c,d,e,f⟩:GExit) (⟨g,h,j,k⟩:GExit)))])
 | _=>none
def zyp (N:Nat)(a0:GExit)(a1:GExit):Option Ans :=
 (cond (ine a0.Kind a1.Kind) (some [(.one (.b false))]) (cond (ine a0.Page a1.Page) (some [(.one (.b false))]) (cond (cond (zhh a0.Write a1.Write) false true) (some [(.one (.b false))]) (cond (ine a0.N a1.N) (some [(.one (.b false))]) (some [(.one (.b true))])))))
theorem zTQ (N:Nat)(a0:GExit)(a1:GExit):evalFn (cQ zrk zbV zK zO) (zB []) N 12 220 [.agg (zdQ a0),.agg (zdQ a1)]=zyp N a0 a1:=by kernel_rfl
theorem zQl (a0:GExit)(a1:GExit)(hb:zG big [.agg (zdQ a0),.agg (zdQ a1)])(hc:(zru a0 a1)=true):∃N,zyp N a0 a1=some [.one (.b (zs9 a0 a1))]:=by
 have:=zJ.1 hc;subst this;refine ⟨0,?_⟩;simp only [zyp, ziU,zb2,zcj,cT,cF,Bool.not_true,zs9]
theorem zJF:Holds Tryz.prog 220 ztN:=zo zjd zbd zu zy (zC (by kernel_rfl)) fun avs rs hb h=>by
 unfold ztN at h;split at h
 ·obtain ⟨hc,rfl⟩:=zl h;exact (fin2 zQl zTQ hc hb :)
 ·cases h
def zoP (x y:Entry):Bool:=pc (x=y)
def zpl (_ _:Entry):Bool:=true
def zqp:List AV->Option (Bool×List AV)
 | [.agg [.i .i64 c,.i .i64 d,.i .i64 e,.i .i64 f],.agg [.i .i64 g,.i .i64 h,.i .i64 j,.i .i64 k]]=>some ((zoP (⟨c,d,e,f⟩:Entry) (⟨g,h,j,k⟩:Entry)),[.one (.b (zpl (⟨c,d,e,f⟩:Entry) (⟨g,h,j,k⟩:Entry)))])
 | _=>none
def zv0 (N:Nat)(a0:Entry)(a1:Entry):Option Ans :=
 (cond (ine a0.Tag a1.Tag) (some [(.one (.b false))]) (cond (ine a0.Page a1.Page) (some [(.one (.b false))]) (cond (ine a0.Host a1.Host) (some [(.one (.b false))]) (cond (ine a0.Rights a1.Rights) (some [(.one (.b false))]) (some [(.one (.b true))])))))
theorem zRn (N:Nat)(a0:Entry)(a1:Entry):evalFn (cQ zrk zbV zK zO) (zB []) N 12 70 [.agg (Ty.cells .entry a0),.agg (Ty.cells .entry a1)]=zv0 N a0 a1:=by kernel_rfl
theorem zM7 (a0:Entry)(a1:Entry)(hb:zG big [.agg (Ty.cells .entry a0),.agg (Ty.cells .entry a1)])(hc:(zoP a0 a1)=true):∃N,zv0 N a0 a1=some [.one (.b (zpl a0 a1))]:=by
 have:=zJ.1 hc;subst this;refine ⟨0,?_⟩;simp only [zv0, ziU,zb2,zcj,cT,cF,Bool.not_true,zpl]
theorem zGW:Holds Tryz.prog 70 zqp:=zo zjd zbd zu zy (zC (by kernel_rfl)) fun avs rs hb h=>by
 unfold zqp at h;split at h
 ·obtain ⟨hc,rfl⟩:=zl h;exact (fin2 zM7 zRn hc hb :)
 ·cases h
def zg5 (x y:List Int):Bool:=pc (x=y)
def zh6 (_ _:List Int):Bool:=true
def ztQ:List AV->Option (Bool×List AV)
 | [.one (.s .int c),.one (.s .int d)]=>some ((zg5 c d),[.one (.b (zh6 c d))])
 | _=>none
def zys (N:Nat)(a0 a1:List Int):Option Ans :=
 (cond (ine (ln a0) (ln a1)) (some [(.one (.b false))]) (iter (σ:=(Int×((List Int)×((List Int)×Unit)))) N (fun r3 s4=>(cond (ilt s4.1 (ln s4.2.1)) (cond (inb s4.1 (ln s4.2.1)) (cond (inb s4.1 (ln s4.2.2.1)) (cond (ine (ix s4.2.1 s4.1 0) (ix s4.2.2.1 s4.1 0)) (some [(.one (.b false))]) (r3 ((zq .i64 s4.1 1),(s4.2.1,(s4.2.2.1,()))))) none) none) (some [(.one (.b true))]))) (0,(a0,(a1,())))))
def zSl:FuncId->Nat->Option Tmpl:=zB [(68,0,{ n:=26,tm:=[(0,.sl 0 []),(1,.sl 1 []),(5,.i .i64)],lo:=[],ro:=[(0,.int,false),(1,.int,false)] })]
theorem zTT (N:Nat)(a0 a1:List Int):evalFn (cQ zrk zbV zK zO) zSl N 12 68 [.one (.s .int a0),.one (.s .int a1)]=zys N a0 a1:=by kernel_rfl
theorem zQo (a0 a1:List Int)(hb:zG big [.one (.s .int a0),.one (.s .int a1)])(hc:(zg5 a0 a1)=true):∃N,zys N a0 a1=some [.one (.b (zh6 a0 a1))]:=by
 have:=zJ.1 hc;subst this;have hl:=((zbu hb).1 _ (List.mem_singleton.2 rfl)).len;refine ⟨a0.length+1,?_⟩;unfold zys;rw [zb2];refine zjO a0 z2F _ _ hl (fun i hi rec=>?_) (fun rec=>?_) (Nat.lt_succ_self _)
 ·simp only [zbv hi,zbg hi,zbq hi,ziU,zb2,zcj,cT,cF,Bool.not_true]
 ·simp only [zbj,cF,zh6]
theorem zJI:Holds Tryz.prog 68 ztQ:=zo zjd zbd zu zy (zC (by kernel_rfl)) fun avs rs hb h=>by
 unfold ztQ at h;split at h
 ·obtain ⟨hc,rfl⟩:=zl h;exact (fin2 zQo zTT hc hb :)
 ·cases h
def ziG (x y:List Bool):Bool:=pc (x=y)
def zjr (_ _:List Bool):Bool:=true
def zqo:List AV->Option (Bool×List AV)
 | [.one (.s .bool c),.one (.s .bool d)]=>some ((ziG c d),[.one (.b (zjr c d))])
 | _=>none
def zvZ (N:Nat)(a0 a1:List Bool):Option Ans :=
 (cond (ine (ln a0) (ln a1)) (some [(.one (.b false))]) (iter (σ:=(Int×((List Bool)×((List Bool)×Unit)))) N (fun r3 s4=>(cond (ilt s4.1 (ln s4.2.1)) (cond (inb s4.1 (ln s4.2.1)) (cond (inb s4.1 (ln s4.2.2.1)) (cond (cond (zhh (ix s4.2.1 s4.1 false) (ix s4.2.2.1 s4.1 false)) false true) (some [(.one (.b false))]) (r3 ((zq .i64 s4.1 1),(s4.2.1,(s4.2.2.1,()))))) none) none) (some [(.one (.b true))]))) (0,(a0,(a1,())))))
def zOm:FuncId->Nat->Option Tmpl:=zB [(144,0,{ n:=26,tm:=[(0,.sl 0 []),(1,.sl 1 []),(5,.i .i64)],lo:=[],ro:=[(0,.bool,false),(1,.bool,false)] })]
theorem zRm (N:Nat)(a0 a1:List Bool):evalFn (cQ zrk zbV zK zO) zOm N 12 144 [.one (.s .bool a0),.one (.s .bool a1)]=zvZ N a0 a1:=by kernel_rfl
theorem zM6 (a0 a1:List Bool)(hb:zG big [.one (.s .bool a0),.one (.s .bool a1)])(hc:(ziG a0 a1)=true):∃N,zvZ N a0 a1=some [.one (.b (zjr a0 a1))]:=by
 have:=zJ.1 hc;subst this;have hl:=((zbu hb).1 _ (List.mem_singleton.2 rfl)).len;refine ⟨a0.length+1,?_⟩;unfold zvZ;rw [zb2];refine zjO a0 z2e _ _ hl (fun i hi rec=>?_) (fun rec=>?_) (Nat.lt_succ_self _)
 ·simp only [zbv hi,zbg hi,zbq hi,ziU,zb2,zcj,cT,cF,Bool.not_true]
 ·simp only [zbj,cF,zjr]
theorem zGV:Holds Tryz.prog 144 zqo:=zo zjd zbd zu zy (zC (by kernel_rfl)) fun avs rs hb h=>by
 unfold zqo at h;split at h
 ·obtain ⟨hc,rfl⟩:=zl h;exact (fin2 zM6 zRm hc hb :)
 ·cases h
def zCk:zbQ:=[(189,ztT),(245,zwU),(219,zwT),(220,ztN),(70,zqp),(68,ztQ),(144,zqo)]++zrk
theorem zsK:zbw zCk:=zn zJL (zn zMB (zn zMA (zn zJF (zn zGW (zn zJI (zn zGV zjd))))))
def zfl (x y:List Slot):Bool:=pc (x=y)
def zf9 (_ _:List Slot):Bool:=true
def zqu:List AV->Option (Bool×List AV)
 | [.one (.s .slot c),.one (.s .slot d)]=>some ((zfl c d),[.one (.b (zf9 c d))])
 | _=>none
def zv4 (N:Nat)(a0 a1:List Slot):Option Ans :=
 (cond (ine (ln a0) (ln a1)) (some [(.one (.b false))]) (iter (σ:=(Int×((List Slot)×((List Slot)×Unit)))) N (fun r3 s4=>(cond (ilt s4.1 (ln s4.2.1)) (cond (inb s4.1 (ln s4.2.1)) (cond (inb s4.1 (ln s4.2.2.1)) (cond (zrz (ix s4.2.1 s4.1 zQ) (ix s4.2.2.1 s4.1 zQ)) (cond (cond (ztd (ix s4.2.1 s4.1 zQ) (ix s4.2.2.1 s4.1 zQ)) false true) (some [(.one (.b false))]) (r3 ((zq .i64 s4.1 1),(s4.2.1,(s4.2.2.1,()))))) none) none) none) (some [(.one (.b true))]))) (0,(a0,(a1,())))))
def zOp:FuncId->Nat->Option Tmpl:=zB [(143,0,{ n:=27,tm:=[(0,.sl 0 []),(1,.sl 1 []),(5,.i .i64)],lo:=[],ro:=[(0,.slot,false),(1,.slot,false)] })]
theorem zRr (N:Nat)(a0 a1:List Slot):evalFn (cQ zCk zbV zK zO) zOp N 12 143 [.one (.s .slot a0),.one (.s .slot a1)]=zv4 N a0 a1:=by kernel_rfl
theorem zNb (a0 a1:List Slot)(hb:zG big [.one (.s .slot a0),.one (.s .slot a1)])(hc:(zfl a0 a1)=true):∃N,zv4 N a0 a1=some [.one (.b (zf9 a0 a1))]:=by
 have:=zJ.1 hc;subst this;have hl:=((zbu hb).1 _ (List.mem_singleton.2 rfl)).len;refine ⟨a0.length+1,?_⟩;unfold zv4;rw [zb2];refine zjO a0 zQ _ _ hl (fun i hi rec=>?_) (fun rec=>?_) (Nat.lt_succ_self _)
 ·simp only [zbv hi,zbg hi,zbq hi,zrz,ztd,ziU,zb2,zcj,cT,cF,Bool.not_true]
 ·simp only [zbj,cF,zf9]
theorem zG0:Holds Tryz.prog 143 zqu:=zo zsK zbd zu zy (zC (by kernel_rfl)) fun avs rs hb h=>by
 unfold zqu at h;split at h
 ·obtain ⟨hc,rfl⟩:=zl h;exact (fin2 zNb zRr hc hb :)
 ·cases h
def zrv (x y:List Ins):Bool:=pc (x=y)
def zta (_ _:List Ins):Bool:=true
def ztP:List AV->Option (Bool×List AV)
 | [.one (.s .ins c),.one (.s .ins d)]=>some ((zrv c d),[.one (.b (zta c d))])
 | _=>none
def zyr (N:Nat)(a0 a1:List Ins):Option Ans :=
 (cond (ine (ln a0) (ln a1)) (some [(.one (.b false))]) (iter (σ:=(Int×((List Ins)×((List Ins)×Unit)))) N (fun r3 s4=>(cond (ilt s4.1 (ln s4.2.1)) (cond (inb s4.1 (ln s4.2.1)) (cond (inb s4.1 (ln s4.2.2.1)) (cond (zu3 (ix s4.2.1 s4.1 zfs) (ix s4.2.2.1 s4.1 zfs)) (cond (cond (zxC (ix s4.2.1 s4.1 zfs) (ix s4.2.2.1 s4.1 zfs)) false true) (some [(.one (.b false))]) (r3 ((zq .i64 s4.1 1),(s4.2.1,(s4.2.2.1,()))))) none) none) none) (some [(.one (.b true))]))) (0,(a0,(a1,())))))
def zSk:FuncId->Nat->Option Tmpl:=zB [(218,0,{ n:=27,tm:=[(0,.sl 0 []),(1,.sl 1 []),(5,.i .i64)],lo:=[],ro:=[(0,.ins,false),(1,.ins,false)] })]
theorem zTS (N:Nat)(a0 a1:List Ins):evalFn (cQ zCk zbV zK zO) zSk N 12 218 [.one (.s .ins a0),.one (.s .ins a1)]=zyr N a0 a1:=by kernel_rfl
theorem zQn (a0 a1:List Ins)(hb:zG big [.one (.s .ins a0),.one (.s .ins a1)])(hc:(zrv a0 a1)=true):∃N,zyr N a0 a1=some [.one (.b (zta a0 a1))]:=by
 have:=zJ.1 hc;subst this;have hl:=((zbu hb).1 _ (List.mem_singleton.2 rfl)).len;refine ⟨a0.length+1,?_⟩;unfold zyr;rw [zb2];refine zjO a0 zfs _ _ hl (fun i hi rec=>?_) (fun rec=>?_) (Nat.lt_succ_self _)
 ·simp only [zbv hi,zbg hi,zbq hi,zu3,zxC,ziU,zb2,zcj,cT,cF,Bool.not_true]
 ·simp only [zbj,cF,zta]
theorem zJH:Holds Tryz.prog 218 ztP:=zo zsK zbd zu zy (zC (by kernel_rfl)) fun avs rs hb h=>by
 unfold ztP at h;split at h
 ·obtain ⟨hc,rfl⟩:=zl h;exact (fin2 zQn zTS hc hb :)
 ·cases h
def zjs (x y:List Entry):Bool:=pc (x=y)
def zjY (_ _:List Entry):Bool:=true
def zn7:List AV->Option (Bool×List AV)
 | [.one (.s .entry c),.one (.s .entry d)]=>some ((zjs c d),[.one (.b (zjY c d))])
 | _=>none
def zsm (N:Nat)(a0 a1:List Entry):Option Ans :=
 (cond (ine (ln a0) (ln a1)) (some [(.one (.b false))]) (iter (σ:=(Int×((List Entry)×((List Entry)×Unit)))) N (fun r3 s4=>(cond (ilt s4.1 (ln s4.2.1)) (cond (inb s4.1 (ln s4.2.1)) (cond (inb s4.1 (ln s4.2.2.1)) (cond (zoP (ix s4.2.1 s4.1 zbz) (ix s4.2.2.1 s4.1 zbz)) (cond (cond (zpl (ix s4.2.1 s4.1 zbz) (ix s4.2.2.1 s4.1 zbz)) false true) (some [(.one (.b false))]) (r3 ((zq .i64 s4.1 1),(s4.2.1,(s4.2.2.1,()))))) none) none) none) (some [(.one (.b true))]))) (0,(a0,(a1,())))))
def zLI:FuncId->Nat->Option Tmpl:=zB [(26,0,{ n:=27,tm:=[(0,.sl 0 []),(1,.sl 1 []),(5,.i .i64)],lo:=[],ro:=[(0,.entry,false),(1,.entry,false)] })]
theorem zNV (N:Nat)(a0 a1:List Entry):evalFn (cQ zCk zbV zK zO) zLI N 12 26 [.one (.s .entry a0),.one (.s .entry a1)]=zsm N a0 a1:=by kernel_rfl
theorem zKG (a0 a1:List Entry)(hb:zG big [.one (.s .entry a0),.one (.s .entry a1)])(hc:(zjs a0 a1)=true):∃N,zsm N a0 a1=some [.one (.b (zjY a0 a1))]:=by
 have:=zJ.1 hc;subst this;have hl:=((zbu hb).1 _ (List.mem_singleton.2 rfl)).len;refine ⟨a0.length+1,?_⟩;unfold zsm;rw [zb2];refine zjO a0 zbz _ _ hl (fun i hi rec=>?_) (fun rec=>?_) (Nat.lt_succ_self _)
 ·simp only [zbv hi,zbg hi,zbq hi,zoP,zpl,ziU,zb2,zcj,cT,cF,Bool.not_true]
 ·simp only [zbj,cF,zjY]
theorem zEZ:Holds Tryz.prog 26 zn7:=zo zsK zbd zu zy (zC (by kernel_rfl)) fun avs rs hb h=>by
 unfold zn7 at h;split at h
 ·obtain ⟨hc,rfl⟩:=zl h;exact (fin2 zKG zNV hc hb :)
 ·cases h
def ziH (x y:List (List Int)):Bool:=pc (x=y)
def zju (_ _:List (List Int)):Bool:=true
def zqr:List AV->Option (Bool×List AV)
 | [.one (.s (.sl .int) c),.one (.s (.sl .int) d)]=>some ((ziH c d),[.one (.b (zju c d))])
 | _=>none
def zv2 (N:Nat)(a0:List (List Int))(a1:List (List Int)):Option Ans :=
 (cond (ine (ln a0) (ln a1)) (some [(.one (.b false))]) (iter (σ:=(Int×((List (List Int))×((List (List Int))×Unit)))) N (fun r3 s4=>(cond (ilt s4.1 (ln s4.2.1)) (cond (inb s4.1 (ln s4.2.1)) (cond (inb s4.1 (ln s4.2.2.1)) (cond (zg5 (ix s4.2.1 s4.1 []) (ix s4.2.2.1 s4.1 [])) (cond (cond (zh6 (ix s4.2.1 s4.1 []) (ix s4.2.2.1 s4.1 [])) false true) (some [(.one (.b false))]) (r3 ((zq .i64 s4.1 1),(s4.2.1,(s4.2.2.1,()))))) none) none) none) (some [(.one (.b true))]))) (0,(a0,(a1,())))))
def zOn:FuncId->Nat->Option Tmpl:=zB [(24,0,{ n:=27,tm:=[(0,.sl 0 []),(1,.sl 1 []),(5,.i .i64)],lo:=[],ro:=[(0,(.sl .int),false),(1,(.sl .int),false)] })]
theorem zRp (N:Nat)(a0:List (List Int))(a1:List (List Int)):evalFn (cQ zCk zbV zK zO) zOn N 12 24 [.one (.s (.sl .int) a0),.one (.s (.sl .int) a1)]=zv2 N a0 a1:=by kernel_rfl
theorem zM9 (a0:List (List Int))(a1:List (List Int))(hb:zG big [.one (.s (.sl .int) a0),.one (.s (.sl .int) a1)])(hc:(ziH a0 a1)=true):∃N,zv2 N a0 a1=some [.one (.b (zju a0 a1))]:=by
 have:=zJ.1 hc;subst this;have hl:=((zbu hb).1 _ (List.mem_singleton.2 rfl)).len;refine ⟨a0.length+1,?_⟩;unfold zv2;rw [zb2];refine zjO a0 (Ty.dflt (.sl .int)) _ _ hl (fun i hi rec=>?_) (fun rec=>?_) (Nat.lt_succ_self _)
 ·simp only [zbv hi,zbg hi,zbq hi,zg5,zh6,ziU,zb2,zcj,cT,cF,Bool.not_true]
 ·simp only [zbj,cF,zju]
theorem zGY:Holds Tryz.prog 24 zqr:=zo zsK zbd zu zy (zC (by kernel_rfl)) fun avs rs hb h=>by
 unfold zqr at h;split at h
 ·obtain ⟨hc,rfl⟩:=zl h;exact (fin2 zM9 zRp hc hb :)
 ·cases h
def zOF:zbQ:=[(143,zqu),(218,ztP),(26,zn7),(24,zqr)]++zCk
theorem zEu:zbw zOF:=zn zG0 (zn zJH (zn zEZ (zn zGY zsK)))
def zoQ (x y:Guest):Bool:=pc (x=y)
def zpm (_ _:Guest):Bool:=true
def zqq:List AV->Option (Bool×List AV)
 | [.agg [.s .ins c,.i .i64 d,.i .i64 e,.s .slot f,.s .slot g,.i .i64 h,.i .i64 j,.b k,.i .i64 l,.i .i64 m,.i .i64 n,.b o,.i .i64 p,.b q,.s .int r],.agg [.s .ins t,.i .i64 u,.i .i64 v,.s .slot w,.s .slot x,.i .i64 y,.i .i64 z,.b ab,.i .i64 ac,.i .i64 ad,.i .i64 ae,.b af,.i .i64 ag,.b ah,.s .int ai]]=>some ((zoQ (⟨c,d,e,f,g,⟨h,j,k⟩,l,⟨m,n,o,p⟩,q,r⟩:Guest) (⟨t,u,v,w,x,⟨y,z,ab⟩,ac,⟨ad,ae,af,ag⟩,ah,ai⟩:Guest)),[.one (.b (zpm (⟨c,d,e,f,g,⟨h,j,k⟩,l,⟨m,n,o,p⟩,q,r⟩:Guest) (⟨t,u,v,w,x,⟨y,z,ab⟩,ac,⟨ad,ae,af,ag⟩,ah,ai⟩:Guest)))])
 | _=>none
def zv1 (N:Nat)(a0 a1:Guest):Option Ans :=
 (cond (zrv a0.Prog a1.Prog) (cond (cond (zta a0.Prog a1.Prog) false true) (some [(.one (.b false))]) (cond (ine a0.A a1.A) (some [(.one (.b false))]) (cond (ine a0.Pc a1.Pc) (some [(.one (.b false))]) (cond (zfl a0.Written a1.Written) (cond (cond (zf9 a0.Written a1.Written) false true) (some [(.one (.b false))]) (cond (zfl a0.Live a1.Live) (cond (cond (zf9 a0.Live a1.Live) false true) (some [(.one (.b false))]) (cond (zu1 a0.Ctl a1.Ctl) (cond (cond (zxB a0.Ctl a1.Ctl) false true) (some [(.one (.b false))]) (cond (ine a0.Pending a1.Pending) (some [(.one (.b false))]) (cond (zru a0.Exit a1.Exit) (cond (cond (zs9 a0.Exit a1.Exit) false true) (some [(.one (.b false))]) (cond (cond (zhh a0.Halted a1.Halted) false true) (some [(.one (.b false))]) (cond (zg5 a0.Seen a1.Seen) (cond (cond (zh6 a0.Seen a1.Seen) false true) (some [(.one (.b false))]) (some [(.one (.b true))])) none))) none))) none)) none)) none)))) none)
theorem zRo (N:Nat)(a0 a1:Guest):evalFn (cQ zOF zbV zK zO) (zB []) N 12 190 [.agg (Ty.cells .guest a0),.agg (Ty.cells .guest a1)]=zv1 N a0 a1:=by kernel_rfl
theorem zM8 (a0 a1:Guest)(hb:zG big [.agg (Ty.cells .guest a0),.agg (Ty.cells .guest a1)])(hc:(zoQ a0 a1)=true):∃N,zv1 N a0 a1=some [.one (.b (zpm a0 a1))]:=by
 have:=zJ.1 hc;subst this;refine ⟨0,?_⟩;simp only [zv1,zrv,zfl,zu1,zru,zg5,zta,zf9,zxB,zs9,zh6,ziU,zb2,zcj,cT,cF,Bool.not_true,zpm]
theorem zGX:Holds Tryz.prog 190 zqq:=zo zEu zbd zu zy (zC (by kernel_rfl)) fun avs rs hb h=>by
 unfold zqq at h;split at h
 ·obtain ⟨hc,rfl⟩:=zl h;exact (fin2 zM8 zRo hc hb :)
 ·cases h
def zrx (x y:Kept):Bool:=pc (x=y)
def ztb (_ _:Kept):Bool:=true
def ztR:List AV->Option (Bool×List AV)
 | [.agg [.s .bool c,.s .slot d],.agg [.s .bool e,.s .slot f]]=>some ((zrx (⟨c,d⟩:Kept) (⟨e,f⟩:Kept)),[.one (.b (ztb (⟨c,d⟩:Kept) (⟨e,f⟩:Kept)))])
 | _=>none
def zyt (N:Nat)(a0 a1:Kept):Option Ans :=
 (cond (ziG a0.Known a1.Known) (cond (cond (zjr a0.Known a1.Known) false true) (some [(.one (.b false))]) (cond (zfl a0.Slots a1.Slots) (cond (cond (zf9 a0.Slots a1.Slots) false true) (some [(.one (.b false))]) (some [(.one (.b true))])) none)) none)
theorem zTU (N:Nat)(a0 a1:Kept):evalFn (cQ zOF zbV zK zO) (zB []) N 12 191 [.agg (Ty.cells .kept a0),.agg (Ty.cells .kept a1)]=zyt N a0 a1:=by kernel_rfl
theorem zQp (a0 a1:Kept)(hb:zG big [.agg (Ty.cells .kept a0),.agg (Ty.cells .kept a1)])(hc:(zrx a0 a1)=true):∃N,zyt N a0 a1=some [.one (.b (ztb a0 a1))]:=by
 have:=zJ.1 hc;subst this;refine ⟨0,?_⟩;simp only [zyt,ziG,zfl,zjr,zf9,ziU,zb2,zcj,cT,cF,Bool.not_true,ztb]
theorem zJJ:Holds Tryz.prog 191 ztR:=zo zEu zbd zu zy (zC (by kernel_rfl)) fun avs rs hb h=>by
 unfold ztR at h;split at h
 ·obtain ⟨hc,rfl⟩:=zl h;exact (fin2 zQp zTU hc hb :)
 ·cases h
def zOG:zbQ:=[(190,zqq),(191,ztR)]++zOF
theorem zEv:zbw zOG:=zn zGX (zn zJJ zEu)
def zmr (x y:List Guest):Bool:=pc (x=y)
def zmq (_ _:List Guest):Bool:=true
def zn8:List AV->Option (Bool×List AV)
 | [.one (.s .guest c),.one (.s .guest d)]=>some ((zmr c d),[.one (.b (zmq c d))])
 | _=>none
def zsn (N:Nat)(a0 a1:List Guest):Option Ans :=
 (cond (ine (ln a0) (ln a1)) (some [(.one (.b false))]) (iter (σ:=(Int×((List Guest)×((List Guest)×Unit)))) N (fun r3 s4=>(cond (ilt s4.1 (ln s4.2.1)) (cond (inb s4.1 (ln s4.2.1)) (cond (inb s4.1 (ln s4.2.2.1)) (cond (zoQ (ix s4.2.1 s4.1 zi) (ix s4.2.2.1 s4.1 zi)) (cond (cond (zpm (ix s4.2.1 s4.1 zi) (ix s4.2.2.1 s4.1 zi)) false true) (some [(.one (.b false))]) (r3 ((zq .i64 s4.1 1),(s4.2.1,(s4.2.2.1,()))))) none) none) none) (some [(.one (.b true))]))) (0,(a0,(a1,())))))
def zLJ:FuncId->Nat->Option Tmpl:=zB [(145,0,{ n:=27,tm:=[(0,.sl 0 []),(1,.sl 1 []),(5,.i .i64)],lo:=[],ro:=[(0,.guest,false),(1,.guest,false)] })]
theorem zNW (N:Nat)(a0 a1:List Guest):evalFn (cQ zOG zbV zK zO) zLJ N 12 145 [.one (.s .guest a0),.one (.s .guest a1)]=zsn N a0 a1:=by kernel_rfl
theorem zKH (a0 a1:List Guest)(hb:zG big [.one (.s .guest a0),.one (.s .guest a1)])(hc:(zmr a0 a1)=true):∃N,zsn N a0 a1=some [.one (.b (zmq a0 a1))]:=by
 have:=zJ.1 hc;subst this;have hl:=((zbu hb).1 _ (List.mem_singleton.2 rfl)).len;refine ⟨a0.length+1,?_⟩;unfold zsn;rw [zb2];refine zjO a0 zi _ _ hl (fun i hi rec=>?_) (fun rec=>?_) (Nat.lt_succ_self _)
 ·simp only [zbv hi,zbg hi,zbq hi,zoQ,zpm,ziU,zb2,zcj,cT,cF,Bool.not_true]
 ·simp only [zbj,cF,zmq]
theorem zE0:Holds Tryz.prog 145 zn8:=zo zEv zbd zu zy (zC (by kernel_rfl)) fun avs rs hb h=>by
 unfold zn8 at h;split at h
 ·obtain ⟨hc,rfl⟩:=zl h;exact (fin2 zKH zNW hc hb :)
 ·cases h
def zoR (x y:List Kept):Bool:=pc (x=y)
def zpn (_ _:List Kept):Bool:=true
def zqs:List AV->Option (Bool×List AV)
 | [.one (.s .kept c),.one (.s .kept d)]=>some ((zoR c d),[.one (.b (zpn c d))])
 | _=>none
def zv3 (N:Nat)(a0 a1:List Kept):Option Ans :=
 (cond (ine (ln a0) (ln a1)) (some [(.one (.b false))]) (iter (σ:=(Int×((List Kept)×((List Kept)×Unit)))) N (fun r3 s4=>(cond (ilt s4.1 (ln s4.2.1)) (cond (inb s4.1 (ln s4.2.1)) (cond (inb s4.1 (ln s4.2.2.1)) (cond (zrx (ix s4.2.1 s4.1 zbD) (ix s4.2.2.1 s4.1 zbD)) (cond (cond (ztb (ix s4.2.1 s4.1 zbD) (ix s4.2.2.1 s4.1 zbD)) false true) (some [(.one (.b false))]) (r3 ((zq .i64 s4.1 1),(s4.2.1,(s4.2.2.1,()))))) none) none) none) (some [(.one (.b true))]))) (0,(a0,(a1,())))))
def zOo:FuncId->Nat->Option Tmpl:=zB [(146,0,{ n:=27,tm:=[(0,.sl 0 []),(1,.sl 1 []),(5,.i .i64)],lo:=[],ro:=[(0,.kept,false),(1,.kept,false)] })]
theorem zRq (N:Nat)(a0 a1:List Kept):evalFn (cQ zOG zbV zK zO) zOo N 12 146 [.one (.s .kept a0),.one (.s .kept a1)]=zv3 N a0 a1:=by kernel_rfl
theorem zNa (a0 a1:List Kept)(hb:zG big [.one (.s .kept a0),.one (.s .kept a1)])(hc:(zoR a0 a1)=true):∃N,zv3 N a0 a1=some [.one (.b (zpn a0 a1))]:=by
 have:=zJ.1 hc;subst this;have hl:=((zbu hb).1 _ (List.mem_singleton.2 rfl)).len;refine ⟨a0.length+1,?_⟩;unfold zv3;rw [zb2];refine zjO a0 zbD _ _ hl (fun i hi rec=>?_) (fun rec=>?_) (Nat.lt_succ_self _)
 ·simp only [zbv hi,zbg hi,zbq hi,zrx,ztb,ziU,zb2,zcj,cT,cF,Bool.not_true]
 ·simp only [zbj,cF,zpn]
theorem zGZ:Holds Tryz.prog 146 zqs:=zo zEv zbd zu zy (zC (by kernel_rfl)) fun avs rs hb h=>by
 unfold zqs at h;split at h
 ·obtain ⟨hc,rfl⟩:=zl h;exact (fin2 zNa zRq hc hb :)
 ·cases h
def zVT:zbQ:=[(145,zn8),(146,zqs)]++zOG
theorem zPd:zbw zVT:=zn zE0 (zn zGZ zEv)
def zu4 (x y:Mon):Bool:=pc (x=y)
def zxD (_ _:Mon):Bool:=true
def zwV:List AV->Option (Bool×List AV)
 | [.agg [.s .slot c,.s (.sl .int) d,.s .bool e,.s .guest f,.s .int g,.i .i64 h,.i .i64 j,.s .kept k,.i .i64 l],.agg [.s .slot m,.s (.sl .int) n,.s .bool o,.s .guest p,.s .int q,.i .i64 r,.i .i64 t,.s .kept u,.i .i64 v]]=>some ((zu4 (⟨c,d,e,f,g,h,j,k,l⟩:Mon) (⟨m,n,o,p,q,r,t,u,v⟩:Mon)),[.one (.b (zxD (⟨c,d,e,f,g,h,j,k,l⟩:Mon) (⟨m,n,o,p,q,r,t,u,v⟩:Mon)))])
 | _=>none
def zA0 (N:Nat)(a0 a1:Mon):Option Ans :=
 (cond (zfl a0.Outer a1.Outer) (cond (cond (zf9 a0.Outer a1.Outer) false true) (some [(.one (.b false))]) (cond (ziH a0.Out a1.Out) (cond (cond (zju a0.Out a1.Out) false true) (some [(.one (.b false))]) (cond (ziG a0.Dirty a1.Dirty) (cond (cond (zjr a0.Dirty a1.Dirty) false true) (some [(.one (.b false))]) (cond (zmr a0.Guests a1.Guests) (cond (cond (zmq a0.Guests a1.Guests) false true) (some [(.one (.b false))]) (cond (zg5 a0.Outs a1.Outs) (cond (cond (zh6 a0.Outs a1.Outs) false true) (some [(.one (.b false))]) (cond (ine a0.Pending a1.Pending) (some [(.one (.b false))]) (cond (ine a0.Traps a1.Traps) (some [(.one (.b false))]) (cond (zoR a0.Tables a1.Tables) (cond (cond (zpn a0.Tables a1.Tables) false true) (some [(.one (.b false))]) (cond (ine a0.Own a1.Own) (some [(.one (.b false))]) (some [(.one (.b true))]))) none)))) none)) none)) none)) none)) none)
theorem zWW (N:Nat)(a0 a1:Mon):evalFn (cQ zVT zbV zK zO) (zB []) N 12 69 [.agg (Ty.cells .mon a0),.agg (Ty.cells .mon a1)]=zA0 N a0 a1:=by kernel_rfl
theorem zS9 (a0 a1:Mon)(hb:zG big [.agg (Ty.cells .mon a0),.agg (Ty.cells .mon a1)])(hc:(zu4 a0 a1)=true):∃N,zA0 N a0 a1=some [.one (.b (zxD a0 a1))]:=by
 have:=zJ.1 hc;subst this;refine ⟨0,?_⟩;simp only [zA0,zfl,ziH,ziG,zmr,zg5,zoR,zf9,zju,zjr,zmq,zh6,zpn,ziU,zb2,zcj,cT,cF,Bool.not_true,zxD]
theorem zMC:Holds Tryz.prog 69 zwV:=zo zPd zbd zu zy (zC (by kernel_rfl)) fun avs rs hb h=>by
 unfold zwV at h;split at h
 ·obtain ⟨hc,rfl⟩:=zl h;exact (fin2 zS9 zWW hc hb :)
 ·cases h
def zVU:zbQ:=[(69,zwV)]++zVT
theorem zPe:zbw zVU:=zn zMC zPd
def zry (x y:List Mon):Bool:=pc (x=y)
def ztc (_ _:List Mon):Bool:=true
def ztS:List AV->Option (Bool×List AV)
 | [.one (.s .mon c),.one (.s .mon d)]=>some ((zry c d),[.one (.b (ztc c d))])
 | _=>none
def zyu (N:Nat)(a0 a1:List Mon):Option Ans :=
 (cond (ine (ln a0) (ln a1)) (some [(.one (.b false))]) (iter (σ:=(Int×((List Mon)×((List Mon)×Unit)))) N (fun r3 s4=>(cond (ilt s4.1 (ln s4.2.1)) (cond (inb s4.1 (ln s4.2.1)) (cond (inb s4.1 (ln s4.2.2.1)) (cond (zu4 (ix s4.2.1 s4.1 zf) (ix s4.2.2.1 s4.1 zf)) (cond (cond (zxD (ix s4.2.1 s4.1 zf) (ix s4.2.2.1 s4.1 zf)) false true) (some [(.one (.b false))]) (r3 ((zq .i64 s4.1 1),(s4.2.1,(s4.2.2.1,()))))) none) none) none) (some [(.one (.b true))]))) (0,(a0,(a1,())))))
def zSm:FuncId->Nat->Option Tmpl:=zB [(25,0,{ n:=27,tm:=[(0,.sl 0 []),(1,.sl 1 []),(5,.i .i64)],lo:=[],ro:=[(0,.mon,false),(1,.mon,false)] })]
theorem zTV (N:Nat)(a0 a1:List Mon):evalFn (cQ zVU zbV zK zO) zSm N 12 25 [.one (.s .mon a0),.one (.s .mon a1)]=zyu N a0 a1:=by kernel_rfl
theorem zQq (a0 a1:List Mon)(hb:zG big [.one (.s .mon a0),.one (.s .mon a1)])(hc:(zry a0 a1)=true):∃N,zyu N a0 a1=some [.one (.b (ztc a0 a1))]:=by
 have:=zJ.1 hc;subst this;have hl:=((zbu hb).1 _ (List.mem_singleton.2 rfl)).len;refine ⟨a0.length+1,?_⟩;unfold zyu;rw [zb2];refine zjO a0 zf _ _ hl (fun i hi rec=>?_) (fun rec=>?_) (Nat.lt_succ_self _)
 ·simp only [zbv hi,zbg hi,zbq hi,zu4,zxD,ziU,zb2,zcj,cT,cF,Bool.not_true]
 ·simp only [zbj,cF,ztc]
theorem zJK:Holds Tryz.prog 25 ztS:=zo zPe zbd zu zy (zC (by kernel_rfl)) fun avs rs hb h=>by
 unfold ztS at h;split at h
 ·obtain ⟨hc,rfl⟩:=zl h;exact (fin2 zQq zTV hc hb :)
 ·cases h
def zVV:zbQ:=[(25,ztS)]++zVU
theorem zPf:zbw zVV:=zn zJK zPe
def zh5 (x y:Host):Bool:=pc (x=y)
def zjt (_ _:Host):Bool:=true
def ztO:List AV->Option (Bool×List AV)
 | [.agg [.s (.sl .int) c,.s .mon d,.s .entry e,.s .entry f],.agg [.s (.sl .int) g,.s .mon h,.s .entry i,.s .entry j]]=>some ((zh5 (⟨c,d,e,f⟩:Host) (⟨g,h,i,j⟩:Host)),[.one (.b (zjt (⟨c,d,e,f⟩:Host) (⟨g,h,i,j⟩:Host)))])
 | _=>none
def zyq (N:Nat)(a0 a1:Host):Option Ans :=
 (cond (ziH a0.Memory a1.Memory) (cond (cond (zju a0.Memory a1.Memory) false true) (some [(.one (.b false))]) (cond (zry a0.Mons a1.Mons) (cond (cond (ztc a0.Mons a1.Mons) false true) (some [(.one (.b false))]) (cond (zjs a0.Buffer a1.Buffer) (cond (cond (zjY a0.Buffer a1.Buffer) false true) (some [(.one (.b false))]) (cond (zjs a0.IoBuffer a1.IoBuffer) (cond (cond (zjY a0.IoBuffer a1.IoBuffer) false true) (some [(.one (.b false))]) (some [(.one (.b true))])) none)) none)) none)) none)
theorem zTR (N:Nat)(a0 a1:Host):evalFn (cQ zVV zbV zK zO) (zB []) N 12 9 [.agg (zA a0),.agg (zA a1)]=zyq N a0 a1:=by kernel_rfl
theorem zQm (a0 a1:Host)(hb:zG big [.agg (zA a0),.agg (zA a1)])(hc:(zh5 a0 a1)=true):∃N,zyq N a0 a1=some [.one (.b (zjt a0 a1))]:=by
 have:=zJ.1 hc;subst this;refine ⟨0,?_⟩;simp only [zyq,ziH,zry,zjs,zju,ztc,zjY,ziU,zb2,zcj,cT,cF,Bool.not_true,zjt]
theorem zJG:Holds Tryz.prog 9 ztO:=zo zPf zbd zu zy (zC (by kernel_rfl)) fun avs rs hb h=>by
 unfold ztO at h;split at h
 ·obtain ⟨hc,rfl⟩:=zl h;exact (fin2 zQm zTR hc hb :)
 ·cases h
def zZ3:zbQ:=[(9,ztO)]++zVV
theorem zYW:zbw zZ3:=zn zJG zPf
def zED:zbQ:=zZ3
theorem zrV:∀f run,zx zED f=some run->Holds Tryz.prog f run:=zYW
def zZ (_ _ _:Int):Bool:=true
def zbe (x a b:Int):Bool:=ige x a&&ile x b
def zw7:List AV->Option (Bool×List AV)
 | [.one (.i .i64 c),.one (.i .i64 d),.one (.i .i64 e)]=>some ((zZ c d e),[.one (.b (zbe c d e))])
 | _=>none
def zBb (N:Nat)(a0 a1 a2:Int):Option Ans :=
 (cond (ige a0 a1) (some [(.one (.b (ile a0 a2)))]) (some [(.one (.b false))]))
theorem zW8 (N:Nat)(a0 a1 a2:Int):evalFn (cQ zED zbV zK zO) (zB []) N 12 88 [.one (.i .i64 a0),.one (.i .i64 a1),.one (.i .i64 a2)]=zBb N a0 a1 a2:=by kernel_rfl
theorem zTl (a0 a1 a2:Int)(hb:zG big [.one (.i .i64 a0),.one (.i .i64 a1),.one (.i .i64 a2)])(hc:(zZ a0 a1 a2)=true):∃N,zBb N a0 a1 a2=some [.one (.b (zbe a0 a1 a2))]:=by
 refine ⟨0,?_⟩;unfold zBb zbe;cases ige a0 a1<;>rfl
theorem zMO:Holds Tryz.prog 88 zw7:=zo zrV zbd zu zy (zC (by kernel_rfl)) fun avs rs hb h=>by
 unfold zw7 at h;split at h
 ·obtain ⟨hc,rfl⟩:=zl h;exact (zd3 zTl zW8 hc hb :)
 ·cases h
def zcz (_ _:Int):Bool:=true
@[reducible] def zcS (i n:Int):Bool:=hasB i n
def zBV:List AV->Option (Bool×List AV)
 | [.one (.i .i64 c),.one (.i .i64 d)]=>some ((zcz c d),[.one (.b (zcS c d))])
 | _=>none
def zIV (N:Nat)(a0 a1:Int):Option Ans :=
 (cond (ige a0 0) (some [(.one (.b (ilt a0 a1)))]) (some [(.one (.b false))]))
theorem zZD (N:Nat)(a0 a1:Int):evalFn (cQ zED zbV zK zO) (zB []) N 12 52 [.one (.i .i64 a0),.one (.i .i64 a1)]=zIV N a0 a1:=by kernel_rfl
theorem zX4 (a0 a1:Int)(hb:zG big [.one (.i .i64 a0),.one (.i .i64 a1)])(hc:(zcz a0 a1)=true):∃N,zIV N a0 a1=some [.one (.b (zcS a0 a1))]:=by
 refine ⟨0,?_⟩;unfold zIV zcS;rw [<- has_eq];cases ige a0 0<;>rfl
theorem zSV:Holds Tryz.prog 52 zBV:=zo zrV zbd zu zy (zC (by kernel_rfl)) fun avs rs hb h=>by
 unfold zBV at h;split at h
 ·obtain ⟨hc,rfl⟩:=zl h;exact (fin2 zX4 zZD hc hb :)
 ·cases h
theorem zL6 {n:Nat}(hn:n<=big)(i:Int):zbe i 0 (wsub .i64 (n:Int) 1)=hasB i n:=by
 rw [zxl] at hn;rw [zoE (by omega) (by omega)]
 unfold zbe ige ile hasB
 by_cases h1:0<=i<;>by_cases h2:i<n
 ·rw [decide_eq_true (p:=i≥0) (by omega),decide_eq_true (p:=i<=(n:Int)-1) (by omega),decide_eq_true (p:=0<=i/\i<(n:Int)) ⟨h1,h2⟩];rfl
 ·rw [decide_eq_false (p:=i<=(n:Int)-1) (by omega),decide_eq_false (p:=0<=i/\i<(n:Int)) (by omega)];simp
 ·rw [decide_eq_false (p:=i≥0) (by omega),decide_eq_false (p:=0<=i/\i<(n:Int)) (by omega)];simp
 ·rw [decide_eq_false (p:=i≥0) (by omega),decide_eq_false (p:=0<=i/\i<(n:Int)) (by omega)];simp
def zgi (l:List (List Int)):Bool:=pc (CVB sm (.s (.sl .int) l))
@[reducible] def zdf (l:List (List Int)):List (List Int):=l
def zqQ:List AV->Option (Bool×List AV)
 | [.one (.s (.sl .int) b)]=>some ((zgi b),[.one (.s (.sl .int) (zdf b))])
 | _=>none
def zwp (N:Nat)(a0:List (List Int)):Option Ans :=
 (iter (σ:=(Int×((List (List Int))×((List (List Int))×Unit)))) N (fun r2 s3=>(cond (ilt s3.1 (ln s3.2.1)) (cond (inb s3.1 (ln s3.2.1)) (cond (few (ln (ap [] (ix s3.2.1 s3.1 [])))) (cond (few (ln (ap s3.2.2.1 [(ap [] (ix s3.2.1 s3.1 []))]))) (r2 ((zq .i64 s3.1 1),(s3.2.1,((ap s3.2.2.1 [(ap [] (ix s3.2.1 s3.1 []))]),())))) none) none) none) (some [(.one (.s (.sl .int) s3.2.2.1))]))) (0,(a0,([],()))))
def zOx:FuncId->Nat->Option Tmpl:=zB [(37,0,{ n:=22,tm:=[(0,.sl 0 []),(3,.sl 1 []),(4,.i .i64)],lo:=[],ro:=[(0,(.sl .int),false),(1,(.sl .int),true)] })]
theorem zRN (N:Nat)(a0:List (List Int)):evalFn (cQ zED zbV zK zO) zOx N 12 37 [.one (.s (.sl .int) a0)]=zwp N a0:=by kernel_rfl
theorem zNx (a0:List (List Int))(hb:zG big [.one (.s (.sl .int) a0)])(hc:(zgi a0)=true):∃N,zwp N a0=some [.one (.s (.sl .int) (zdf a0))]:=by
 have hs:=zJ.1 hc;have hl:=zcA hs.len;refine ⟨a0.length+1,?_⟩;unfold zwp;refine (zbF a0 (fun i acc=>((i:Int),(a0,(acc,())))) _ (fun _ x acc k=>bif few (ln x) then (cond (few (ln (ap acc [x]))) (k (ap acc [x])) none) else none) (fun acc=>some [AV.one (.s (.sl .int) acc)])
  (fun i hi t rec=>?_) (fun t rec=>?_) _ [] (Nat.lt_succ_self _)).trans ((zhX (fun x=>few (ln x)) (fun x=>x) _ a0 0 [] (fun x hx=>⟨zeo (zcA (hs.inv.2 x hx _ (List.mem_singleton.2 rfl)).len).2,rfl⟩) (by simpa using hl.2)))
 ·simp only [zbv hi,zbg hi,zbq hi,cT,zbf hi hl.1,zkt]
 ·simp only [zbj,cF]
theorem zHm:Holds Tryz.prog 37 zqQ:=zo zrV zbd zu zy (zC (by kernel_rfl)) fun avs rs hb h=>by
 unfold zqQ at h;split at h
 ·obtain ⟨hc,rfl⟩:=zl h;exact (fin1 zNx zRN hc hb :)
 ·cases h
@[reducible] def zgj (k:Kept):Bool:=pc (∀c∈Ty.cells .kept k,CVB sm c)
@[reducible] def zcc (k:Kept):Kept:=k
def zqR:List AV->Option (Bool×List AV)
 | [.agg [.s .bool b,.s .slot c]]=>some ((zgj (⟨b,c⟩:Kept)),[.agg (Ty.cells .kept (zcc (⟨b,c⟩:Kept)))])
 | _=>none
def zwq (N:Nat)(a0:Kept):Option Ans :=
 (cond (few (ln (ap [] a0.Known))) (cond (few (ln (ap [] a0.Slots))) (some [(.agg [(.s .bool (ap [] a0.Known)),(.s .slot (ap [] a0.Slots))])]) none) none)
theorem zRO (N:Nat)(a0:Kept):evalFn (cQ zED zbV zK zO) (zB []) N 12 86 [.agg (Ty.cells .kept a0)]=zwq N a0:=by kernel_rfl
theorem zNy (a0:Kept)(hb:zG big [.agg (Ty.cells .kept a0)])(hc:(zgj a0)=true):∃N,zwq N a0=some [.agg (Ty.cells .kept (zcc a0))]:=by
 have h:=zJ.1 hc;have h1:=zl8 (h (.s .bool a0.Known) (by simp [Ty.cells]))
 have h2:=zl8 (h (.s .slot a0.Slots) (by simp [Ty.cells]))
 refine ⟨0,?_⟩;simp only [zwq,zkt,h1,h2,cT];rfl
theorem zHn:Holds Tryz.prog 86 zqR:=zo zrV zbd zu zy (zC (by kernel_rfl)) fun avs rs hb h=>by
 unfold zqR at h;split at h
 ·obtain ⟨hc,rfl⟩:=zl h;exact (fin1 zNy zRO hc hb :)
 ·cases h
def zc8 (g:Guest):Bool:=pc (∀c∈Ty.cells .guest g,CVB sm c)
@[reducible] def zcy (g:Guest):Guest:=g
def zqS:List AV->Option (Bool×List AV)
 | [.agg [.s .ins c,.i .i64 d,.i .i64 e,.s .slot f,.s .slot g,.i .i64 h,.i .i64 j,.b k,.i .i64 l,.i .i64 m,.i .i64 n,.b o,.i .i64 p,.b q,.s .int r]]=>some ((zc8 (⟨c,d,e,f,g,⟨h,j,k⟩,l,⟨m,n,o,p⟩,q,r⟩:Guest)),[.agg (Ty.cells .guest (zcy (⟨c,d,e,f,g,⟨h,j,k⟩,l,⟨m,n,o,p⟩,q,r⟩:Guest)))])
 | _=>none
def zwr (N:Nat)(a0:Guest):Option Ans :=
 (cond (few (ln (ap [] a0.Prog))) (cond (few (ln (ap [] a0.Written))) (cond (few (ln (ap [] a0.Live))) (cond (few (ln (ap [] a0.Seen))) (some [(.agg [(.s .ins (ap [] a0.Prog)),(.i .i64 a0.A),(.i .i64 a0.Pc),(.s .slot (ap [] a0.Written)),(.s .slot (ap [] a0.Live)),(.i .i64 a0.Ctl.Traps),(.i .i64 a0.Ctl.Post),(.b a0.Ctl.Open),(.i .i64 a0.Pending),(.i .i64 a0.Exit.Kind),(.i .i64 a0.Exit.Page),(.b a0.Exit.Write),(.i .i64 a0.Exit.N),(.b a0.Halted),(.s .int (ap [] a0.Seen))])]) none) none) none) none)
theorem zRP (N:Nat)(a0:Guest):evalFn (cQ zED zbV zK zO) (zB []) N 12 92 [.agg (Ty.cells .guest a0)]=zwr N a0:=by kernel_rfl
theorem zNz (a0:Guest)(hb:zG big [.agg (Ty.cells .guest a0)])(hc:(zc8 a0)=true):∃N,zwr N a0=some [.agg (Ty.cells .guest (zcy a0))]:=by
 have h:=zJ.1 hc;have h1:=zl8 (h (.s .ins a0.Prog) (by simp [Ty.cells]))
 have h2:=zl8 (h (.s .slot a0.Written) (by simp [Ty.cells]))
 have h3:=zl8 (h (.s .slot a0.Live) (by simp [Ty.cells]))
 have h4:=zl8 (h (.s .int a0.Seen) (by simp [Ty.cells]))
 refine ⟨0,?_⟩;simp only [zwr,zkt,h1,h2,h3,h4,cT];rfl
theorem zHo:Holds Tryz.prog 92 zqS:=zo zrV zbd zu zy (zC (by kernel_rfl)) fun avs rs hb h=>by
 unfold zqS at h;split at h
 ·obtain ⟨hc,rfl⟩:=zl h;exact (fin1 zNz zRP hc hb :)
 ·cases h
def zVX:zbQ:=[(88,zw7),(52,zBV),(37,zqQ),(86,zqR),(92,zqS)]++zED
theorem zPh:zbw zVX:=zn zMO (zn zSV (zn zHm (zn zHn (zn zHo zrV))))
def zit (l:List Guest):Bool:=pc (CVB sm (.s .guest l))
@[reducible] def zkH (l:List Guest):List Guest:=l
def znb:List AV->Option (Bool×List AV)
 | [.one (.s .guest b)]=>some ((zit b),[.one (.s .guest (zkH b))])
 | _=>none
def zp0 (N:Nat)(a0:List Guest):Option Ans :=
 (iter (σ:=(Int×((List Guest)×((List Guest)×Unit)))) N (fun r2 s3=>(cond (ilt s3.1 (ln s3.2.1)) (cond (inb s3.1 (ln s3.2.1)) (cond (zc8 (ix s3.2.1 s3.1 zi)) (cond (few (ln (ap s3.2.2.1 [(zcy (ix s3.2.1 s3.1 zi))]))) (r2 ((zq .i64 s3.1 1),(s3.2.1,((ap s3.2.2.1 [(zcy (ix s3.2.1 s3.1 zi))]),())))) none) none) none) (some [(.one (.s .guest s3.2.2.1))]))) (0,(a0,([],()))))
def zIR:FuncId->Nat->Option Tmpl:=zB [(85,0,{ n:=21,tm:=[(0,.sl 0 []),(3,.sl 1 []),(4,.i .i64)],lo:=[],ro:=[(0,.guest,false),(1,.guest,true)] })]
theorem zLu (N:Nat)(a0:List Guest):evalFn (cQ zVX zbV zK zO) zIR N 12 85 [.one (.s .guest a0)]=zp0 N a0:=by kernel_rfl
theorem zH4 (a0:List Guest)(hb:zG big [.one (.s .guest a0)])(hc:(zit a0)=true):∃N,zp0 N a0=some [.one (.s .guest (zkH a0))]:=by
 have hs:=zJ.1 hc;have hl:=zcA hs.len;refine ⟨a0.length+1,?_⟩;unfold zp0;refine (zbF a0 (fun i acc=>((i:Int),(a0,(acc,())))) _ (fun _ x acc k=>bif zc8 x then (cond (few (ln (ap acc [zcy x]))) (k (ap acc [zcy x])) none) else none) (fun acc=>some [AV.one (.s .guest acc)])
  (fun i hi t rec=>?_) (fun t rec=>?_) _ [] (Nat.lt_succ_self _)).trans ((zhX zc8 zcy _ a0 0 [] (fun x hx=>⟨zU (hs.inv.2 x hx),rfl⟩) (by simpa using hl.2)))
 ·simp only [zbv hi,zbg hi,zbq hi,cT,zbf hi hl.1]
 ·simp only [zbj,cF]
theorem zDs:Holds Tryz.prog 85 znb:=zo zPh zbd zu zy (zC (by kernel_rfl)) fun avs rs hb h=>by
 unfold znb at h;split at h
 ·obtain ⟨hc,rfl⟩:=zl h;exact (fin1 zH4 zLu hc hb :)
 ·cases h
def zVY:zbQ:=[(85,znb)]++zVX
theorem zPi:zbw zVY:=zn zDs zPh
@[reducible] def znl (m:Mon):Bool:=pc (∀c∈Ty.cells .mon m,CVB sm c)
@[reducible] def zlm (m:Mon):Mon:=m
def zuv:List AV->Option (Bool×List AV)
 | [.agg [.s .slot b,.s (.sl .int) c,.s .bool d,.s .guest e,.s .int f,.i .i64 g,.i .i64 h,.s .kept j,.i .i64 k]]=>some ((znl (⟨b,c,d,e,f,g,h,j,k⟩:Mon)),[.agg (Ty.cells .mon (zlm (⟨b,c,d,e,f,g,h,j,k⟩:Mon)))])
 | _=>none
def zy1 (N:Nat)(a0:Mon):Option Ans :=
 (cond (few (ln (ap [] a0.Outer))) (cond (zgi a0.Out) (cond (few (ln (ap [] a0.Dirty))) (cond (zit a0.Guests) (cond (few (ln (ap [] a0.Outs))) (iter (σ:=(Int×(Int×(Int×(Int×(Int×(Int×(Int×((List Kept)×((List Slot)×((List (List Int))×((List Bool)×((List Guest)×((List Int)×((List Kept)×((List Slot)×((List (List Int))×((List Bool)×((List Guest)×((List Int)×((List Kept)×Unit))))))))))))))))))))) N (fun r2 s3=>(cond (ilt s3.1 (ln s3.2.2.2.2.2.2.2.2.2.2.2.2.2.1)) (cond (inb s3.1 (ln s3.2.2.2.2.2.2.2.2.2.2.2.2.2.1)) (cond (zgj (ix s3.2.2.2.2.2.2.2.2.2.2.2.2.2.1 s3.1 zbD)) (cond (few (ln (ap s3.2.2.2.2.2.2.2.1 [(zcc (ix s3.2.2.2.2.2.2.2.2.2.2.2.2.2.1 s3.1 zbD))]))) (r2 ((zq .i64 s3.1 1),(s3.2.1,(s3.2.2.1,(s3.2.2.2.1,(s3.2.2.2.2.1,(s3.2.2.2.2.2.1,(s3.2.2.2.2.2.2.1,((ap s3.2.2.2.2.2.2.2.1 [(zcc (ix s3.2.2.2.2.2.2.2.2.2.2.2.2.2.1 s3.1 zbD))]),(s3.2.2.2.2.2.2.2.2.1,(s3.2.2.2.2.2.2.2.2.2.1,(s3.2.2.2.2.2.2.2.2.2.2.1,(s3.2.2.2.2.2.2.2.2.2.2.2.1,(s3.2.2.2.2.2.2.2.2.2.2.2.2.1,(s3.2.2.2.2.2.2.2.2.2.2.2.2.2.1,(s3.2.2.2.2.2.2.2.2.2.2.2.2.2.2.1,(s3.2.2.2.2.2.2.2.2.2.2.2.2.2.2.2.1,(s3.2.2.2.2.2.2.2.2.2.2.2.2.2.2.2.2.1,(s3.2.2.2.2.2.2.2.2.2.2.2.2.2.2.2.2.2.1,(s3.2.2.2.2.2.2.2.2.2.2.2.2.2.2.2.2.2.2.1,(s3.2.2.2.2.2.2.2.2.2.2.2.2.2.2.2.2.2.2.2.1,()))))))))))))))))))))) none) none) none) (some [(.agg [(.s .slot s3.2.2.2.2.2.2.2.2.1),(.s (.sl .int) s3.2.2.2.2.2.2.2.2.2.1),(.s .bool s3.2.2.2.2.2.2.2.2.2.2.1),(.s .guest s3.2.2.2.2.2.2.2.2.2.2.2.1),(.s .int s3.2.2.2.2.2.2.2.2.2.2.2.2.1),(.i .i64 s3.2.1),(.i .i64 s3.2.2.1),(.s .kept s3.2.2.2.2.2.2.2.1),(.i .i64 s3.2.2.2.1)])]))) (0,(a0.Pending,(a0.Traps,(a0.Own,(0,(0,(0,([],((ap [] a0.Outer),((zdf a0.Out),((ap [] a0.Dirty),((zkH a0.Guests),((ap [] a0.Outs),(a0.Tables,([],([],([],([],([],([],()))))))))))))))))))))) none) none) none) none) none)
def zSx:FuncId->Nat->Option Tmpl:=zB [(38,0,{ n:=48,tm:=[(1,.lp 0 0),(2,.lp 1 0),(3,.sl 0 []),(4,.i .i64)],lo:=[(0,[.sl 1 [],.sl 2 [],.sl 3 [],.sl 4 [],.sl 5 [],.i .i64,.i .i64,.sl 6 [],.i .i64]),(1,[.sl 7 [],.sl 8 [],.sl 9 [],.sl 10 [],.sl 11 [],.i .i64,.i .i64,.sl 12 [],.i .i64])],ro:=[(0,.kept,true),(1,.slot,true),(2,(.sl .int),true),(3,.bool,true),(4,.guest,true),(5,.int,true),(6,.kept,false),(7,.slot,true),(8,(.sl .int),true),(9,.bool,true),(10,.guest,true),(11,.int,true),(12,.kept,true)] })]
theorem zUv (N:Nat)(a0:Mon):evalFn (cQ zVY zbV zK zO) zSx N 12 38 [.agg (Ty.cells .mon a0)]=zy1 N a0:=by kernel_rfl
theorem zQ0 (a0:Mon)(hb:zG big [.agg (Ty.cells .mon a0)])(hc:(znl a0)=true):∃N,zy1 N a0=some [.agg (Ty.cells .mon (zlm a0))]:=by
 have h:=zJ.1 hc;have h1:=zl8 (h (.s .slot a0.Outer) (by simp [Ty.cells]))
 have h2:zgi a0.Out=true:=zU (h (.s (.sl .int) a0.Out) (by simp [Ty.cells]))
 have h3:=zl8 (h (.s .bool a0.Dirty) (by simp [Ty.cells]))
 have h4:zit a0.Guests=true:=zU (h (.s .guest a0.Guests) (by simp [Ty.cells]))
 have h5:=zl8 (h (.s .int a0.Outs) (by simp [Ty.cells]))
 have h6:CVB sm (.s .kept a0.Tables):=h (.s .kept a0.Tables) (by simp [Ty.cells])
 have hl:=zcA h6.len;refine ⟨a0.Tables.length+1,?_⟩;unfold zy1;simp only [zkt,h1,h2,h3,h4,h5,cT];refine (zbF a0.Tables (fun i acc=>((i:Int),a0.Pending,a0.Traps,a0.Own,0,0,0,acc,a0.Outer,zdf a0.Out,a0.Dirty,zkH a0.Guests,a0.Outs,a0.Tables,[],[],[],[],[],[],())) _
  (fun _ x acc k=>bif zgj x then (cond (few (ln (ap acc [zcc x]))) (k (ap acc [zcc x])) none) else none) (fun acc=>some [AV.agg (Ty.cells .mon ⟨a0.Outer,a0.Out,a0.Dirty,a0.Guests,a0.Outs,a0.Pending,a0.Traps,acc,a0.Own⟩)])
  (fun i hi t rec=>?_) (fun t rec=>?_) _ [] (Nat.lt_succ_self _)).trans ((zhX zgj zcc _ a0.Tables 0 [] (fun x hx=>⟨zU (h6.inv.2 x hx),rfl⟩) (by simpa using hl.2)))
 ·simp only [zbv hi,zbg hi,zbq hi,cT,zbf hi hl.1]
 ·simp only [zbj,cF];rfl
theorem zKj:Holds Tryz.prog 38 zuv:=zo zPi zbd zu zy (zC (by kernel_rfl)) fun avs rs hb h=>by
 unfold zuv at h;split at h
 ·obtain ⟨hc,rfl⟩:=zl h;exact (fin1 zQ0 zUv hc hb :)
 ·cases h
def zZ4:zbQ:=[(38,zuv)]++zVY
theorem zY0:zbw zZ4:=zn zKj zPi
def zZ5:zbQ:=zZ4
theorem zY1:∀f run,zx zZ5 f=some run->Holds Tryz.prog f run:=zY0
def zZ6:zbQ:=zZ5
theorem zY2:∀f run,zx zZ6 f=some run->Holds Tryz.prog f run:=zY1
def zEE:zbQ:=zZ6
theorem zrW:∀f run,zx zEE f=some run->Holds Tryz.prog f run:=zY2
theorem zXv {h:Host}{n:Int}(h0:0<=n)(h1:n<=1048576)(hp:ilt (zfc h n) 0=false):zea h/\0<=zfc h n/\zfc h n<=1048576:=by
 have hp':¬ zfc h n<0:=of_decide_eq_false hp;obtain ⟨a,b⟩:=zWC h n h0 h1;exact ⟨b (by omega),by omega,by omega⟩
theorem zYI (h:Host):zrA h 1048576=true:=zU (by omega)
theorem zSz {h:Host}(hs:zea h):zh7 h=true:=zU hs
theorem zZk (h:Host):zh5 h h=true:=zU rfl
theorem zMl (h:Host):zY h=h:=rfl
theorem zZl (h:Host):zjt h h=true:=rfl
end
end Go.Proofs.YtdmheolglokabaaGreat.E
