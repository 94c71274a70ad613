/- What is proved here: a part of the proof that the statement of this claim holds (several texts of wip/, laid together). -/
import Derived.Test.YtnnmbkjhakbicaaGreatW1
namespace Go.Proofs.YtnnmbkjhakbicaaGreat.E
open Go
set_option linter.unusedVariables false
set_option maxRecDepth 100000
set_option linter.unusedSimpArgs false
set_option linter.unusedSectionVars false
noncomputable section
def zch (o:Bool)(w:World)(cvs:List CV)(xs:List Value)(K:Nat->zI):Prop :=
 xs.length=cvs.length/\∀(i:Nat) (c:CV) (x:Value),cvs[i]?=some c->xs[i]?=some x->Rep o w x c (K i)
def zkG (f:FuncId):CV->Bool
 | .s t _=>zbG f t
 | _=>true
def zpA (o:CV->Bool)(w:World)(cvs:List CV)(xs:List Value)(K:Nat->zI):Prop :=
 xs.length=cvs.length/\∀(i:Nat) (c:CV) (x:Value),cvs[i]?=some c->xs[i]?=some x->Rep (o c) w x c (K i)
theorem zch.o {o:CV->Bool}{w:World}{cvs:List CV}{xs:List Value}{K:Nat->zI}(h:zch true w cvs xs K):zpA o w cvs xs K :=
 ⟨h.1,fun i c x hc hx=>by cases o c;exact (h.2 i c x hc hx).ro;exact h.2 i c x hc hx⟩
def zk (rs:List AV):List CV:=rs.flatMap AV.cvs
def zbj:List AV->List Value->List Value
 | [],_=>[]
 | .one _ :: r,xs=>xs.headD undef :: zbj r (xs.drop 1)
 | .agg cs :: r,xs=>.agg (xs.take cs.length).toArray :: zbj r (xs.drop cs.length)
def zgL:List Value->Value
 | [x]=>x
 | l=>.tuple l.toArray
structure Grown (w w':World):Prop where
 os:w'.os=w.os
 tape:w'.tape=w.tape
 output:w'.output=w.output
 size:w.heap.size<=w'.heap.size
 keep:∀b,b<w.heap.size->w'.heap[b]?=w.heap[b]?
structure FnOk (P:Program) (f:FuncId):Prop where
 ok:∃fn b,P.funcs[f]?=some fn/\fn.body=some b/\(fn.name == "runtime.NumGoroutine")=false
structure Fresh (w w':World) (n:Nat) (K:Nat->zI):Prop where
 lt:∀i x,i<n->K i x->w.heap.size<=x/\x<w'.heap.size
 dis:∀i j x,i<n->j<n->K i x->K j x->i=j
structure FreshO (o:CV->Bool) (w w':World) (cvs:List CV) (K:Nat->zI):Prop where
 lt:∀i x,i<cvs.length->K i x->w.heap.size<=x/\x<w'.heap.size
 dis:∀i j c x,cvs[i]?=some c->o c=true->j<cvs.length->K i x->K j x->i=j
theorem Fresh.o {o:CV->Bool}{w w':World}{cvs:List CV}{K:Nat->zI}(h:Fresh w w' cvs.length K):FreshO o w w' cvs K :=
 ⟨h.lt,fun i j c x hc _ hj hx hx'=>h.dis i j x (qA.1 hc).1 hj hx hx'⟩
def Holds (P:Program)(f:FuncId)(run:List AV->Option (Bool×List AV)):Prop :=
 FnOk P f/\∀(w:World) (avs:List AV) (xs:List Value) (rs:List AV),zch false w (zk avs) xs (fun _ b=>b<w.heap.size)->run avs=some (true,rs) ->
  Calls P f (zbj avs xs).toArray w fun
   | .returned v,w'=>Grown w w'/\∃(ys:List Value) (K:Nat->zI),zpA (zkG f) w' (zk rs) ys K/\v=zgL (zbj rs ys)/\FreshO (zkG f) w w' (zk rs) K
   | _,_=>False
def zFS (P:Program)(f:FuncId)(run:List AV->Option (Bool×List AV)):Prop :=
 FnOk P f/\∀(w:World) (avs:List AV) (xs:List Value) (rs:List AV),zch false w (zk avs) xs (fun _ b=>b<w.heap.size)->run avs=some (true,rs) ->
  Calls P f (zbj avs xs).toArray w fun
   | .returned v,w'=>Grown w w'/\∃(ys:List Value),zch true w' (zk rs) ys (fun _ _=>False)/\v=zgL ((zbj avs xs).headD undef :: zbj rs ys)
   | _,_=>False
def zzj (P:Program)(f:FuncId)(run:CV->Int->Option (Bool×CV×Int)):Prop :=
 FnOk P f/\∀(w:World) (v:Value) (t:Ty) (l:List t.den) (k:Int) (S:zI) (c':CV) (k':Int),Rep true w v (.s t l) S->(∀x,S x->x<w.heap.size)->run (.s t l) k=some (true,c',k') ->
  Calls P f #[v,.int .i64 k] w fun
   | .returned u,w'=>w'.os=w.os/\w'.tape=w.tape/\w'.output=w.output/\w.heap.size<=w'.heap.size/\(∀b,b<w.heap.size->¬ S b->w'.heap[b]?=w.heap[b]?)/\u = .int .i64 k' /\
    ∃S':zI,Rep true w' v c' S'/\∀x,S' x->(S x\/w.heap.size<=x)/\x<w'.heap.size
   | _,_=>False
section
variable {C:Cfg} {w0 w w1:World} {S0:zI} {U:Nat->Prop} {st st1:St} {E E1:Env} {ts:Array Value} {sv:List (Array Value)}
theorem zch.append {o:Bool}{c1 c2:List CV}{x1 x2:List Value}{K:Nat->zI}(h1:zch o w c1 x1 K)(h2:zch o w c2 x2 (fun i=>K (c1.length+i))):zch o w (c1++c2) (x1++x2) K:=by
 refine ⟨by simp[h1.1,h2.1],fun i c x hc hx=>?_⟩
 by_cases hi:i<c1.length
 .rw [qT hi]at hc;rw[qT (by rw[h1.1];exact hi)]at hx
  exact h1.2 i c x hc hx
 .rw [qQ (by omega)]at hc
  rw[qQ (by rw[h1.1];omega),h1.1]at hx
  have:=h2.2 _ c x hc hx;have e:c1.length+(i-c1.length)=i:=by omega
  simp only at this;rw[e] at this;exact this
theorem zmA (hS:Sim w0 S0 U st E ts sv w){a:At}{u:Value}{c:CV}(hc:st.cvOf a=some c)(hu:VA w st E a u):Rep false w u c (fun b=>b<w.heap.size)/\u.oneCell'=true:=by
 cases a with
 | i k n=>cases hc;cases hu;exact ⟨.i _ _ _,rfl⟩
 | b x=>cases hc;cases hu;exact ⟨.b _ _,rfl⟩
 | sl r p =>
  simp only[St.cvOf]at hc;obtain ⟨R,hR,hg⟩:=zdf hc;obtain ⟨t',l',S',h1,h2,h3,h4⟩:=Rep.at p (hS.mem.rep r R hR) (hu.2 R hR);rw[hg]at h1;cases h1;exact ⟨(h3.weak (fun x hx=>hS.mem.rlt r R hR x (h4 x hx))).ro,h3.one⟩
 | bad=>cases hc
 | lp l off=>cases hc
 | ep r p i off=>cases hc
 | fn f caps=>cases hc
 | kp r J t=>cases hc
theorem zqN (hS:Sim w0 S0 U st E ts sv w):∀(l:List Operand) (avs:List AV),zbw (fun x=>match st.opnd x with|some v=>st.avOf v|none=>none) l=some avs ->
 ∃xs,zch false w (zk avs) xs (fun _ b=>b<w.heap.size)/\l.map ({ tmps:=ts,defers:=[] }:Act).eval=zbj avs xs
 | [],avs,h=>by
  cases h;exact ⟨[],⟨rfl,fun i c x h=>by simp[zk]at h⟩,rfl⟩
 | x :: r,avs,h=>by
  simp only[zbw]at h;split at h
  .rename_i av hav;split at h
   .rename_i avs' hr;cases h;obtain ⟨xs,hxs,hm⟩:=zqN hS r avs' hr;split at hav
    .rename_i mv hmv;obtain ⟨hv,-⟩:=zbk hS hmv;unfold St.avOf at hav;split at hav
     .rename_i a;split at hav
      .rename_i c hc;cases hav;obtain ⟨h1,h2⟩:=zmA hS hc hv;refine ⟨({ tmps:=ts,defers:=[] }:Act).eval x :: xs,?_,by simp[zbj,hm]⟩
       have e:zk (AV.one c :: avs')=[c]++zk avs':=by simp[zk,AV.cvs]
       rw[e];refine zch.append (x1:=[({ tmps:=ts,defers:=[] }:Act).eval x]) ⟨rfl,fun i c' u hc' hu=>?_⟩ hxs;cases i with
       | zero=>simp at hc' hu;subst hc' hu;exact h1
       | succ i=>simp at hc'
      .cases hav
     .rename_i l;split at hav
      .rename_i cs hcs;cases hav;obtain ⟨vs,hvs,hsz,hvv⟩:=hv;obtain ⟨hl,hf⟩:=zgG hcs;have hlen:vs.toList.length=cs.length:=by simp[hsz,hl]
       refine ⟨vs.toList++xs,?_,?_⟩
       .have e:zk (AV.agg cs :: avs')=cs++zk avs':=by simp[zk,AV.cvs]
        rw[e];refine zch.append ⟨hlen,fun i c' u hc' hu=>?_⟩ hxs;have hi:i<l.length:=by rw[hl];exact (qA.1 hc').1
        have ha:=qB hi;exact (zmA hS (hf i _ _ ha hc') (hvv i _ u ha (by simpa using hu)).2).1
       .simp only [jG,zbj,hvs,<- hlen,kM,kR,hm,jM]
      .cases hav
     .cases hav
    .cases hav
   .cases h
  .cases h
def zp4 (n:Nat):CV->At
 | .i k x=>.i k x
 | .b x=>.b x
 | .s _ _=>.sl n []
theorem znJ:∀(cs:List CV) (id k:Nat),(zem cs id)[k]?=cs[k]?.map (zp4 (id+k))
 | [],id,k=>by simp[zem]
 | c :: cs,id,k=>by
  have e:zem (c :: cs) id=zp4 id c :: zem cs (id+1):=by cases c<;>rfl
  rw[e];cases k with
  | zero=>simp
  | succ k =>
   simp only[jI];rw[znJ cs (id+1) k]
   congr 2
   omega
theorem zro:∀(cs:List CV) (id:Nat),(zem cs id).length=cs.length
 | [],_=>rfl
 | c :: cs,id=>by cases c<;>simp [zem,zro cs (id+1)]
theorem zHB (own:Ty->Bool):∀(cs:List CV) (id n:Nat) (R:Root),zf (zye own cs id) n=some R->id<=n/\∃t l,cs[n-id]?=some (.s t l)/\R=⟨t,l,own t,none⟩
 | [],_,_,_,h=>by cases h
 | c :: cs,id,n,R,h=>by
  have hr:zf (zye own cs (id+1)) n=some R->id<=n/\∃t l,(c :: cs)[n-id]?=some (.s t l)/\R=⟨t,l,own t,none⟩:=fun h=>by
   obtain ⟨h1,t,l,h2,h3⟩:=zHB own cs (id+1) n R h;have e:n-id=(n-(id+1))+1:=by omega
   exact ⟨by omega,t,l,by rw[e,jI];exact h2,h3⟩
  cases c with
  | i k x=>exact hr h
  | b x=>exact hr h
  | s t l =>
   simp only[zye,zf]at h;split at h
   .rename_i he;simp only[qH]at he;subst he;cases h;exact ⟨qV _,t,l,by simp,rfl⟩
   .exact hr h
theorem zdd (own:Ty->Bool):∀(rs:List AV) (id n:Nat) (R:Root),zf (zbO own rs id) n=some R->id<=n/\∃t l,(zk rs)[n-id]?=some (.s t l)/\R=⟨t,l,own t,none⟩
 | [],_,_,_,h=>by cases h
 | x :: rs,id,n,R,h=>by
  have e:zk (x :: rs)=x.cvs++zk rs:=by simp[zk]
  have h:zf (zye own x.cvs id++zbO own rs (id+x.cvs.length)) n=some R:=h;rw[zba]at h;rw[e];split at h
  .rename_i Q hQ;cases h;obtain ⟨h1,t,l,h2,h3⟩:=zHB own x.cvs id n R hQ;refine ⟨h1,t,l,?_,h3⟩;rw[qT (qA.1 h2).1];exact h2
  .obtain ⟨h1,t,l,h2,h3⟩:=zdd own rs (id+x.cvs.length) n R h;refine ⟨by omega,t,l,?_,h3⟩
   rw[qQ (by omega)]
   have e2:n-id-x.cvs.length=n-(id+x.cvs.length):=by omega
   rw[e2];exact h2
theorem zel:∀(rs:List AV) (ys:List Value) (id:Nat),ys.length=(zk rs).length->(∀(i:Nat) (c:CV) (u:Value),(zk rs)[i]?=some c->ys[i]?=some u->VA w st E (zp4 (id+i) c) u/\u.oneCell'=true) ->
 (zbL rs id).length=(zbj rs ys).length/\∀(k:Nat) (x:TV) (u:Value),(zbL rs id)[k]?=some x->(zbj rs ys)[k]?=some u->VT w st E x u
 | [],ys,id,_,_=>⟨rfl,fun k x u h=>by simp[zbL]at h⟩
 | .one c :: rs,ys,id,hl,hv=>by
  have e:zk (AV.one c :: rs)=c :: zk rs:=by simp[zk,AV.cvs]
  rw[e]at hl hv;cases ys with
  | nil=>simp at hl
  | cons y ys =>
   obtain ⟨h1,h2⟩:=zel rs ys (id+1) (by simpa using hl) (fun i c u hc hu=>by
    have:=hv (i+1) c u (by simpa using hc) (by simpa using hu)
    have e:id+(i+1)=id+1+i:=by omega
    rw[e] at this;exact this)
   refine ⟨by simp[zbL,zbj,h1],fun k x u hx hu=>?_⟩
   cases k with
   | zero =>
    simp only[zbL,zbj,qF,qC,List.headD_cons]at hx hu;subst hx hu;have:=(hv 0 c y (by simp) (by simp)).1
    cases c<;>exact this
   | succ k=>exact h2 k x u (by simpa [zbL] using hx) (by simpa [zbj] using hu)
 | .agg cs :: rs,ys,id,hl,hv=>by
  have e:zk (AV.agg cs :: rs)=cs++zk rs:=by simp[zk,AV.cvs]
  rw[e]at hl hv;rw[uN]at hl;obtain ⟨h1,h2⟩:=zel rs (ys.drop cs.length) (id+cs.length) (by simp;omega) (fun i c u hc hu=>by
   have:=hv (cs.length+i) c u (by rw[qQ (by omega)];simpa using hc) (by rw[jK]at hu;exact hu)
   have e:id+(cs.length+i)=id+cs.length+i:=by omega
   rw[e] at this;exact this)
  refine ⟨by simp[zbL,zbj,h1],fun k x u hx hu=>?_⟩
  cases k with
  | zero =>
   simp only[zbL,zbj,qF,qC]at hx hu;subst hx hu;refine ⟨_,rfl,by simp[zro];omega,fun j a u ha hu=>?_⟩
   rw[znJ]at ha;cases hc:cs[j]? with
   | none=>rw[hc]at ha;cases ha
   | some c =>
    rw[hc]at ha;cases ha;have hj:j<cs.length:=(qA.1 hc).1;simp only[q9,jH,if_pos hj]at hu;have:=hv j c u (by rw[qT hj];exact hc) hu
    exact ⟨this.2,this.1⟩
  | succ k=>exact h2 k x u (by simpa [zbL] using hx) (by simpa [zbj] using hu)
theorem zkF {l:List TV}{us:List Value}(hl:l.length=us.length)(hv:∀(k:Nat) (x:TV) (u:Value),l[k]?=some x->us[k]?=some u->VT w st E x u):VM w st E (ze3 l) (zgL us):=by
 match l,us,hl,hv with
 | [],[],_,_=>exact ⟨#[],rfl,rfl,fun j x u h=>by simp at h⟩
 | [x],[u],_,hv=>exact hv 0 x u rfl rfl
 | x :: y :: l,u :: v :: us,hl,hv=>exact ⟨_,rfl,by simpa using hl.symm,fun j x' u' h1 h2=>hv j x' u' h1 (by simpa using h2)⟩
 | [x],u :: v :: us,hl,_=>simp at hl
 | x :: y :: l,[u],hl,_=>simp at hl
 | [],u :: us,hl,_=>simp at hl
 | x :: l,[],hl,_=>simp at hl
theorem zrp {n m:Nat}{c:CV}(h:m∈(zp4 n c).ids):m=n:=by
 cases c<;>simp [zp4,At.ids,zN,zU]at h;exact h
theorem zde:∀(rs:List AV) (id m:Nat) (x:TV) (a:At),x∈zbL rs id->a∈zy x->m∈a.ids->id<=m/\m<id+(zk rs).length
 | [],_,_,_,_,h,_,_=>by simp[zbL]at h
 | .one c :: rs,id,m,x,a,hx,ha,hm=>by
  have e:(zk (AV.one c :: rs)).length=1+(zk rs).length:=by simp[zk,AV.cvs];omega
  rw[e];simp only[zbL,qG]at hx;rcases hx with rfl|hx
  .simp only [zy,qE]at ha;subst ha;have:(zem [c] id).headD .bad=zp4 id c:=by cases c<;>rfl
   rw[this]at hm;rw[zrp hm];omega
  .have:=zde rs (id+1) m x a hx ha hm;omega
 | .agg cs :: rs,id,m,x,a,hx,ha,hm=>by
  have e:(zk (AV.agg cs :: rs)).length=cs.length+(zk rs).length:=by simp[zk,AV.cvs]
  rw[e];simp only[zbL,qG]at hx;rcases hx with rfl|hx
  .simp only [zy]at ha;obtain ⟨k,hk⟩:=qR.1 ha;rw[znJ]at hk;cases hc:cs[k]? with
   | none=>rw[hc]at hk;cases hk
   | some c =>
    rw[hc]at hk;cases hk;have hkl:k<cs.length:=(qA.1 hc).1;rw[zrp hm];omega
  .have:=zde rs (id+cs.length) m x a hx ha hm;omega
theorem zkE {l:List TV}{a:At}(h:a∈zX (ze3 l)):∃x∈l,a∈zy x:=by
 match l,h with
 | [],h=>simp[ze3,zX]at h
 | [x],h=>exact ⟨x,by simp,h⟩
 | x :: y :: l,h=>simpa [ze3,zX] using h
theorem s_call (hS:Sim w0 S0 U st E ts sv w){o:Oper}{id:Nat}(hid:∀n,Mine id n->¬ U n){c:Call}{f:FuncId}{run:List AV->Option (Bool×List AV)}(ho:o.op = .call c)(hcb:c.callee = .value (.func f))(hH:Holds C.P f run){avs rs:List AV}(ha:zbw (fun x=>match st.opnd x with|some v=>st.avOf v|none=>none) c.args.toList=some avs)(hr:run avs=some (true,rs))(hle:(zk rs).length<=31) :
 Goes C w0 S0 U st ts sv w o id (fun st=>st.apply o.dst { c:=true,v:=ze3 (zbL rs id),ro:=zbO (zbG f) rs id }):=by
 intro next Q hn;obtain ⟨⟨fn,b,hf,hb,hname⟩,hH⟩:=hH;obtain ⟨xs,hxs,hm⟩:=zqN hS c.args.toList avs ha;have hargs:c.args.map ({ tmps:=ts,defers:=[] }:Act).eval=(zbj avs xs).toArray:=by
  rw[<- hm,<- kH,jM]
 have hexec:(execOp ({ tmps:=ts,defers:=[] }:Act).eval o).run C.P w = .ok (.enter f (zbj avs xs).toArray) w:=by
  have hname':fn.name≠ "runtime.NumGoroutine":=by simpa using hname
  simp[execOp,ho,resolve,hcb,Act.eval,Deferred.ofValue,invoke,callFunc,hf,hb,hname',hargs]
 unfold Oper.wp;rw[hexec,Oper.upon_enter];refine (hH w avs xs rs hxs hr).mono ?_;intro e w' he;cases e with
 | panicked chain=>exact he.elim
 | outgrown=>exact he.elim
 | returned v =>
  obtain ⟨hg,ys,K,hys,rfl,hfr⟩:=he;have hE1:∀n,(id<=n/\n<id+31)->¬ U n:=fun n h=>hid n ⟨h.1,by omega⟩
  obtain ⟨hM,hT⟩:=hS.mem.addRootsO hS.ids.mem (dro:=zbO (zbG f) rs id) (w1:=w')
   (E1:={ E with ρ:=fun n=>if id<=n/\n<id+31 then (ys[n-id]?).getD undef else E.ρ n,φ:=fun n=>if id<=n/\n<id+31 then (fun x=>n-id<(zk rs).length/\K (n-id) x) else E.φ n })
   hg.os hg.tape hg.output hg.size hg.keep (fun r R hR=>by
    obtain ⟨h1,t,l,h2,rfl⟩:=zdd (zbG f) rs id r R hR;have hlt:r-id<(zk rs).length:=(qA.1 h2).1;have hm:id<=r/\r<id+31:=⟨h1,by omega⟩
    have hy:r-id<ys.length:=by rw[hys.1];exact hlt
    refine ⟨hE1 r hm,rfl,?_,fun x hx=>?_⟩
    .simp only [if_pos hm,qB hy,jW];exact (hys.2 _ _ _ h2 (qB hy)).weak (fun x hx=>⟨hlt,hx⟩)
    .simp only [if_pos hm]at hx;exact hfr.lt _ x hlt hx.2)
   (fun r R r' R' h1 ho h2 hne x hx hx'=>by
    obtain ⟨g1,t,l,g2,rfl⟩:=zdd (zbG f) rs id r R h1;obtain ⟨g1',t',l',g2',rfl⟩:=zdd (zbG f) rs id r' R' h2;have hlt:r-id<(zk rs).length:=(qA.1 g2).1;have hlt':r'-id<(zk rs).length:=(qA.1 g2').1;have hm:id<=r/\r<id+31:=⟨g1,by omega⟩
    have hm':id<=r'/\r'<id+31:=⟨g1',by omega⟩
    simp only[if_pos hm]at hx;simp only[if_pos hm']at hx';have:=hfr.dis _ _ _ x g2 ho hlt' hx.2 hx'.2;omega)
   (fun n hn=>by
    have hm:¬ (id<=n/\n<id+31):=fun h=>hE1 n h hn;simp only[if_neg hm];exact ⟨trivial,trivial,trivial⟩)
  obtain ⟨g1,g2⟩:=zel (w:=w') (st:={ st with ro:=zbO (zbG f) rs id++st.ro }) (E:={ E with ρ:=fun n=>if id<=n/\n<id+31 then (ys[n-id]?).getD undef else E.ρ n,φ:=fun n=>if id<=n/\n<id+31 then (fun x=>n-id<(zk rs).length/\K (n-id) x) else E.φ n })
   rs ys id hys.1 (fun i c u hc hu=>by
    have hrep:=hys.2 i c u hc hu;refine ⟨?_,hrep.one⟩;have hlt:i<(zk rs).length:=(qA.1 hc).1;cases c with
    | i k n=>exact hrep.int_inv
    | b x=>exact hrep.bool_inv
    | s t l =>
     obtain ⟨⟨a,cap,hv,_⟩,_⟩:=hrep.len;refine ⟨⟨a,_,cap,hv⟩,fun R hR=>?_⟩;have hm:id<=id+i/\id+i<id+31:=⟨by omega,by omega⟩
     have e:id+i-id=i:=by omega
     simp only[zD,if_pos hm,e,hu,jW])
  exact hn _ _ _ (Sim.next hS hM hT rfl rfl (fun n h=>.inl h) (fun n R h=>by
   simp only[zba]at h;split at h
   .rename_i Q hQ;obtain ⟨h1,t,l,h2,_⟩:=zdd (zbG f) rs id n Q hQ;have hlt:n-id<(zk rs).length:=(qA.1 h2).1;exact .inr ⟨h1,by omega⟩
   .exact .inl (hS.ids.ro n R h))
   (fun n cs hn=>⟨.inl (hS.ids.lo n cs hn).1,fun a ha m hm=>.inl ((hS.ids.lo n cs hn).2 a ha m hm)⟩) (zkF g1 g2) (fun n hn=>by
    simp only[MV.ids,qP]at hn;obtain ⟨a,ha,hn⟩:=hn;obtain ⟨x,hx,ha⟩:=zkE ha;have:=zde rs id n x a hx ha hn;exact .inr ⟨this.1,by omega⟩))
theorem zSA (hS:Sim w0 S0 U st E ts sv w){o:Oper}{id:Nat}(hid:∀n,Mine id n->¬ U n){c:Call}{f:FuncId}{run:List AV->Option (Bool×List AV)}(ho:o.op = .call c)(hcb:c.callee = .value (.func f))(hH:zFS C.P f run){x0:Operand}{xr:List Operand}(hca:c.args.toList=x0 :: xr){v0:TV}(h0:st.opnd x0=some (.v v0)){avs rs:List AV}(ha:zbw (fun x=>match st.opnd x with|some v=>st.avOf v|none=>none) (x0 :: xr)=some avs)(hr:run avs=some (true,rs))(hfl:(zk rs).all CV.flat=true)(hle:(zk rs).length<=31) :
 Goes C w0 S0 U st ts sv w o id (fun st=>st.apply o.dst { c:=true,v:=ze3 (v0 :: zbL rs id) }):=by
 intro next Q hn;obtain ⟨⟨fn,b,hf,hb,hname⟩,hH⟩:=hH;obtain ⟨xs,hxs,hm⟩:=zqN hS (x0 :: xr) avs ha;obtain ⟨hv0,hi0⟩:=zbk hS h0;have hhead:(zbj avs xs).headD undef=({ tmps:=ts,defers:=[] }:Act).eval x0:=by rw[<- hm];rfl
 have hargs:c.args.map ({ tmps:=ts,defers:=[] }:Act).eval=(zbj avs xs).toArray:=by
  rw[<- hm,<- hca,<- kH,jM]
 have hexec:(execOp ({ tmps:=ts,defers:=[] }:Act).eval o).run C.P w = .ok (.enter f (zbj avs xs).toArray) w:=by
  have hname':fn.name≠ "runtime.NumGoroutine":=by simpa using hname
  simp[execOp,ho,resolve,hcb,Act.eval,Deferred.ofValue,invoke,callFunc,hf,hb,hname',hargs]
 unfold Oper.wp;rw[hexec,Oper.upon_enter];refine (hH w avs xs rs hxs hr).mono ?_;intro e w' he;cases e with
 | panicked chain=>exact he.elim
 | outgrown=>exact he.elim
 | returned v =>
  obtain ⟨hg,ys,hys,rfl⟩:=he;rw[hhead];obtain ⟨hM,hT⟩:=hS.mem.addRoots hS.ids.mem (dro:=[]) (w1:=w') (E1:=E) hg.os hg.tape hg.output hg.size hg.keep (fun r R hR=>by cases hR) (fun r R _ _ hR=>by cases hR) (fun _ _=>⟨rfl,rfl,rfl⟩)
  have hflat:∀(i:Nat) (c:CV),(zk rs)[i]?=some c->c.flat=true:=fun i c hc=>qS.1 hfl c (qI hc);obtain ⟨g1,g2⟩:=zel (w:=w') (st:=st) (E:=E) rs ys id hys.1 (fun i c u hc hu=>by
   have hrep:=hys.2 i c u hc hu;refine ⟨?_,hrep.one⟩;have hfc:=hflat i c hc;cases c with
   | i k n=>exact hrep.int_inv
   | b x=>exact hrep.bool_inv
   | s t l=>cases hfc)
  exact hn _ _ _ (Sim.next hS (st1:=st) hM hT rfl rfl (fun n h=>.inl h) (fun n R h=>.inl (hS.ids.ro n R h))
   (fun n cs hn=>⟨.inl (hS.ids.lo n cs hn).1,fun a ha m hm=>.inl ((hS.ids.lo n cs hn).2 a ha m hm)⟩) (zkF (l:=v0 :: zbL rs id) (us:=({ tmps:=ts,defers:=[] }:Act).eval x0 :: zbj rs ys) (by simp[g1]) (fun k x u hk hu=>by
    cases k with
    | zero =>
     simp only[qF,qC]at hk hu;subst hk hu;exact VT.tr hT (fun a ha n hn=>hi0 n (by simp only[MV.ids,zX,qP];exact ⟨a,ha,hn⟩)) hv0
    | succ k=>exact g2 k x u (by simpa using hk) (by simpa using hu))) (fun n hn2=>by
    simp only[MV.ids,qP]at hn2;obtain ⟨a,ha,hn3⟩:=hn2;obtain ⟨x,hx,ha2⟩:=zkE ha;rcases qG.1 hx with rfl|hx
    .exact .inl (hi0 n (by simp only[MV.ids,zX,qP];exact ⟨a,ha2,hn3⟩))
    .have:=zde rs id n x a hx ha2 hn3;exact .inr ⟨this.1,by omega⟩))
end
section
variable {C:Cfg} {w0 w w1:World} {S0:zI} {U:Nat->Prop} {st st1:St} {E E1:Env} {ts:Array Value} {sv:List (Array Value)}
def Hit (i j0 n i' j:Nat):Prop:=i'=i/\j0<=j/\j<j0+n
theorem zwY {t:Ty}{l l':List t.den}{i:Int}{j0:Nat}{cvs:List CV}(h:setRow t l i j0 cvs=some l') :
 ∃d,t.cells d=splice (t.cells (ix l i t.dflt)) j0 cvs/\l'=up l i d:=by
 unfold setRow at h;split at h
 .rename_i d hd;cases h;exact ⟨d,zen hd,rfl⟩
 .cases h
theorem Rep.setCells {t:Ty}{l l':List t.den}{b off cap:Nat}{arr:Array Value}{e':TypeId}{V:Nat->Nat->Value}{K:Nat->Nat->zI}{S:zI}{i:Int}{j0:Nat}{cvs:List CV}{us:List Value}{Kn:Nat->zI}(hlen:l.length<=big)(hcap:l.length<=cap)(hsz:off+cap*t.width<=arr.size)(hR:Rows true w t l arr off b V K S)(hi:i.toNat<l.length)(hl:us.length=cvs.length)(hfit:j0+us.length<=t.width)(hset:setRow t l i j0 cvs=some l')(hb1:w1.heap[b]?=some (.cells (splice arr.toList (off+i.toNat*t.width+j0) us).toArray e' (0,0)))(hus:∀(k:Nat) (c:CV) (u:Value),cvs[k]?=some c->us[k]?=some u->Rep true w1 u c (Kn k))(hold:∀i' j,i'<l.length->j<t.width->¬ Hit i.toNat j0 us.length i' j->∀x,K i' j x->w1.heap[x]?=w.heap[x]?)(hKb:∀k x,k<us.length->Kn k x->x≠b)(hKd:∀k k' x,k<us.length->k'<us.length->Kn k x->Kn k' x->k=k')(hKo:∀k x i' j,k<us.length->Kn k x->i'<l.length->j<t.width->¬ Hit i.toNat j0 us.length i' j->¬ K i' j x) :
 Rep true w1 (.slice (some ⟨b,off,none⟩) l.length cap) (.s t l') (fun x=>x=b\/(∃i' j,i'<l.length/\j<t.width/\¬ Hit i.toNat j0 us.length i' j/\K i' j x)\/∃k,k<us.length/\Kn k x):=by
 obtain ⟨d,hd,rfl⟩:=zwY hset;have hrow:(i.toNat+1)*t.width<=cap*t.width:=qL _ (by omega)
 rw[jB]at hrow;have hbs:off+i.toNat*t.width+j0+us.length<=arr.toList.length:=by simp;omega
 have hcb:j0+cvs.length<=(t.cells (ix l i t.dflt)).length:=by rw[zbE,<- hl];exact hfit
 have hlu:(up l i d).length=l.length:=zlM l i d;have hHit:∀i' j,Decidable (Hit i.toNat j0 us.length i' j):=fun i' j=>by unfold Hit;exact inferInstance
 have key:=Rep.sl (o:=true) (w:=w1) t (up l i d) b off cap (splice arr.toList (off+i.toNat*t.width+j0) us).toArray e' (0,0)
  (fun i' j=>if Hit i.toNat j0 us.length i' j then (us[j-j0]?).getD undef else V i' j) (fun i' j=>if Hit i.toNat j0 us.length i' j then Kn (j-j0) else K i' j)
  (fun x=>x=b\/(∃i' j,i'<l.length/\j<t.width/\¬ Hit i.toNat j0 us.length i' j/\K i' j x)\/∃k,k<us.length/\Kn k x)
  hb1 (fun _=>rfl) (by omega) (by omega) (by rw[jU,zdW _ _ _ hbs];simpa using hsz) (.inl rfl)
  (fun i' j x hi' hj hx=>by
   rw[hlu]at hi'
   by_cases hh:Hit i.toNat j0 us.length i' j
   .simp only [if_pos hh]at hx;obtain ⟨_,h2,h3⟩:=hh;exact ⟨.inr (.inr ⟨j-j0,by omega,hx⟩),fun _=>hKb _ x (by omega) hx⟩
   .simp only [if_neg hh]at hx;exact ⟨.inr (.inl ⟨i',j,hi',hj,hh,hx⟩),(hR.sub i' j x hi' hj hx).2⟩)
  (fun _ i1 j1 i2 j2 x h1 hj1 h2 hj2 hx1 hx2=>by
   rw[hlu]at h1 h2
   by_cases hh1:Hit i.toNat j0 us.length i1 j1<;>by_cases hh2:Hit i.toNat j0 us.length i2 j2
   .simp only [if_pos hh1]at hx1;simp only[if_pos hh2]at hx2;obtain ⟨a1,b1,c1⟩:=hh1;obtain ⟨a2,b2,c2⟩:=hh2;have:=hKd _ _ x (by omega) (by omega) hx1 hx2
    exact ⟨a1.trans a2.symm,by omega⟩
   .simp only [if_pos hh1]at hx1;simp only[if_neg hh2]at hx2;exact absurd hx2 (hKo _ x i2 j2 (by have:=hh1.2;omega) hx1 h2 hj2 hh2)
   .simp only [if_neg hh1]at hx1;simp only[if_pos hh2]at hx2;exact absurd hx1 (hKo _ x i1 j1 (by have:=hh2.2;omega) hx2 h1 hj1 hh1)
   .simp only [if_neg hh1]at hx1;simp only[if_neg hh2]at hx2;exact hR.dis rfl i1 j1 i2 j2 x h1 hj1 h2 hj2 hx1 hx2)
  (fun i' j hi' hj=>by
   rw[hlu]at hi';rw[q9]
   by_cases hh:Hit i.toNat j0 us.length i' j
   .simp only [if_pos hh];obtain ⟨rfl,h2,h3⟩:=hh;rw[zcJ _ _ _ hbs _ (by omega) (by omega)]
    have e:off+i.toNat*t.width+j-(off+i.toNat*t.width+j0)=j-j0:=by omega
    rw[e,qB (by omega)]
    rfl
   .simp only [if_neg hh];rw[zcC _ _ _ hbs _ (by
     rcases Nat.lt_trichotomy i' i.toNat with h|h|h
     .have:(i'+1)*t.width<=i.toNat*t.width:=qL _ h;rw[jB] at this;omega
     .subst h
      by_cases hj0:j<j0
      .omega
      .have:¬ j<j0+us.length:=fun hh'=>hh ⟨rfl,by omega,hh'⟩
       omega
     .have:(i.toNat+1)*t.width<=i'*t.width:=qL _ h;rw[jB] at this;omega)]
    simpa using hR.val i' j hi' hj)
  (fun i' x hx j c hcj=>by
   have hi':i'<l.length:=by have:=(qA.1 hx).1;rw[hlu] at this;exact this
   have hj:j<t.width:=by have:=(qA.1 hcj).1;rw[zbE] at this;exact this
   rw[zQN hi']at hx
   by_cases hh:Hit i.toNat j0 us.length i' j
   .simp only [if_pos hh];obtain ⟨h1,h2,h3⟩:=hh;rw[if_pos h1.symm]at hx;cases hx;rw[hd,zcJ _ _ _ hcb j h2 (by omega)]at hcj
    have hk:j-j0<us.length:=by omega
    rw[qB hk];exact hus _ c _ hcj (qB hk)
   .simp only [if_neg hh];split at hx
    .rename_i h1;cases hx;rw[hd,zcC _ _ _ hcb j (by
      by_cases hj0:j<j0
      .exact .inl hj0
      .have:¬ j<j0+us.length:=fun hh'=>hh ⟨h1.symm,by omega,hh'⟩
       right;omega)]at hcj
     rw[<- h1]at hi' hh ⊢;exact (hR.con i.toNat _ (zhV hi) j c hcj).frame (hold i.toNat j hi hj hh)
    .exact (hR.con i' x hx j c hcj).frame (hold i' j hi' hj hh))
 rw[hlu] at key;exact key
theorem zjF {t:Ty}{l l':List t.den}{b off cap:Nat}{arr:Array Value}{e e':TypeId}{V:Nat->Nat->Value}{K:Nat->Nat->zI}{S:zI}{i:Int}{j0:Nat}{cvs:List CV}{us:List Value}(hcap:l.length<=cap)(hsz:off+cap*t.width<=arr.size)(hR:Rows true w t l arr off b V K S)(hb:w.heap[b]?=some (.cells arr e (0,0)))(hi:i.toNat<l.length)(hl:us.length=cvs.length)(hfit:j0+us.length<=t.width)(hset:setRow t l i j0 cvs=some l')(hb1:w1.heap[b]?=some (.cells (splice arr.toList (off+i.toNat*t.width+j0) us).toArray e' (0,0)))(hold:∀i' j,i'<l.length->j<t.width->¬ Hit i.toNat j0 us.length i' j->∀x,K i' j x->w1.heap[x]?=w.heap[x]?)(q:List (Int×Nat))(hq:∀i' j q',q=(i',j) :: q'->∀(k:Nat) (c:CV),j=j0+k->cvs[k]?=some c->c.flat=true\/(i'.toNat=i.toNat->us[k]?=some (V i.toNat j)))(hoth:∀x,x≠b->w1.heap[x]?=w.heap[x]?){u:Value}(h:zD w t (.slice (some ⟨b,off,none⟩) l.length cap) q=some u):zD w1 t (.slice (some ⟨b,off,none⟩) l.length cap) q=some u:=by
 obtain ⟨d,hd,rfl⟩:=zwY hset;have hrow:(i.toNat+1)*t.width<=cap*t.width:=qL _ (by omega)
 rw[jB]at hrow;have hbs:off+i.toNat*t.width+j0+us.length<=arr.toList.length:=by simp;omega
 have hcb:j0+cvs.length<=(t.cells (ix l i t.dflt)).length:=by rw[zbE,<- hl];exact hfit
 cases q with
 | nil=>exact h
 | cons ij q =>
  obtain ⟨i',j⟩:=ij;simp only[zD]at h ⊢;split at h
  .rename_i hi';rw[if_pos hi'];split at h
   .rename_i t' ht';have hj:j<t.width:=by rw[<- zc5];exact (qA.1 ht').1
    have hcell:w1.cell? ⟨b,off+i'.toNat*t.width+j,none⟩=w.cell? ⟨b,off+i'.toNat*t.width+j,none⟩:=by
     rw[cell_of_block hb,cell_of_block hb1,q9]
     by_cases hhit:Hit i.toNat j0 us.length i'.toNat j
     .obtain ⟨h1,h2,h3⟩:=hhit;have hk:j-j0<cvs.length:=by omega
      have hck:=qB hk;rcases hq i' j q rfl (j-j0) _ (by omega) hck with hf|hv
      .exfalso;have hcj:(t.cells d)[j]?=some cvs[j-j0]:=by rw[hd,zcJ _ _ _ hcb j h2 (by omega)];exact hck
       have:=zys hcj;rw[ht'] at this;have hs:=(Option.some.inj this).symm;obtain ⟨l3,h3⟩:=zhG hs;rw[h3]at hf;cases hf
      .have hv:=hv h1;rw[h1,zcJ _ _ _ hbs _ (by omega) (by omega),hR.val _ _ (by rw[<- h1];exact hi'.2) hj]
       have e:off+i.toNat*t.width+j-(off+i.toNat*t.width+j0)=j-j0:=by omega
       rw[e,hv]
     .rw [zcC _ _ _ hbs _ (by
       rcases Nat.lt_trichotomy i'.toNat i.toNat with h|h|h
       .have:(i'.toNat+1)*t.width<=i.toNat*t.width:=qL _ h;rw[jB] at this;omega
       .rw [h]
        by_cases hj0:j<j0
        .omega
        .have:¬ j<j0+us.length:=fun hh'=>hhit ⟨h,by omega,hh'⟩
         omega
       .have:(i.toNat+1)*t.width<=i'.toNat*t.width:=qL _ h;rw[jB] at this;omega)]
      simp
    rw[hcell];rw[cell_of_block hb,hR.val _ _ hi'.2 hj]at h ⊢;simp only at h ⊢;have hx:l[i'.toNat]?=some (l[i'.toNat]'hi'.2):=qB hi'.2;obtain ⟨c,hc,hct⟩:=zrO (x:=l[i'.toNat]'hi'.2) ht';obtain ⟨l3,rfl⟩:=zhG hct;rw[zbH q (hR.con _ _ hx j _ hc) (fun x hx=>hoth x ((hR.sub _ j x hi'.2 hj hx).2 rfl))];exact h
   .cases h
  .cases h
theorem zj5 {P:Program}{T:TypeId}{agg:Bool}{tys:List CTy}{b off:Nat}{arr:Array Value}{e:TypeId}{v:Value}(hT:TypeOk P T agg tys)(hb:w.heap[b]?=some (.cells arr e (0,0)))(hv:v.cells.size=tys.length)(h:off+tys.length<=arr.size)(h1:∀u∈v.cells.toList,u.oneCell'=true) :
 (storeVar T ⟨b,off,none⟩ v).run P w = .ok () (w.setRow b (splice arr.toList off v.cells.toList).toArray):=by
 have hst:=run_storeCells_at (P:=P) b off e v.cells.toList 0 arr w hb (by simp[hv];omega) h1
 have hsp:(arr.toList.take (off+0)++v.cells.toList++arr.toList.drop (off+0+v.cells.toList.length))=splice arr.toList off v.cells.toList:=by simp[splice]
 rw[hsp]at hst;simp[storeVar,zry hT,hv,hst]
theorem zzG {xs:List At}{cs:List CV}(hG:Given st xs cs []){k:Nat}{c:CV}(h:cs[k]?=some c):c.flat=true:=by
 have hk:k<xs.length:=by rw[<- hG.len];exact (qA.1 h).1
 rcases hG.get k _ (qB hk) with ⟨_,_,_,h2⟩|⟨_,_,h2⟩|⟨_,_,_,_,h2,_⟩
 .rw [h]at h2;cases h2;rfl
 .rw [h]at h2;cases h2;rfl
 .cases h2
theorem zmL (p q:List (Int×Nat)):(∃q',q=p++q')\/¬ ∃q',q=p++q':=Classical.em _
theorem zLU (hC:CfgOk C)(hS:Sim w0 S0 U st E ts sv w){o:Oper}{id:Nat}{T:TypeId}{a x:Operand}{agg:Bool}{tys:List CTy}{y:TV}{r:Nat}{p:List (Int×Nat)}{i:Int}{off:Nat}(ho:o.op = .store T a x)(hT:C.cty T=some (agg,tys))(hx:st.opnd x=some (.v y))(ha:st.at a=some (.ep r p i off)){R:Root}(hRr:st.root r=some R){t:Ty}{l l':List t.den}(hn:st.node r p=some (.s t l)){c:Bool}{cvs:List CV}(hg:st.give none (zy y) 0=some (c,cvs,[]))(hown:R.own=true)(hlen:(zy y).length=tys.length)(hfit:off+tys.length<=t.width)(hset:setRow t l i off cvs=some l'){m:List R.t.den}(hput:zkL R.t R.l p (.s t l')=some m){c':Bool} :
 Goes C w0 S0 U st ts sv w o id (fun s=>s.apply o.dst { c:=c',v:=.und,ro:=[(r,{ R with l:=m })],bump:=true }):=by
 obtain ⟨hxv,hxi⟩:=zbk hS hx;obtain ⟨hav,hai⟩:=zbb hS ha;obtain ⟨_,hG⟩:=zjl _ _ _ _ _ hg;obtain ⟨hc1,hc2⟩:=VT.cells hxv (zjv hx);obtain ⟨b,o2,len,cap,t1,e1,e2,e3,e4,e5⟩:=hav.2 R hRr;have hrep:=hS.mem.rep r R hRr;rw[hown]at hrep;obtain ⟨t',l0,S1,f1,f2,f3,f4,f5⟩:=Rep.focus p hrep e1;have hg1:zet R.t R.l p=some (.s t l):=by
  obtain ⟨R',hR',hg'⟩:=zdf hn;rw[hRr]at hR';cases hR';exact hg'
 rw[hg1] at f1;cases f1;rw[e2] at f2;cases f2;have fw:=(f5 w l S1 (fun _ _ _=>rfl) (fun _ h _=>h) f3);obtain ⟨_,_,_,_,fwp⟩:=fw;generalize hv:({ tmps:=ts,defers:=[] }:Act).eval x=v at *;cases f3 with
 | void _ _ _ ho=>cases ho
 | sl _ _ _ _ _ arr e' fz V K _ hb hfz hlen1 hcap hsz hS' hsub hdis hvv hcc =>
 have hfz':=hfz rfl;subst hfz';have hRows:Rows true w t l arr o2 b V K S1:=⟨hsub,hdis,hvv,hcc⟩;have hul:v.cells.toList.length=cvs.length:=by rw[hG.len];simpa using hc1
 have husz:v.cells.size=tys.length:=by rw[hc1,hlen]
 have hfit':off+v.cells.toList.length<=t.width:=by simp[husz];exact hfit
 have hrow:(i.toNat+1)*t.width<=cap*t.width:=qL _ (by omega)
 rw[jB]at hrow;have h1c:∀u∈v.cells.toList,u.oneCell'=true:=by
  intro u hu;obtain ⟨j,hj⟩:=qR.1 hu;have hlt:j<(zy y).length:=by rw[<- hc1];have:=(qA.1 hj).1;simpa using this
  exact (hc2 j _ u (qB hlt) (by simpa using hj)).1
 have hrun:=zj5 (w:=w) (off:=o2+i.toNat*t.width+off) (hC.cty T agg tys hT) hb husz (by omega) h1c
 generalize hw1:w.setRow b (splice arr.toList (o2+i.toNat*t.width+off) v.cells.toList).toArray=w1 at hrun;have hb1:w1.heap[b]?=some (.cells (splice arr.toList (o2+i.toNat*t.width+off) v.cells.toList).toArray e' (0,0)):=by rw[<- hw1];exact setRow_heap w b _ _ e' _ hb
 have hoth:∀x,x≠b->w1.heap[x]?=w.heap[x]?:=fun x hx=>by rw[<- hw1];exact setRow_other w b x _ hx
 have hold:∀i' j,i'<l.length->j<t.width->¬ Hit i.toNat off v.cells.toList.length i' j->∀x,K i' j x->w1.heap[x]?=w.heap[x]?:=fun i' j hi' hj _ x hx=>hoth x ((hsub i' j x hi' hj hx).2 rfl);have hset1:=Rep.setCells (w:=w) (w1:=w1) (Kn:=fun _ _=>False) hlen1 hcap hsz hRows e4 hul hfit' hset hb1 (fun k c u hc hu=>by
  have hk:k<(zy y).length:=by rw[<- hG.len];exact (qA.1 hc).1
  have hat:=qB hk;exact (hG.rep hS.mem hat hc (hc2 k _ u hat (by simpa using hu)).2).flat (zzG hG hc)) hold (fun _ _ _ h=>h.elim) (fun _ _ _ _ _ h=>h.elim) (fun _ _ _ _ _ h=>h.elim)
 obtain ⟨m',hm',hrm,hh1,hh2⟩:=f5 w1 l' _ (fun x hx hnx=>hoth x (fun e=>hnx (e ▸ hS'))) (fun x hx _=>by
  rcases hx with rfl|⟨i',j,hi',hj,_,hk⟩|⟨_,_,h⟩
  .exact hS'
  .exact (hsub i' j x hi' hj hk).1
  .exact h.elim) hset1
 rw[hput]at hm';cases hm';have hrm':=hrm.weak (S':=E.φ r) (fun x hx=>by
  rcases hx with ⟨hx,_⟩|rfl|⟨i',j,hi',hj,_,hk⟩|⟨_,_,h⟩
  .exact hx
  .exact f4 _ hS'
  .exact f4 _ (hsub i' j x hi' hj hk).1
  .exact h.elim)
 obtain ⟨hM,hTr⟩:=hS.mem.mut hS.ids.mem hRr hown (w1:=w1) (m:=m) (by rw[<- hw1];rfl) (by rw[<- hw1];rfl) (by rw[<- hw1];rfl) (by rw[<- hw1];simp) (fun x hx=>hoth x (fun e=>hx (e ▸ f4 b hS'))) hrm' (fun q u hq=>by
  rcases zmL p q with ⟨q',rfl⟩|hnp
  .rw [hh2 q'];rw[fwp q']at hq;exact zjF hcap hsz hRows hb e4 hul hfit' hset hb1 hold q' (fun _ _ _ _ k c _ hc=>.inl (zzG hG hc)) hoth hq
  .exact hh1 q u hq (fun q' he=>absurd ⟨q',he⟩ hnp))
 refine zfz hS (v:=undef) (mv:=.und) (n:=.skip) ?_ (.inr ⟨rfl,rfl⟩) hM hTr rfl rfl rfl (fun n R' hn=>?_) (fun n cs hn=>⟨.inl (hS.ids.lo n cs hn).1,fun a ha m hm=>.inl ((hS.ids.lo n cs hn).2 a ha m hm)⟩) rfl (fun n hn=>by simp[MV.ids,zX]at hn)
 .simp [execOp,ho,Instr.storeAt,e5,Instr.sureAddr,hv,hrun]
 .simp only [zf]at hn;split at hn
  .rename_i he;simp only[qH]at he;subst he;exact .inl (hS.ids.ro _ R (zS hRr).1)
  .exact .inl (hS.ids.ro n R' hn)
end
section
variable {C:Cfg} {w0 w w1:World} {S0:zI} {U:Nat->Prop} {st st1:St} {E E1:Env} {ts:Array Value} {sv:List (Array Value)}
structure CtrOk (C:Cfg):Prop where
 ok:∀f run,C.ctr f=some run->Holds C.P f run
 vok:∀f inp run,C.tct f=some ([],inp,run)->zFS C.P f run
theorem zMV (hC:CfgOk C)(hS:Sim w0 S0 U st E ts sv w){o:Oper}{id:Nat}(hid:∀n,Mine id n->¬ U n){x:Operand}{d:Dl}(ho:o.op = .move x\/o.op = .assign x)(h:delta C st o id=some d):Goes C w0 S0 U st ts sv w o id (fun st=>st.apply o.dst d):=by
 rcases ho with ho|ho
 .simp only [delta,ho]at h;split at h
  .cases h;exact zbW hS (v:=.pointer none) (by simp[execOp,ho,Act.eval]) trivial (fun n hn=>by simp[MV.ids,zX,zy,At.ids,zN,zU]at hn)
  .split at h
   .cases h;exact zQM hS hid (.inl ho)
   .cases h
  .split at h
   .rename_i v hv;cases h;exact zNK hS (.inl ho) hv
   .cases h
 .simp only [delta,ho]at h;split at h
  .cases h;exact zbW hS (v:=.pointer none) (by simp[execOp,ho,Act.eval]) trivial (fun n hn=>by simp[MV.ids,zX,zy,At.ids,zN,zU]at hn)
  .split at h
   .cases h;exact zQM hS hid (.inr ho)
   .cases h
  .split at h
   .rename_i v hv;cases h;exact zNK hS (.inr ho) hv
   .cases h
theorem zRe (hC:CfgOk C)(hS:Sim w0 S0 U st E ts sv w){o:Oper}{id:Nat}(hid:∀n,Mine id n->¬ U n){T:TypeId}{a x:Operand}{d:Dl}(ho:o.op = .store T a x)(h:delta C st o id=some d):Goes C w0 S0 U st ts sv w o id (fun st=>st.apply o.dst d):=by
 simp only[delta,ho]at h;split at h
 .rename_i agg tys y l off hT hx ha;split at h
  .rename_i cs hcs;split at h
   .rename_i hc;cases h;exact zLV hC hS ho hT hx ha hcs hc.1 hc.2
   .cases h
  .cases h
 .rename_i agg tys y r p i off hT hx ha;split at h
  .rename_i R t l c cvs hR hn hg;split at h
   .rename_i hcond;simp only[qD,qH,qX]at hcond;split at h
    .rename_i l' hset;split at h
     .rename_i m hput;cases h;exact zLU hC hS ho hT hx ha hR hn hg hcond.1.1 hcond.1.2 hcond.2 hset hput
     .cases h
    .cases h
   .cases h
  .cases h
 .rename_i agg t l off hT hx ha;split at h
  .split at h
   .rename_i cs hcs;split at h
    .rename_i hle;cases h;exact zJL hC hS hid ho hT ha hcs hle
    .cases h
   .cases h
  .cases h
 .cases h
theorem zr9 {t:Ty}{a b:CV}{m:List t.den}(h:zqM t a b=some m):∃l1 l2:List t.den,a = .s t l1/\b = .s t l2/\m=ap l1 l2:=by
 unfold zqM at h;split at h
 .split at h
  .rename_i t1 l1 t2 l2 hh;obtain ⟨rfl,rfl⟩:=hh;cases h;exact ⟨l1,l2,rfl,rfl,rfl⟩
  .cases h
 .cases h
theorem zSe (hC:CfgOk C)(hH:CtrOk C)(hS:Sim w0 S0 U st E ts sv w){o:Oper}{id:Nat}(hid:∀n,Mine id n->¬ U n){c:Call}{d:Dl}(ho:o.op = .call c)(h:delta C st o id=some d)(hc:d.c=true):Goes C w0 S0 U st ts sv w o id (fun st=>st.apply o.dst d):=by
 simp only[delta,ho]at h;split at h
 .rename_i hcb;split at h
  .rename_i x T hca hct;split at h
   .rename_i r p hx;split at h
    .rename_i t l hn;split at h
     .rename_i hT;cases h;obtain ⟨e,hE⟩:=hC.sty T t hT;exact zSZ hS ho hcb hca hct hE.und hx hn
     .cases h
    .cases h
   .cases h
  .cases h
 .rename_i hcb;split at h
  .rename_i x y hca;split at h
   .rename_i a b h1 h2;cases h;exact zS1 hS ho hcb hca h1 h2
   .cases h
  .cases h
 .rename_i hcb;split at h
  .rename_i x y hca;split at h
   .rename_i a b h1 h2;cases h;exact zS0 hS ho hcb hca h1 h2
   .cases h
  .cases h
 .rename_i hcb;split at h
  .rename_i x y T T2 hca hct;split at h
   .rename_i hTT;subst hTT;split at h
    .rename_i t r r2 p2 hT h1 h2;split at h
     .rename_i R R2 cv2 hR hR2 hn;split at h
      .rename_i hcond;split at h
       .rename_i m hm;cases h;obtain ⟨l1,l2,e1,e2,rfl⟩:=zr9 hm;subst e2;simp only[qD,jT,List.isEmpty_iff,qZ,beq_eq_false_iff_ne]at hcond;have hR1:R=⟨t,l1,R.own,R.ep⟩:=by
         cases R with
         | mk t0 l0 own ep =>
          simp only[CV.s.injEq] at e1;obtain ⟨rfl,e1⟩:=e1;cases e1;rfl
        exact zPc hC hS hid ho hcb hca hct hT h1 h2 hR hR2 hcond.1 (by
         rcases hcond.2 with h|h
         .exact .inl h
         .exact .inr ⟨h.1.1,h.1.2,h.2⟩) hn hR1 hc
       .cases h
      .cases h
     .cases h
    .cases h
   .cases h
  .cases h
 .rename_i f hcb;split at h
  .rename_i run hrun;split at h
   .rename_i avs ha;split at h
    .rename_i c2 rs hr;split at h
     .rename_i hle;cases h;simp only at hc;subst hc;exact s_call hS hid ho hcb (hH.ok f run hrun) ha hr hle
     .cases h
    .cases h
   .cases h
  .split at h
   .rename_i inp run x0 xr htct hca;split at h
    .rename_i v0 avs h0 ha;split at h
     .rename_i c2 rs hr;split at h
      .rename_i hle;cases h;simp only at hc;subst hc;rw[qD,qX]at hle;exact zSA hS hid ho hcb (hH.vok f inp run htct) hca h0 ha hr hle.1 hle.2
      .cases h
     .cases h
    .cases h
   .cases h
 .cases h
theorem zwo (hC:CfgOk C)(hH:CtrOk C)(hS:Sim w0 S0 U st E ts sv w){o:Oper}{id:Nat}(hid:∀n,Mine id n->¬ U n){d:Dl}(h:delta C st o id=some d)(hc:d.c=true):Goes C w0 S0 U st ts sv w o id (fun st=>st.apply o.dst d):=by
 cases hop:o.op
 case move x=>exact zMV hC hS hid (.inl hop) h
 case assign x=>exact zMV hC hS hid (.inr hop) h
 case pick c a b=>exact zSw hS hop h
 case alloc T=>exact zRC hC hS hid hop h
 case box T x=>exact zSY hS hid hop h
 case build T parts=>exact zRE hC hS hid hop h
 case load T x=>exact zSv hC hS hop h
 case store T a x=>exact zRe hC hS hid hop h
 case nilCheck x=>exact zLT hS hop h
 case binOp op T x y T2=>exact zRD hC hS hop h hc
 case unOp op T x=>exact zSz hS hop h
 case convert a b x=>exact zNH hC hS hop h
 case makeFunc fn first caps =>
  cases fn with
  | func f=>exact zLS hS hop h
  | _=>simp[delta,hop]at h
 case makeSlice T x y=>exact zJK hC hS hid hop h hc
 case slice T x lo hi mx =>
  cases mx with
  | none=>exact zRH hC hS hid hop h hc
  | some m=>simp[delta,hop]at h
 case fieldAddr T x f=>exact zJE hC hS hop h
 case field T x f=>exact zRF hC hS hop h
 case index T x y =>
  cases x with
  | const v =>
   cases v with
   | string s=>exact zRG hS hop h hc
   | _=>simp[delta,hop]at h
  | _=>simp[delta,hop]at h
 case indexAddr T x y=>exact zJF hC hS hop h hc
 case extract x j=>exact zNI hS hop h
 case call c=>exact zSe hC hH hS hid hop h hc
 case buildSlice T len parts=>exact zH5 hC hS hid hop h
 all_goals simp [delta,hop]at h
end
section
variable {C:Cfg} {w0 w w1:World} {S0:zI} {U:Nat->Prop} {st st1:St} {E E1:Env} {ts:Array Value} {sv:List (Array Value)}
structure GraftOk (C:Cfg):Prop where
 ok:∀(w0 w:World) (S0:zI) (U:Nat->Prop) (st:St) (E:Env) (ts:Array Value) (sv:List (Array Value)) (o:Oper) (id:Nat) (c:Bool) (st2:St),Sim w0 S0 U st E ts sv w->graft C st o=some (c,st2)->c=true ->
  Goes C w0 S0 U st ts sv w o id (fun _=>st2.put o.dst .und)/\st2.nid=st.nid
 mok:∀(w0 w:World) (S0:zI) (U:Nat->Prop) (st:St) (E:Env) (ts:Array Value) (sv:List (Array Value)) (o:Oper) (id:Nat) (c:Bool) (st2:St) (m:MV),Sim w0 S0 U st E ts sv w->zFz C st o=some (c,st2,m)->c=true ->
  Goes C w0 S0 U st ts sv w o id (fun _=>st2.put o.dst m)/\st2.nid=st.nid
 pok:∀(w0 w:World) (S0:zI) (U:Nat->Prop) (st:St) (E:Env) (ts:Array Value) (sv:List (Array Value)) (o:Oper) (id:Nat) (c:Bool) (st2:St) (m:MV),Sim w0 S0 U st E ts sv w->(∀n,Mine id n->¬ U n)->zvl C st o id=some (c,st2,m)->c=true ->
  Goes C w0 S0 U st ts sv w o id (fun _=>st2.put o.dst m)/\st2.nid=st.nid
 tok:∀(w0 w:World) (S0:zI) (U:Nat->Prop) (st:St) (E:Env) (ts:Array Value) (sv:List (Array Value)) (o:Oper) (id:Nat) (c:Bool) (st2:St) (m:MV),Sim w0 S0 U st E ts sv w->(∀n,Mine id n->¬ U n)->zFH C st o id=some (c,st2,m)->c=true ->
  Goes C w0 S0 U st ts sv w o id (fun _=>st2.put o.dst m)/\st2.nid=st.nid
structure MctOk (C:Cfg):Prop where
 ok:∀f run,C.mct f=some run->zzj C.P f run
structure NameOk (C:Cfg):Prop where
 ok:∀(f:FuncId) (fn:Func),C.P.funcs[f]?=some fn->(fn.name == "runtime.NumGoroutine")=false
def zlq (C:Cfg)(call:zdY):Prop :=
 ∀(f:FuncId) (vs:List MV) (st:St) (k:List TV->St->Option Ans) (ans:Ans),call f vs st k=some ans ->
  ∀(w0:World) (S0:zI) (U:Nat->Prop) (E:Env) (ts:Array Value) (sv:List (Array Value)) (w:World) (vals:Array Value) (R:Value->World->Prop),Sim w0 S0 U st E ts sv w->(∀n,st.nid<=n->¬ U n) ->
   vals.size=vs.length->(∀(i:Nat) (m:MV) (v:Value),vs[i]?=some m->vals[i]?=some v->VM w st E m v)->(∀m∈vs,∀n∈m.ids,U n) ->
   (∀(U':Nat->Prop) (st':St) (E':Env) (w':World) (rs:List TV) (v:Value),Sim w0 S0 U' st' E' ts sv w'->(∀n,U' n->U n\/st.nid<=n)->st.nid<=st'.nid->(∀n,st'.nid<=n->¬ U' n) ->
    VM w' st' E' (ze3 rs) v->(∀n∈(ze3 rs).ids,U' n)->k rs st'=some ans->R v w') ->
   (∃fn b,C.P.funcs[f]?=some fn/\fn.body=some b)/\Calls C.P f vals w fun | .returned v,w'=>R v w'|_,_=>False
theorem zyk {d:Nat}{m:MV}(h:st.tm[d]?=some m):st.put (some d) m=st:=by
 have:st.tm.set d m=st.tm:=by
  apply kT;intro k;rw[jA];split
  .rename_i e;subst e;split
   .exact h.symm
   .rename_i hlt;rw[List.getElem?_eq_none (by omega)]at h
    cases h
  .rfl
 simp only[St.put,this]
theorem zEr (hS:Sim w0 S0 U st E ts sv w){ops:Array Oper}{o:Oper}{run skip:St->Option Ans}{ans:Ans}(h:guarded ops o st run skip=some ans) :
 (Region.wanted o (yielded ops ts)=true/\run st=some ans)\/(Region.wanted o (yielded ops ts)=false/\skip (st.put o.dst .und)=some ans):=by
 unfold guarded at h;split at h
 .rename_i hg;exact .inl ⟨by simp[Region.wanted,hg],h⟩
 .rename_i j want hg;have hgo:∀{m:MV},guardOf st ops j=some m->∃o' t,ops[j]?=some o'/\o'.dst=some t/\st.tm[t]?=some m/\zfA ops j=some t:=by
   intro m hm;unfold guardOf at hm;split at hm
   .rename_i o' ho';split at hm
    .rename_i t ht;exact ⟨o',t,ho',ht,hm,by simp[zfA,ho',ht]⟩
    .cases hm
   .cases hm
  have hval:∀{m:MV} {t:Nat},st.tm[t]?=some m->∃v,ts[t]?=some v/\VM w st E m v:=by
   intro m t ht;have hlt:t<ts.size:=by rw[hS.tm.1];exact (qA.1 ht).1
   exact ⟨ts[t],by simp[hlt],hS.tm.2 t m _ ht (by simp[hlt])⟩
  split at h
  .rename_i hm;obtain ⟨o',t,h1,h2,h3,_⟩:=hgo hm;obtain ⟨v,hv,hvm⟩:=hval h3;simp only[VM]at hvm;subst hvm;refine .inr ⟨?_,h⟩;have:yielded ops ts j=none:=by simp[yielded,h1,h2,hv,undef]
   simp[Region.wanted,hg,this]
  .rename_i x hm;obtain ⟨o',t,h1,h2,h3,h4⟩:=hgo hm;obtain ⟨v,hv,hvm⟩:=hval h3;simp only[VM,VT,VA]at hvm;subst hvm;have hy:yielded ops ts j=some x:=by simp[yielded,h1,h2,hv]
   rw[h4]at h;cases x<;>cases want<;>simp only [cond_true,cond_false]at h<;>rw [zyk h3]at h
   .exact .inl ⟨by simp[Region.wanted,hg,hy],h⟩
   .exact .inr ⟨by simp[Region.wanted,hg,hy],h⟩
   .exact .inr ⟨by simp[Region.wanted,hg,hy],h⟩
   .exact .inl ⟨by simp[Region.wanted,hg,hy],h⟩
  .cases h
theorem Sim.putV (hS:Sim w0 S0 U st E ts sv w){dst:Option Tmp}{m:MV}{v:Value}(hv:VM w st E m v)(hi:∀n∈m.ids,U n):Sim w0 S0 U (st.put dst m) E (({ tmps:=ts,defers:=[] }:Act).put dst v).tmps sv w :=
 Sim.next hS hS.mem Sim.trans_self rfl rfl (fun _ h=>h) hS.ids.ro hS.ids.lo hv hi
theorem ze6 (dst:Option Tmp)(v:Value):({ tmps:=ts,defers:=[] }:Act).put dst v={ tmps:=(({ tmps:=ts,defers:=[] }:Act).put dst v).tmps,defers:=[] }:=by
 cases dst<;>rfl
theorem zzA {β:Type}(a:At)(k:At->β):zBC a k=k a:=by cases a<;>rfl
theorem zK6 {β:Type}(m:MV)(k:MV->β):zJ7 m k=k m:=by
 rcases m with _|x|l
 .rfl
 .rcases x with a|l
  .exact zzA a (fun a=>k (.v (.at a)))
  .rfl
 .rfl
theorem zqY {β:Type}:∀(l:List MV) (k:List MV->β),zpO l k=k l
 | [],_=>rfl
 | m :: l,k=>by simp only[zpO,zK6,zqY l]
theorem zk6 {β:Type}(n:Nat)(k:Nat->β):zku n k=k n:=by cases n<;>rfl
theorem zM2 {β:Type}(b:Bool)(k:Bool->β):zM1 b k=k b:=by cases b<;>rfl
theorem zK5 {β:Type}(e:Option Nat)(k:Option Nat->β):zJ6 e k=k e:=by
 cases e with
 | none=>rfl
 | some n=>exact zk6 n (fun n=>k (some n))
theorem zwr {β:Type}:∀(l:List At) (k:List At->β),zqX l k=k l
 | [],_=>rfl
 | a :: l,k=>by simp only[zqX,zzA,zwr l]
theorem zzB {β:Type}:∀(l:List (Nat×List At)) (k:List (Nat×List At)->β),zva l k=k l
 | [],_=>rfl
 | (n,cs) :: l,k=>by simp only[zva,zk6,zwr,zzB l]
theorem zzC {β:Type}:∀(l:List (Nat×Root)) (k:List (Nat×Root)->β),zvb l k=k l
 | [],_=>rfl
 | (n,⟨t,x,own,ep⟩) :: l,k=>by simp only[zvb,zk6,zM2,zK5,zzC l]
theorem zDY (k:St->Option Ans):st.forced k=k st:=by
 unfold St.forced;simp only[zqY,zzB,zzC,zk6]
theorem zuQ (k:St->Option Ans):st.shared k=k st:=by
 unfold St.shared;rw[zqY];split
 .rename_i r R ro h;simp only[share]
  congr 1
  cases st;simp only at h;subst h;rfl
 .rfl
theorem zPs (o:Oper)(d:Dl)(k:St->Option Ans):wrote o d st k=k st:=by
 unfold wrote;split
 .exact zuQ k
 .rfl
theorem zNa {o:Oper}{f:FuncId}{caps:List Nat}{args:Array Operand}(h:isIn C st o=some (f,caps,args)):∃(c:Call) (x:Operand),o.op = .call c/\c.callee = .value x/\c.args=args/\st.at x=some (.fn f caps):=by
 unfold isIn at h;split at h
 .rename_i x args' at' ho;split at h
  .rename_i f' caps' hx;cases hb:byName C x f' with
   | true=>rw[hb]at h;cases h
   | false =>
    rw[hb]at h;cases h;exact ⟨_,x,ho,rfl,rfl,hx⟩
  .cases h
 .cases h
theorem zMb {d:Dl}{dst:Option Tmp}:(st.apply dst d).nid=st.nid:=by
 cases dst<;>rfl
theorem zdx {m:MV}{dst:Option Tmp}:(st.put dst m).nid=st.nid:=by
 cases dst<;>rfl
theorem zKg {base i j n:Nat}(h:i≠j)(h1:Mine (base+32*i) n):¬ Mine (base+32*j) n:=by
 intro h2;obtain ⟨a,b⟩:=h1;obtain ⟨c,d⟩:=h2;omega
theorem zg2 (hC:CfgOk C)(hH:CtrOk C)(hG:GraftOk C)(hN:NameOk C){call:zdY}(hcall:zlq C call){ops:Array Oper}{base:Nat}{k:St->Option Ans}{ans:Ans}{Q:Exit->Act->World->Prop}{V:Nat->Prop}{nid0:Nat}(hV:∀n,nid0<=n->V n)(hk:∀(U':Nat->Prop) (st':St) (E':Env) (ts':Array Value) (w':World),Sim w0 S0 U' st' E' ts' sv w'->(∀n,U' n->V n)->nid0<=st'.nid->(∀n,st'.nid<=n->¬ U' n)->k st'=some ans->Q .normal { tmps:=ts',defers:=[] } w') :
 ∀(l:List Nat) (U:Nat->Prop) (st:St) (E:Env) (ts:Array Value) (w:World),Sim w0 S0 U st E ts sv w->(∀n,U n->V n)->(∀n,st.nid<=n->¬ U n)->(∀j∈l,∀n,Mine (base+32*j) n->¬ U n/\V n)->l.Nodup->nid0<=st.nid->(∀j∈l,base+32*j+32<=st.nid) ->
  zik C call ops base k l st=some ans->wpOps C.P ops Q l { tmps:=ts,defers:=[] } w
 | [],U,st,E,ts,w,hS,hU,hF,_,_,hn0,_,h=>hk U st E ts w hS hU hn0 hF h
 | i :: rest,U,st,E,ts,w,hS,hU,hF,hM,hnd,hn0,hb,h=>by
  simp only[zik]at h;split at h
  .cases h
  .rename_i o ho;have hnd':=List.nodup_cons.1 hnd;have hMi:∀n,Mine (base+32*i) n->¬ U n:=fun n h=>(hM i (by simp) n h).1
   have hbi:=hb i (by simp)
   have next:∀{st2:St} {E2:Env} {ts2:Array Value} {w2:World},Sim w0 S0 (fun n=>U n\/Mine (base+32*i) n) st2 E2 ts2 sv w2->st2.nid=st.nid->zik C call ops base k rest st2=some ans->wpOps C.P ops Q rest { tmps:=ts2,defers:=[] } w2:=by
    intro st2 E2 ts2 w2 hS2 hn2 h2;refine zg2 hC hH hG hN hcall hV hk rest _ st2 E2 ts2 w2 hS2 ?_ ?_ ?_ hnd'.2 (by omega) (fun j hj=>by rw[hn2];exact hb j (by simp[hj])) h2
    .rintro n (hn|hn)
     .exact hU n hn
     .exact (hM i (by simp) n hn).2
    .rintro n hn (h|h)
     .exact hF n (by omega) h
     .have:=h.2;omega
    .intro j hj n hm;refine ⟨?_,(hM j (by simp[hj]) n hm).2⟩
     rintro (h|h)
     .exact (hM j (by simp[hj]) n hm).1 h
     .exact zKg (i:=i) (j:=j) (fun e=>hnd'.1 (by rw[e];exact hj)) h hm
   have weak:∀{st2:St} {E2:Env} {ts2:Array Value} {w2:World},Sim w0 S0 U st2 E2 ts2 sv w2->Sim w0 S0 (fun n=>U n\/Mine (base+32*i) n) st2 E2 ts2 sv w2 :=
    fun h=>⟨h.mem,⟨fun n R hn=>.inl (h.ids.ro n R hn),fun n cs hn=>⟨.inl (h.ids.lo n cs hn).1,fun a ha m hm=>.inl ((h.ids.lo n cs hn).2 a ha m hm)⟩,fun m hm n hn=>.inl (h.ids.tm m hm n hn),fun f hf m hm n hn=>.inl (h.ids.stk f hf m hm n hn)⟩,h.tm,h.stk⟩
   simp only[wpOps,ho];rcases zEr hS h with ⟨hw,hrun⟩|⟨hw,hskip⟩
   .rw [if_pos hw];refine .inl ?_;split at hrun
    .rename_i f caps args hin;split at hrun
     .rename_i vs hvs;obtain ⟨c,x,hop,hcb,rfl,hx⟩:=zNa hin;obtain ⟨hxv,hxi⟩:=zbb hS hx;obtain ⟨cv,hcv,hcs,hcp⟩:=hxv;obtain ⟨hvl,hvf⟩:=zgG hvs;have hvals:(c.args.map ({ tmps:=ts,defers:=[] }:Act).eval++cv).size=(vs++caps.map fun l=>MV.v (.at (.lp l 0))).length:=by
       simp[hcs,<- hvl]
      have hargs:∀(i:Nat) (m:MV) (v:Value),(vs++caps.map fun l=>MV.v (.at (.lp l 0)))[i]?=some m->(c.args.map ({ tmps:=ts,defers:=[] }:Act).eval++cv)[i]?=some v->VM w st E m v/\∀n∈m.ids,U n:=by
       intro i m v hm hv;have hsz:(c.args.map ({ tmps:=ts,defers:=[] }:Act).eval).size=vs.length:=by simp[<- hvl]
       by_cases hi:i<vs.length
       .rw [qT hi]at hm;rw[jX (by rw[hsz];exact hi),uM]at hv
        cases ha:c.args[i]? with
        | none=>rw[ha]at hv;cases hv
        | some y =>
         rw[ha]at hv;cases hv;exact zbk hS (hvf i y m (by simpa using ha) hm)
       .rw [qQ (by omega),qM]at hm
        rw[kD (by rw[hsz];omega),hsz]at hv
        cases hc:caps[i-vs.length]? with
        | none=>rw[hc]at hm;cases hm
        | some l =>
         rw[hc]at hm;cases hm;refine ⟨hcp _ l v hc hv,fun n hn=>hxi n ?_⟩;rw[zb6]at hn;simp only[At.ids,zN,zU,jN,qE]at hn;subst hn;simp only[At.ids,zN,zU,jN];exact qI hc
      obtain ⟨⟨fn,b,hf,hb'⟩,hcalls⟩:=hcall f _ st _ ans hrun w0 S0 U E ts sv w (c.args.map ({ tmps:=ts,defers:=[] }:Act).eval++cv) (fun v w'=>wpOps C.P ops Q rest (({ tmps:=ts,defers:=[] }:Act).put o.dst v) w') hS hF hvals
       (fun i m v hm hv=>(hargs i m v hm hv).1) (fun m hm n hn=>by
        obtain ⟨i,hi⟩:=qR.1 hm;have hlt:i<(c.args.map ({ tmps:=ts,defers:=[] }:Act).eval++cv).size:=by rw[hvals];exact (qA.1 hi).1
        exact (hargs i m _ hi (jR hlt)).2 n hn)
       (fun U' st' E' w' rs v hS' hU' hnid hF' hv hi hkk=>by
        have hS2:=hS'.putV (dst:=o.dst) hv hi;rw[ze6];refine zg2 hC hH hG hN hcall hV hk rest U' _ E' _ w' hS2 ?_ (by rw[zdx];exact hF') ?_ hnd'.2 (by rw[zdx];omega) (fun j hj=>by rw[zdx];have:=hb j (by simp[hj]);omega) hkk
        .intro n hn;rcases hU' n hn with h|h
         .exact hU n h
         .exact hV n (by omega)
        .intro j hj n hm;refine ⟨fun hn=>?_,(hM j (by simp[hj]) n hm).2⟩
         rcases hU' n hn with h|h
         .exact (hM j (by simp[hj]) n hm).1 h
         .have:=hb j (by simp[hj])
          have:=hm.2;omega)
      have hname:=hN.ok f fn hf;have hname':fn.name≠ "runtime.NumGoroutine":=by simpa using hname
      have hexec:(execOp ({ tmps:=ts,defers:=[] }:Act).eval o).run C.P w = .ok (.enter f (c.args.map ({ tmps:=ts,defers:=[] }:Act).eval++cv)) w:=by
       simp[execOp,hop,resolve,hcb,hcv,Deferred.ofValue,invoke,callFunc,hf,hb',hname']
      unfold Oper.wp;rw[hexec,Oper.upon_enter];refine hcalls.mono ?_;intro e w' he;cases e with
      | returned v=>exact he
      | panicked chain=>exact he.elim
      | outgrown=>exact he.elim
     .cases hrun
    .unfold step1 at hrun;simp only[zPs,zuQ]at hrun;split at hrun
     .rename_i d hd;cases hdc:d.c with
      | false=>rw[hdc]at hrun;cases hrun
      | true =>
       rw[hdc]at hrun;simp only[cond_true]at hrun;refine zwo hC hH hS hMi hd hdc _ _ (fun E' v w' hS'=>?_);rw[ze6];exact next hS' zMb hrun
     .split at hrun
      .rename_i c st2 hg;cases hcc:c with
       | false=>rw[hcc]at hrun;cases hrun
       | true =>
        rw[hcc]at hrun;simp only[cond_true]at hrun;obtain ⟨hgo,hgn⟩:=hG.ok w0 w S0 U st E ts sv o (base+32*i) c st2 hS hg hcc;refine hgo _ _ (fun E' v w' hS'=>?_);rw[ze6];exact next hS' (by rw[zdx];exact hgn) hrun
      .split at hrun
       .rename_i c st2 m hg;cases hcc:c with
        | false=>rw[hcc]at hrun;cases hrun
        | true =>
         rw[hcc]at hrun;simp only[cond_true]at hrun;obtain ⟨hgo,hgn⟩:=hG.mok w0 w S0 U st E ts sv o (base+32*i) c st2 m hS hg hcc;refine hgo _ _ (fun E' v w' hS'=>?_);rw[ze6];exact next hS' (by rw[zdx];exact hgn) hrun
       .split at hrun
        .rename_i c st2 m hg;cases hcc:c with
         | false=>rw[hcc]at hrun;cases hrun
         | true =>
          rw[hcc]at hrun;simp only[cond_true]at hrun;obtain ⟨hgo,hgn⟩:=hG.pok w0 w S0 U st E ts sv o (base+32*i) c st2 m hS hMi hg hcc;refine hgo _ _ (fun E' v w' hS'=>?_);rw[ze6];exact next hS' (by rw[zdx];exact hgn) hrun
        .split at hrun
         .rename_i c st2 m hg;cases hcc:c with
          | false=>rw[hcc]at hrun;cases hrun
          | true =>
           rw[hcc]at hrun;simp only[cond_true]at hrun;obtain ⟨hgo,hgn⟩:=hG.tok w0 w S0 U st E ts sv o (base+32*i) c st2 m hS hMi hg hcc;refine hgo _ _ (fun E' v w' hS'=>?_);rw[ze6];exact next hS' (by rw[zdx];exact hgn) hrun
         .cases hrun
   .rw [if_neg (by simp[hw])]
    have hS2:=hS.putV (dst:=o.dst) (m:=.und) (v:=undef) rfl (fun n hn=>by simp[MV.ids,zX]at hn)
    rw[ze6];exact next (weak hS2) zdx hskip
end
section
variable {C:Cfg} {w0 w w1:World} {S0:zI} {U:Nat->Prop} {st st1:St} {E E1:Env} {ts:Array Value} {sv:List (Array Value)}
def Ext (l l':List (Nat×Nat)):Prop:=∀k v,zf l k=some v->zf l' k=some v
def Inj (l:List (Nat×Nat)):Prop:=∀k k' v,zf l k=some v->zf l k'=some v->k=k'
theorem zmy {l l':List (Nat×Nat)}{k v:Nat}(h:zmx l k v=some l'):Ext l l'/\zf l' k=some v/\(Inj l->Inj l'):=by
 unfold zmx at h;split at h
 .rename_i u hu;split at h
  .rename_i he;simp only[qH]at he;subst he;cases h;exact ⟨fun _ _ h=>h,hu,fun h=>h⟩
  .cases h
 .rename_i hn;split at h
  .cases h
  .rename_i hany;cases h;have hnv:∀k',zf l k'≠some v:=by
    intro k' hk';have:=zkr hk';exact hany (kX.2 ⟨(k',v),this,by simp⟩)
   refine ⟨fun k' v' h=>?_,by simp[zf],fun hI k1 k2 v' h1 h2=>?_⟩
   .simp only [zf];split
    .rename_i he;simp only[qH]at he;subst he;rw[hn]at h;cases h
    .exact h
   .simp only [zf]at h1 h2;split at h1<;>split at h2
    .rename_i e1 e2;simp only[qH] at e1 e2;exact e1.symm.trans e2
    .cases h1;exact absurd h2 (hnv _)
    .cases h2;exact absurd h1 (hnv _)
    .exact hI k1 k2 v' h1 h2
structure ExtB (B B':Bnd):Prop where
 r:Ext B.r B'.r
 l:Ext B.l B'.l
 ir:Inj B.r->Inj B'.r
 il:Inj B.l->Inj B'.l
theorem ExtB.refl (B:Bnd):ExtB B B:=⟨fun _ _ h=>h,fun _ _ h=>h,fun h=>h,fun h=>h⟩
theorem ExtB.trans {A B D:Bnd}(h:ExtB A B)(h':ExtB B D):ExtB A D :=
 ⟨fun k v x=>h'.r k v (h.r k v x),fun k v x=>h'.l k v (h.l k v x),fun x=>h'.ir (h.ir x),fun x=>h'.il (h.il x)⟩
def zkn (B:Bnd)(base:Nat)(x:At):At->Prop
 | .bad=>True
 | .i k n=>x = .i k n
 | .b y=>x = .b y
 | .sl r1 p=>∃r r',x = .sl r' p/\r1=base+r/\zf B.r r=some r'
 | .lp l1 off=>∃l l',x = .lp l' off/\l1=base+l/\zf B.l l=some l'
 | .ep r1 p i off=>∃r r',x = .ep r' p i off/\r1=base+r/\zf B.r r=some r'
 | .fn f caps1=>∃caps',x = .fn f caps'/\caps1.length=caps'.length/\∀(k l1 l':Nat),caps1[k]?=some l1->caps'[k]?=some l'->∃l,l1=base+l/\zf B.l l=some l'
 | .kp r1 J t=>∃r r',x = .kp r' J t/\r1=base+r/\zf B.r r=some r'
theorem zkn.mono {B B':Bnd}{base:Nat}{x x1:At}(h:zkn B base x x1)(he:ExtB B B'):zkn B' base x x1:=by
 cases x1 with
 | bad=>trivial
 | i k n=>exact h
 | b y=>exact h
 | sl r1 p=>obtain ⟨r,r',h1,h2,h3⟩:=h;exact ⟨r,r',h1,h2,he.r _ _ h3⟩
 | lp l1 off=>obtain ⟨l,l',h1,h2,h3⟩:=h;exact ⟨l,l',h1,h2,he.l _ _ h3⟩
 | ep r1 p i off=>obtain ⟨r,r',h1,h2,h3⟩:=h;exact ⟨r,r',h1,h2,he.r _ _ h3⟩
 | kp r1 J t=>obtain ⟨r,r',h1,h2,h3⟩:=h;exact ⟨r,r',h1,h2,he.r _ _ h3⟩
 | fn f caps =>
  obtain ⟨c',h1,h2,h3⟩:=h;refine ⟨c',h1,h2,fun k l1 l' hk hk'=>?_⟩;obtain ⟨l,h4,h5⟩:=h3 k l1 l' hk hk';exact ⟨l,h4,he.l _ _ h5⟩
theorem zx0:∀{js:List Nat} {p:List (Int×Nat)} {cs:List CV},idx js p=some cs->∀rest,zpZ js (cs++rest)=some (p,rest)
 | [],[],cs,h,rest=>by cases h;rfl
 | [],_ :: _,cs,h,_=>by simp[idx]at h
 | _ :: _,[],cs,h,_=>by simp[idx]at h
 | j :: js,(i,j') :: p,cs,h,rest=>by
  simp only[idx]at h;split at h
  .rename_i he;simp only[qH]at he;subst he;split at h
   .rename_i cs' hcs;cases h;simp[zpZ,zx0 hcs rest]
   .cases h
  .cases h
theorem zK4 {l:List (Nat×Nat)}:l.foldl (fun (acc:Option (List (Nat×Nat))) x=>match acc with|some bl=>zmx bl x.1 x.2|none=>none) none=none:=by
 induction l with
 | nil=>rfl
 | cons a l ih=>exact ih
theorem zzn:∀{cs cs':List Nat} {l l':List (Nat×Nat)},cs.length=cs'.length->(cs.zip cs').foldl (fun (acc:Option (List (Nat×Nat))) x=>match acc with|some bl=>zmx bl x.1 x.2|none=>none) (some l)=some l' ->
 Ext l l'/\(Inj l->Inj l')/\∀(k a b:Nat),cs[k]?=some a->cs'[k]?=some b->zf l' a=some b
 | [],[],l,l',_,h=>by cases h;exact ⟨fun _ _ h=>h,fun h=>h,fun k a b h=>by simp at h⟩
 | [],_ :: _,_,_,h,_=>by simp at h
 | _ :: _,[],_,_,h,_=>by simp at h
 | c :: cs,c' :: cs',l,l',hl,h=>by
  simp only[List.zip_cons_cons,List.foldl_cons]at h;cases hb:zmx l c c' with
  | none=>rw[hb,zK4]at h;cases h
  | some l1 =>
   rw[hb]at h;obtain ⟨h1,h2,h3⟩:=zmy hb;obtain ⟨g1,g2,g3⟩:=zzn (by simpa using hl) h
   refine ⟨fun k v x=>g1 k v (h1 k v x),fun x=>g2 (h3 x),fun k a b ha hb'=>?_⟩;cases k with
   | zero=>simp at ha hb';subst ha hb';exact g1 _ _ h2
   | succ k=>exact g3 k a b (by simpa using ha) (by simpa using hb')
theorem zpx {B B':Bnd}{a:AT}{x:At}{cs:List CV}(base:Nat)(h:zuU B a x=some (B',cs)):ExtB B B'/\∀rest,∃x1,putAt base a (cs++rest)=some (x1,rest)/\zkn B' base x x1:=by
 unfold zuU at h;split at h
 .cases h;exact ⟨ExtB.refl _,fun rest=>⟨.bad,rfl,trivial⟩⟩
 .split at h
  .rename_i k k' n hk;subst hk;cases h;exact ⟨ExtB.refl _,fun rest=>⟨.i k n,rfl,rfl⟩⟩
  .cases h
 .rename_i y;cases h;exact ⟨ExtB.refl _,fun rest=>⟨.b y,rfl,rfl⟩⟩
 .rename_i r js r' p;split at h
  .rename_i br cs' hb hi;cases h;obtain ⟨h1,h2,h3⟩:=zmy hb;exact ⟨⟨h1,fun _ _ h=>h,h3,fun h=>h⟩,fun rest=>⟨.sl (base+r) p,by simp[putAt,zx0 hi rest],r,r',rfl,rfl,h2⟩⟩
  .cases h
 .rename_i l off l' off';split at h
  .rename_i he;simp only[qH]at he;subst he;split at h
   .rename_i bl hb;cases h;obtain ⟨h1,h2,h3⟩:=zmy hb;exact ⟨⟨fun _ _ h=>h,h1,fun h=>h,h3⟩,fun rest=>⟨.lp (base+l) off,rfl,l,l',rfl,rfl,h2⟩⟩
   .cases h
  .cases h
 .rename_i r js off r' p i off';split at h
  .rename_i he;simp only[qH]at he;subst he;split at h
   .rename_i br cs' hb hi;cases h;obtain ⟨h1,h2,h3⟩:=zmy hb;exact ⟨⟨h1,fun _ _ h=>h,h3,fun h=>h⟩,fun rest=>⟨.ep (base+r) p i off,by simp[putAt,zx0 hi],r,r',rfl,rfl,h2⟩⟩
   .cases h
  .cases h
 .rename_i f caps f' caps';split at h
  .rename_i he;simp only[qD,qH]at he;obtain ⟨rfl,hl⟩:=he;split at h
   .rename_i bl hb;cases h;obtain ⟨h1,h2,h3⟩:=zzn hl hb;refine ⟨⟨fun _ _ h=>h,h1,fun h=>h,h2⟩,fun rest=>⟨.fn f (caps.map fun l=>base+l),rfl,caps',rfl,by simpa using hl,fun k l1 l' hk hk'=>?_⟩⟩
    rw[qM]at hk;cases hc:caps[k]? with
    | none=>rw[hc]at hk;cases hk
    | some l =>
     rw[hc]at hk;cases hk;exact ⟨l,rfl,h3 k l l' hc hk'⟩
   .cases h
  .cases h
 .cases h
theorem zw7 (base:Nat):∀{l:List (Nat×AT)} {B B':Bnd} {cs:List CV},zBb st B l=some (B',cs)->ExtB B B'/\∀rest tm,∃tm',zFF base l (cs++rest) tm=some (tm',rest)/\tm'.length=tm.length /\
 ∀(n:Nat) (m1:MV),tm'[n]?=some m1->tm[n]?=some m1\/∃x x1,st.tm[n]?=some (.v (.at x))/\m1 = .v (.at x1)/\zkn B' base x x1
 | [],B,B',cs,h=>by cases h;exact ⟨ExtB.refl _,fun rest tm=>⟨tm,rfl,rfl,fun n m1 h=>.inl h⟩⟩
 | (n,a) :: r,B,B',cs,h=>by
  simp only[zBb]at h;split at h
  .rename_i x hx;split at h
   .rename_i B1 cs1 h1;split at h
    .rename_i B2 cs2 h2;cases h;obtain ⟨e1,p1⟩:=zpx base h1;obtain ⟨e2,p2⟩:=zw7 base h2;refine ⟨e1.trans e2,fun rest tm=>?_⟩;obtain ⟨x1,q1,c1⟩:=p1 (cs2++rest);obtain ⟨tm',q2,q3,q4⟩:=p2 rest (tm.set n (.v (.at x1)));refine ⟨tm',by simp[zFF,kC,q1,q2],by simpa using q3,fun k m1 hk=>?_⟩
     rcases q4 k m1 hk with h|h
     .rw [jA]at h;split at h
      .rename_i he;subst he;split at h
       .cases h;exact .inr ⟨x,x1,hx,rfl,c1.mono e2⟩
       .cases h
      .exact .inl h
     .exact .inr h
    .cases h
   .cases h
  .cases h
theorem zqC (base:Nat):∀{l:List AT} {xs:List At} {B B':Bnd} {cs:List CV},zjy B l xs=some (B',cs)->ExtB B B'/\∀rest,∃xs1,putCells base l (cs++rest)=some (xs1,rest)/\xs1.length=xs.length /\
 ∀(j:Nat) (x x1:At),xs[j]?=some x->xs1[j]?=some x1->zkn B' base x x1
 | [],[],B,B',cs,h=>by cases h;exact ⟨ExtB.refl _,fun rest=>⟨[],rfl,rfl,fun j x x1 h=>by simp at h⟩⟩
 | [],_ :: _,_,_,_,h=>by simp[zjy]at h
 | _ :: _,[],_,_,_,h=>by simp[zjy]at h
 | a :: r,x :: y,B,B',cs,h=>by
  simp only[zjy]at h;split at h
  .rename_i B1 cs1 h1;split at h
   .rename_i B2 cs2 h2;cases h;obtain ⟨e1,p1⟩:=zpx base h1;obtain ⟨e2,p2⟩:=zqC base h2;refine ⟨e1.trans e2,fun rest=>?_⟩;obtain ⟨x1,q1,c1⟩:=p1 (cs2++rest);obtain ⟨xs1,q2,q3,q4⟩:=p2 rest;refine ⟨x1 :: xs1,by simp[putCells,kC,q1,q2],by simp[q3],fun j z z1 hz hz1=>?_⟩
    cases j with
    | zero=>simp at hz hz1;subst hz hz1;exact c1.mono e2
    | succ j=>exact q4 j z z1 (by simpa using hz) (by simpa using hz1)
   .cases h
  .cases h
theorem zw5 (base:Nat):∀{l:List (Nat×List AT)} {B B':Bnd} {cs:List CV},zA7 st B l=some (B',cs)->ExtB B B'/\∀rest,∃lo1,zFD base l (cs++rest)=some (lo1,rest) /\
 ∀(l1:Nat) (xs1:List At),zf lo1 l1=some xs1->∃l l' xs,l1=base+l/\zf B'.l l=some l'/\zf st.lo l'=some xs/\xs1.length=xs.length/\∀(j:Nat) (x x1:At),xs[j]?=some x->xs1[j]?=some x1->zkn B' base x x1
 | [],B,B',cs,h=>by cases h;exact ⟨ExtB.refl _,fun rest=>⟨[],rfl,fun l1 xs1 h=>by cases h⟩⟩
 | (l,xa) :: r,B,B',cs,h=>by
  simp only[zA7]at h;split at h
  .rename_i l' hl;split at h
   .rename_i cells hcells;split at h
    .rename_i B1 cs1 h1;split at h
     .rename_i B2 cs2 h2;cases h;obtain ⟨e1,p1⟩:=zqC base h1;obtain ⟨e2,p2⟩:=zw5 base h2;refine ⟨e1.trans e2,fun rest=>?_⟩;obtain ⟨xs1,q1,q2,q3⟩:=p1 (cs2++rest);obtain ⟨lo1,q4,q5⟩:=p2 rest;refine ⟨(base+l,xs1) :: lo1,by simp[zFD,kC,q1,q4],fun k ys hk=>?_⟩
      simp only[zf]at hk;split at hk
      .rename_i he;simp only[qH]at he;cases hk;exact ⟨l,l',cells,he.symm,(e1.trans e2).l _ _ hl,hcells,q2,fun j x x1 hx hx1=>(q3 j x x1 hx hx1).mono e2⟩
      .exact q5 k ys hk
     .cases h
    .cases h
   .cases h
  .cases h
theorem zw6 (base:Nat){B:Bnd}:∀{l:List (Nat×Ty×Bool)} {cs:List CV},zA8 st B l=some cs->∃ro1,zFE base l cs=some ro1 /\
 ∀(r1:Nat) (R1:Root),zf ro1 r1=some R1->∃r r',r1=base+r/\zf B.r r=some r'/\zf st.ro r'=some R1/\R1.ep=none
 | [],cs,h=>by cases h;exact ⟨[],rfl,fun r1 R1 h=>by cases h⟩
 | (r,t,own) :: rest,cs,h=>by
  simp only[zA8]at h;split at h
  .rename_i r' hr;split at h
   .rename_i R hR;split at h
    .rename_i hc;split at h
     .rename_i cs' hcs;cases h;obtain ⟨ro1,q1,q2⟩:=zw6 base hcs;refine ⟨(base+r,⟨R.t,R.l,own,none⟩) :: ro1,by simp[zFE,q1],fun k R1 hk=>?_⟩
      simp only[zf]at hk;split at hk
      .rename_i he;simp only[qH]at he;cases hk;have:(⟨R.t,R.l,own,none⟩:Root)=R:=by
        obtain ⟨_,h2,h3⟩:=hc;rw[<- h2,<- h3]
       rw[this];exact ⟨r,r',he.symm,hr,hR,hc.2.2⟩
      .exact q2 k R1 hk
     .cases h
    .cases h
   .cases h
  .cases h
theorem zhi:∀(sig:List CTy) (cs:List CV) (s:Dat sig),unpack sig cs=some s->packs sig s=cs
 | [],[],s,_=>rfl
 | [],_ :: _,s,h=>by simp[unpack]at h
 | .i k :: sig,cs,s,h=>by
  cases cs with
  | nil=>simp[unpack]at h
  | cons c cs =>
   cases c with
   | i k' n =>
    simp only[unpack]at h;split at h
    .rename_i hk;subst hk;split at h
     .rename_i d hd;cases h;simp[packs,zhi sig cs d hd]
     .cases h
    .cases h
   | b x=>simp[unpack]at h
   | s t l=>simp[unpack]at h
 | .b :: sig,cs,s,h=>by
  cases cs with
  | nil=>simp[unpack]at h
  | cons c cs =>
   cases c with
   | i k' n=>simp[unpack]at h
   | b x =>
    simp only[unpack]at h;split at h
    .rename_i d hd;cases h;simp[packs,zhi sig cs d hd]
    .cases h
   | s t l=>simp[unpack]at h
 | .s t :: sig,cs,s,h=>by
  cases cs with
  | nil=>simp[unpack]at h
  | cons c cs =>
   cases c with
   | i k' n=>simp[unpack]at h
   | b x=>simp[unpack]at h
   | s t' l =>
    simp only[unpack]at h;split at h
    .rename_i hk;subst hk;split at h
     .rename_i d hd;cases h;simp[packs,zhi sig cs d hd]
     .cases h
    .cases h
def zRS (l:List (List MV)):List (List MV):=l.map fun f=>f.map fun _=>.v (.at .bad)
theorem Stack.bad:∀{l:List (List MV)} {s:List (Array Value)},Stack w st E l s->∀(w1:World) (st1:St) (E1:Env),Stack w1 st1 E1 (zRS l) s
 | [],[],_,_,_,_=>trivial
 | f :: r,ts :: s,h,w1,st1,E1=>by
  refine ⟨⟨by simpa using h.1.1,fun i m v hm hv=>?_⟩,Stack.bad h.2 w1 st1 E1⟩
  rw[qM]at hm;cases hf:f[i]? with
  | none=>rw[hf]at hm;cases hm
  | some y=>rw[hf]at hm;cases hm;trivial
 | [],_ :: _,h,_,_,_=>h.elim
 | _ :: _,[],h,_,_,_=>h.elim
def newEnv (B:Bnd)(base:Nat)(E:Env):Env where
 ρ n:=match zf B.r (n-base) with|some r=>E.ρ r|none=>undef
 φ n:=match zf B.r (n-base) with|some r=>E.φ r|none=>fun _=>False
 β n:=match zf B.l (n-base) with|some l=>E.β l|none=>0
 κ:=E.κ
theorem zkn.va {B:Bnd}{base:Nat}{x x1:At}{v:Value}(h:zkn B base x x1)(hv:VA w st E x v)(hr:∀(r r':Nat) (R1:Root),zf B.r r=some r'->st1.root (base+r)=some R1->st.root r'=some R1)(hl:∀(l l':Nat) (xs1:List At),zf B.l l=some l'->zf st1.lo (base+l)=some xs1->∃xs,zf st.lo l'=some xs):VA w st1 (newEnv B base E) x1 v:=by
 have er:∀{r r':Nat},zf B.r r=some r'->(newEnv B base E).ρ (base+r)=E.ρ r':=fun h=>by simp[newEnv,h]
 have el:∀{l l':Nat},zf B.l l=some l'->(newEnv B base E).β (base+l)=E.β l':=fun h=>by simp[newEnv,h]
 cases x1 with
 | bad=>trivial
 | i k n=>cases h;exact hv
 | b y=>cases h;exact hv
 | sl r1 p =>
  obtain ⟨r,r',rfl,rfl,h3⟩:=h;refine ⟨hv.1,fun R1 hR1=>?_⟩;rw[er h3];exact hv.2 R1 (hr r r' R1 h3 hR1)
 | lp l1 off =>
  obtain ⟨l,l',rfl,rfl,h3⟩:=h;refine ⟨hv.1,fun xs1 h1=>?_⟩;rw[el h3];obtain ⟨xs,hxs⟩:=hl l l' xs1 h3 h1;exact hv.2 xs hxs
 | ep r1 p i off =>
  obtain ⟨r,r',rfl,rfl,h3⟩:=h;refine ⟨hv.1,fun R1 hR1=>?_⟩;rw[er h3];exact hv.2 R1 (hr r r' R1 h3 hR1)
 | fn f caps1 =>
  obtain ⟨caps',rfl,hlen,h3⟩:=h;obtain ⟨vs,g1,g2,g3⟩:=hv;refine ⟨vs,g1,by rw[g2,hlen],fun k l1 u hk hu=>?_⟩
  have hlt:k<caps'.length:=by rw[<- hlen];exact (qA.1 hk).1
  have hk':=qB hlt;obtain ⟨l,rfl,h5⟩:=h3 k l1 _ hk hk';obtain ⟨g4,g5⟩:=g3 k _ u hk' hu;refine ⟨g4,fun xs1 h1=>?_⟩;rw[el h5];obtain ⟨xs,hxs⟩:=hl l _ xs1 h5 h1;exact g5 xs hxs
 | kp r1 J t =>
  obtain ⟨r,r',rfl,rfl,h3⟩:=h;refine ⟨hv.1,fun R1 hR1=>?_⟩;rw[er h3];exact hv.2 R1 (hr r r' R1 h3 hR1)
theorem zkn.ids {B:Bnd}{base:Nat}{x x1:At}(h:zkn B base x x1){n:Nat}(hn:n∈x1.ids):∃k v,n=base+k/\(zf B.r k=some v\/zf B.l k=some v):=by
 cases x1 with
 | bad=>simp[At.ids,zN,zU]at hn
 | i k m=>simp[At.ids,zN,zU]at hn
 | b y=>simp[At.ids,zN,zU]at hn
 | sl r1 p =>
  obtain ⟨r,r',rfl,rfl,h3⟩:=h;simp only[At.ids,zN,zU,qW,qE]at hn;exact ⟨r,r',hn,.inl h3⟩
 | lp l1 off =>
  obtain ⟨l,l',rfl,rfl,h3⟩:=h;simp only[At.ids,zN,zU,jN,qE]at hn;exact ⟨l,l',hn,.inr h3⟩
 | ep r1 p i off =>
  obtain ⟨r,r',rfl,rfl,h3⟩:=h;simp only[At.ids,zN,zU,qW,qE]at hn;exact ⟨r,r',hn,.inl h3⟩
 | fn f caps1 =>
  obtain ⟨caps',rfl,hlen,h3⟩:=h;simp only[At.ids,zN,zU,jN]at hn;obtain ⟨k,hk⟩:=qR.1 hn;have hlt:k<caps'.length:=by rw[<- hlen];exact (qA.1 hk).1
  obtain ⟨l,h4,h5⟩:=h3 k n _ hk (qB hlt);exact ⟨l,_,h4,.inr h5⟩
 | kp r1 J t =>
  obtain ⟨r,r',rfl,rfl,h3⟩:=h;simp only[At.ids,zN,zU,qW,qE]at hn;exact ⟨r,r',hn,.inl h3⟩
def zyr:At->At
 | .i k n=>.i k n
 | .b x=>.b x
 | _=>.bad
def zAW (l:List (List MV)):List (List MV):=l.map fun f=>f.map (zf9 zyr)
theorem zlt:∀{p q:List (Int×Nat)},zfN p q=true->p=q
 | [],[],_=>rfl
 | [(i,j)],[(i',j')],h=>by
  simp only[zfN]at h;cases hb:Nat.beq j j' with
  | false=>rw[hb]at h;cases h
  | true =>
   rw[hb]at h;rw[kJ]at hb;simp only[cond_true,ieq,qH]at h;rw[hb,h]
 | (i,j) :: a :: p,(i',j') :: q,h=>by
  cases q with
  | nil =>
   simp only[zfN]at h;cases hb:Nat.beq j j'<;>rw [hb]at h<;>simp at h
  | cons b q =>
   simp only[zfN]at h;cases hb:Nat.beq j j' with
   | false=>rw[hb]at h;cases h
   | true =>
    rw[hb]at h;simp only[cond_true,qD,ieq,qH]at h;rw[kJ]at hb;rw[hb,h.1,zlt h.2]
 | [(i,j)],(i',j') :: b :: q,h=>by
  simp only[zfN]at h;cases hb:Nat.beq j j'<;>rw [hb]at h<;>simp at h
 | [],_ :: _,h=>by simp[zfN]at h
 | [_],[],h=>by simp[zfN]at h
 | _ :: _ :: _,[],h=>by simp[zfN]at h
theorem zxg {B:Bnd}{base r' r:Nat}(h:zqQ B base r' r=true):∃k,r=base+k/\zf B.r k=some r':=by
 simp only[zqQ,qD,Nat.ble_eq]at h;obtain ⟨h1,h2⟩:=h;split at h2
 .rename_i v hv;rw[kJ]at h2;subst h2;exact ⟨r-base,by omega,hv⟩
 .cases h2
theorem zwl {B:Bnd}{base:Nat}{a a1:At}(h:zd0 B base a a1=true):(∃k n,a1 = .i k n)\/(∃x,a1 = .b x)\/a1 = .bad\/zkn B base a a1:=by
 cases a1 with
 | bad=>exact .inr (.inr (.inl rfl))
 | i k n=>exact .inl ⟨k,n,rfl⟩
 | b x=>exact .inr (.inl ⟨x,rfl⟩)
 | sl r p =>
  cases a with
  | sl r' p' =>
   simp only[zd0]at h;cases hr:zqQ B base r' r with
   | false=>rw[hr]at h;cases h
   | true =>
    rw[hr]at h;obtain ⟨k,h1,h2⟩:=zxg hr;exact .inr (.inr (.inr ⟨k,r',by rw[zlt h],h1,h2⟩))
  | _=>simp[zd0]at h
 | lp l o =>
  cases a with
  | lp l' o' =>
   simp only[zd0,qD,Nat.ble_eq,kJ]at h;obtain ⟨⟨h1,h3⟩,h2⟩:=h;subst h3;split at h2
   .rename_i v hv;rw[kJ]at h2;subst h2;exact .inr (.inr (.inr ⟨l-base,v,rfl,by omega,hv⟩))
   .cases h2
  | _=>simp[zd0]at h
 | ep r p i o =>
  cases a with
  | ep r' p' i' o' =>
   simp only[zd0]at h;cases hr:zqQ B base r' r with
   | false=>rw[hr]at h;cases h
   | true =>
    cases ho:Nat.beq o' o with
    | false=>rw[hr,ho]at h;cases h
    | true =>
     rw[hr,ho]at h;simp only[Bool.and_self,cond_true,qD,ieq,qH]at h;rw[kJ]at ho;obtain ⟨k,h1,h2⟩:=zxg hr;exact .inr (.inr (.inr ⟨k,r',by rw[zlt h.2,h.1,ho],h1,h2⟩))
  | _=>simp[zd0]at h
 | fn f c=>cases a<;>simp [zd0]at h
 | kp r J t =>
  cases a with
  | kp r' J' t' =>
   simp only[zd0,qD,qH,qX]at h;obtain ⟨k,h1,h2⟩:=zxg h.1;exact .inr (.inr (.inr ⟨k,r',by rw[h.2.1,h.2.2],h1,h2⟩))
  | _=>simp[zd0]at h
theorem zo8 {B:Bnd}{base:Nat}:∀{l m:List At},zu4 B base l m=true->l.length=m.length/\∀(i:Nat) (a b:At),l[i]?=some a->m[i]?=some b->zd0 B base a b=true
 | [],[],_=>⟨rfl,fun i a b h=>by simp at h⟩
 | a :: l,b :: m,h=>by
  simp only[zu4,qD]at h;obtain ⟨h1,h2⟩:=zo8 h.2;refine ⟨by simp[h1],fun i x y hx hy=>?_⟩
  cases i with
  | zero=>simp at hx hy;subst hx hy;exact h.1
  | succ i=>exact h2 i x y (by simpa using hx) (by simpa using hy)
 | [],_ :: _,h=>by cases h
 | _ :: _,[],h=>by cases h
theorem zo9 {B:Bnd}{base:Nat}:∀{l m:List TV},zu5 B base l m=true->l.length=m.length/\∀(i:Nat) (a b:TV),l[i]?=some a->m[i]?=some b->ztg B base a b=true
 | [],[],_=>⟨rfl,fun i a b h=>by simp at h⟩
 | a :: l,b :: m,h=>by
  simp only[zu5,qD]at h;obtain ⟨h1,h2⟩:=zo9 h.2;refine ⟨by simp[h1],fun i x y hx hy=>?_⟩
  cases i with
  | zero=>simp at hx hy;subst hx hy;exact h.1
  | succ i=>exact h2 i x y (by simpa using hx) (by simpa using hy)
 | [],_ :: _,h=>by cases h
 | _ :: _,[],h=>by cases h
theorem ztf {B:Bnd}{base:Nat}:∀{l m:List MV},zFw B base l m=true->l.length=m.length/\∀(i:Nat) (a b:MV),l[i]?=some a->m[i]?=some b->zF4 B base a b=true
 | [],[],_=>⟨rfl,fun i a b h=>by simp at h⟩
 | a :: l,b :: m,h=>by
  simp only[zFw,qD]at h;obtain ⟨h1,h2⟩:=ztf h.2;refine ⟨by simp[h1],fun i x y hx hy=>?_⟩
  cases i with
  | zero=>simp at hx hy;subst hx hy;exact h.1
  | succ i=>exact h2 i x y (by simpa using hx) (by simpa using hy)
 | [],_ :: _,h=>by cases h
 | _ :: _,[],h=>by cases h
theorem zC6 {α β:Type}{f:α->β}{l:List α}{i:Nat}{x:α}(h:l[i]?=some x):(l.map f)[i]?=some (f x):=by
 rw[qM,h];rfl
section
variable {B:Bnd} {base:Nat} {w2:World} {st2:St} {E2:Env}
theorem zKB {a a1:At}{v:Value}(h:zd0 B base a a1=true)(hv:VA w st E a v)(hs:VA w2 st2 E2 (zyr a1) v)(hr:∀(r r':Nat) (R1:Root),zf B.r r=some r'->st1.root (base+r)=some R1->st.root r'=some R1)(hl:∀(l l':Nat) (xs1:List At),zf B.l l=some l'->zf st1.lo (base+l)=some xs1->∃xs,zf st.lo l'=some xs):VA w st1 (newEnv B base E) a1 v:=by
 rcases zwl h with ⟨k,n,rfl⟩|⟨x,rfl⟩|rfl|hc
 .exact hs
 .exact hs
 .trivial
 .exact hc.va hv hr hl
theorem zKC {x x1:TV}{v:Value}(h:ztg B base x x1=true)(hv:VT w st E x v)(hs:VT w2 st2 E2 (zld zyr x1) v)(hr:∀(r r':Nat) (R1:Root),zf B.r r=some r'->st1.root (base+r)=some R1->st.root r'=some R1)(hl:∀(l l':Nat) (xs1:List At),zf B.l l=some l'->zf st1.lo (base+l)=some xs1->∃xs,zf st.lo l'=some xs):VT w st1 (newEnv B base E) x1 v:=by
 cases x1 using tvC with
 | ap a1 =>
  cases x using tvC with
  | ap a=>exact zKB h hv hs hr hl
  | agg l=>cases h
 | agg m =>
  cases x using tvC with
  | ap a=>cases h
  | agg l =>
   obtain ⟨h1,h2⟩:=zo8 (l:=l) (m:=m) h;obtain ⟨vs,rfl,g1,g2⟩:=hv;obtain ⟨vs',e,f1,f2⟩:=hs;cases e;refine ⟨vs,rfl,by rw[g1,h1],fun j a1 u ha hu=>?_⟩
   have hlt:j<l.length:=by rw[h1];exact (qA.1 ha).1
   have hlj:=qB hlt;exact ⟨(g2 j _ u hlj hu).1,zKB (h2 j _ a1 hlj ha) (g2 j _ u hlj hu).2 (f2 j _ u (zC6 ha) hu).2 hr hl⟩
theorem zRM {x x1:MV}{v:Value}(h:zF4 B base x x1=true)(hv:VM w st E x v)(hs:VM w2 st2 E2 (zf9 zyr x1) v)(hr:∀(r r':Nat) (R1:Root),zf B.r r=some r'->st1.root (base+r)=some R1->st.root r'=some R1)(hl:∀(l l':Nat) (xs1:List At),zf B.l l=some l'->zf st1.lo (base+l)=some xs1->∃xs,zf st.lo l'=some xs):VM w st1 (newEnv B base E) x1 v:=by
 cases x1 with
 | und=>cases x with
  | und=>exact hv
  | _=>cases h
 | v y1=>cases x with
  | v y=>exact zKC h hv hs hr hl
  | _=>cases h
 | tup m =>
  cases x with
  | tup l =>
   obtain ⟨h1,h2⟩:=zo9 (l:=l) (m:=m) h;obtain ⟨vs,rfl,g1,g2⟩:=hv;obtain ⟨vs',e,f1,f2⟩:=hs;cases e;refine ⟨vs,rfl,by rw[g1,h1],fun j a1 u ha hu=>?_⟩
   have hlt:j<l.length:=by rw[h1];exact (qA.1 ha).1
   have hlj:=qB hlt;exact zKC (h2 j _ a1 hlj ha) (g2 j _ u hlj hu) (f2 j _ u (zC6 ha) hu) hr hl
  | _=>cases h
theorem zA4 (hr:∀(r r':Nat) (R1:Root),zf B.r r=some r'->st1.root (base+r)=some R1->st.root r'=some R1)(hl:∀(l l':Nat) (xs1:List At),zf B.l l=some l'->zf st1.lo (base+l)=some xs1->∃xs,zf st.lo l'=some xs):∀{stk stk1:List (List MV)} {sv:List (Array Value)},zea B base stk stk1=true->Stack w st E stk sv->Stack w2 st2 E2 (zAW stk1) sv ->
 Stack w st1 (newEnv B base E) stk1 sv
 | [],[],sv,_,h,_=>by cases sv<;>first|trivial|exact h.elim
 | f :: stk,g :: stk1,sv,hc,h,hs=>by
  cases sv with
  | nil=>exact h.elim
  | cons ts sv =>
   simp only[zea,qD]at hc;obtain ⟨h1,h2⟩:=ztf hc.1;refine ⟨⟨by rw[h.1.1,h1],fun i m v hm hv=>?_⟩,zA4 hr hl hc.2 h.2 hs.2⟩
   have hlt:i<f.length:=by rw[h1];exact (qA.1 hm).1
   have hf:=qB hlt;exact zRM (h2 i _ m hf hm) (h.1.2 i _ v hf hv) (hs.1.2 i _ v (zC6 hm) hv) hr hl
 | [],_ :: _,_,hc,_,_=>by cases hc
 | _ :: _,[],_,hc,_,_=>by cases hc
theorem zKO {a a1:At}(h:zd0 B base a a1=true){n:Nat}(hn:n∈a1.ids):∃k v,n=base+k/\(zf B.r k=some v\/zf B.l k=some v):=by
 rcases zwl h with ⟨k,m,rfl⟩|⟨x,rfl⟩|rfl|hc
 .simp [At.ids,zN,zU]at hn
 .simp [At.ids,zN,zU]at hn
 .simp [At.ids,zN,zU]at hn
 .exact hc.ids hn
theorem zzs {x x1:TV}(h:ztg B base x x1=true){b:At}(hb:b∈zy x1):∃a,zd0 B base a b=true:=by
 cases x1 using tvC with
 | ap a1 =>
  cases x using tvC with
  | ap a=>simp only[zy,qE]at hb;subst hb;exact ⟨a,h⟩
  | agg l=>cases h
 | agg m =>
  cases x using tvC with
  | ap a=>cases h
  | agg l =>
   obtain ⟨h1,h2⟩:=zo8 (l:=l) (m:=m) h;obtain ⟨i,hi⟩:=qR.1 hb;have hlt:i<l.length:=by rw[h1];exact (qA.1 hi).1
   exact ⟨_,h2 i _ b (qB hlt) hi⟩
theorem zwm:∀{stk stk1:List (List MV)},zea B base stk stk1=true->∀f∈stk1,∀m∈f,∀n∈m.ids,∃k v,n=base+k/\(zf B.r k=some v\/zf B.l k=some v)
 | [],[],_,f,hf,_,_,_,_=>by cases hf
 | g :: stk,g1 :: stk1,hc,f,hf,m,hm,n,hn=>by
  simp only[zea,qD]at hc;rcases qG.1 hf with rfl|hf
  .obtain ⟨h1,h2⟩:=ztf hc.1;obtain ⟨i,hi⟩:=qR.1 hm;have hlt:i<g.length:=by rw[h1];exact (qA.1 hi).1
   have hmv:=h2 i _ m (qB hlt) hi;simp only[MV.ids,qP]at hn;obtain ⟨b,hb,hn⟩:=hn;have:∃a,zd0 B base a b=true:=by
    generalize g[i]=x at hmv;cases m with
    | und=>simp[zX]at hb
    | v y1 =>
     cases x with
     | v y=>exact zzs hmv hb
     | _=>cases hmv
    | tup l1 =>
     cases x with
     | tup l =>
      obtain ⟨k1,k2⟩:=zo9 (l:=l) (m:=l1) hmv;simp only[zX,qP]at hb;obtain ⟨y,hy,hb⟩:=hb;obtain ⟨j,hj⟩:=qR.1 hy;have hlj:j<l.length:=by rw[k1];exact (qA.1 hj).1
      exact zzs (k2 j _ y (qB hlj) hj) hb
     | _=>cases hmv
   obtain ⟨a,ha⟩:=this;exact zKO ha hn
  .exact zwm hc.2 f hf m hm n hn
 | [],_ :: _,hc,_,_,_,_,_,_=>by cases hc
 | _ :: _,[],hc,_,_,_,_,_,_=>by cases hc
theorem zQO {a:At}{v:Value}(h:VA w st E a v):VA w2 st2 E2 (zyr (zlB B base a)) v:=by
 cases a with
 | i k n=>exact h
 | b x=>exact h
 | sl r p=>simp only[zlB];split<;>trivial
 | lp l o=>simp only[zlB];split<;>trivial
 | ep r p i o=>simp only[zlB];split<;>trivial
 | kp r J t=>simp only[zlB];split<;>trivial
 | _=>trivial
theorem zQP {x:TV}{v:Value}(h:VT w st E x v):VT w2 st2 E2 (zld zyr (zld (zlB B base) x)) v:=by
 cases x using tvC with
 | ap a=>exact zQO h
 | agg l =>
  obtain ⟨vs,h1,h2,h3⟩:=h;refine ⟨vs,h1,by simp[h2],fun j a u ha hu=>?_⟩
  rw[qM,qM]at ha;cases hl:l[j]? with
  | none=>rw[hl]at ha;cases ha
  | some b=>rw[hl]at ha;cases ha;exact ⟨(h3 j b u hl hu).1,zQO (h3 j b u hl hu).2⟩
theorem zS4 {m:MV}{v:Value}(h:VM w st E m v):VM w2 st2 E2 (zf9 zyr (zf9 (zlB B base) m)) v:=by
 cases m with
 | und=>exact h
 | v x=>exact zQP h
 | tup l =>
  obtain ⟨vs,h1,h2,h3⟩:=h;refine ⟨vs,h1,by simp[h2],fun j a u ha hu=>?_⟩
  rw[qM,qM]at ha;cases hl:l[j]? with
  | none=>rw[hl]at ha;cases ha
  | some b=>rw[hl]at ha;cases ha;exact zQP (h3 j b u hl hu)
theorem zyt:∀{stk:List (List MV)} {sv:List (Array Value)},Stack w st E stk sv->Stack w2 st2 E2 (zAW (zm8 B base stk)) sv
 | [],[],_=>trivial
 | f :: r,ts :: s,h=>by
  refine ⟨⟨by simp[h.1.1],fun i m v hm hv=>?_⟩,zyt h.2⟩
  rw[qM,qM]at hm;cases hf:f[i]? with
  | none=>rw[hf]at hm;cases hm
  | some y=>rw[hf]at hm;cases hm;exact zS4 (h.1.2 i y v hf hv)
 | [],_ :: _,h=>h.elim
 | _ :: _,[],h=>h.elim
end
theorem zBa:∀{l:List (Nat×Nat×Nat×AT)} {B B':Bnd},zA9 st B l=some B'->ExtB B B'
 | [],B,B',h=>by
  cases h;exact .refl B
 | (f,s,k,a) :: r,B,B',h=>by
  simp only[zA9]at h;split at h
  .split at h
   .rename_i B1 hB;exact (zpx 0 hB).1.trans (zBa h)
   .cases h
  .cases h
theorem zIn (hS:Sim w0 S0 U st E ts sv w){T:Tmpl}{B:Bnd}{cs:List CV}(h:T.takeB st=some (B,cs))(base:Nat){stk0:List (List MV)}(hstk:∀(w1:World) (st1:St) (E1:Env),Stack w1 st1 E1 (zAW stk0) sv)(hco:zea B base st.stk stk0=true) :
 ∃st1 E1,T.put base cs=some st1/\Sim w0 S0 (fun n=>base<=n/\n<base+1000) { st1 with stk:=stk0 } E1 ts sv w/\st1.nid=base+1000:=by
 unfold Tmpl.takeB at h;split at h
 .rename_i hn;simp only[qH]at hn;split at h
  .rename_i B1 cs1 h1;split at h
   rotate_left
   .cases h
   rename_i Bk hk;split at h
   .rename_i Bx cs2 h2;split at h
    .rename_i cs3 h3;split at h
     .rename_i hok;cases h;obtain ⟨e1,p1⟩:=zw7 base h1;obtain ⟨e2',p2⟩:=zw5 base h2;have e2:=(zBa hk).trans e2';obtain ⟨ro1,q5,q6⟩:=zw6 base h3;obtain ⟨tm',q1,q2,q3⟩:=p1 (cs2++cs3) (List.replicate T.n (.v (.at .bad)));obtain ⟨lo1,q7,q8⟩:=p2 cs3;have hinj:∀{l:List (Nat×Nat)},l=[]->Inj l:=fun h k k' v hk=>by subst h;cases hk
      have hIr:Inj B.r:=(e1.trans e2).ir (hinj rfl);have hIl:Inj B.l:=(e1.trans e2).il (hinj rfl);simp only[zPv,qD,qS,qX]at hok;have hbr:∀{k v:Nat},zf B.r k=some v->base<=base+k/\base+k<base+1000:=fun h=>⟨by omega,by have:=hok.1 _ (zkr h);simp only at this;omega⟩
      have hbl:∀{k v:Nat},zf B.l k=some v->base<=base+k/\base+k<base+1000:=fun h=>⟨by omega,by have:=hok.2 _ (zkr h);simp only at this;omega⟩
      refine ⟨{ tm:=tm',lo:=lo1,ro:=ro1,stk:=[],nid:=base+1000,ep:=0 },newEnv B base E,?_,?_,rfl⟩
      .simp [Tmpl.put,kC,q1,q7,q5]
      .generalize hst:({ tm:=tm',lo:=lo1,ro:=ro1,stk:=stk0,nid:=base+1000,ep:=0 }:St)=st1;have hroot:∀(r1:Nat) (R1:Root),st1.root r1=some R1->∃r r',r1=base+r/\zf B.r r=some r'/\st.root r'=some R1/\R1.ep=none:=by
        intro r1 R1 hR1;have:=(zS hR1).1;rw[<- hst] at this;obtain ⟨r,r',g1,g2,g3,g4⟩:=q6 r1 R1 this;exact ⟨r,r',g1,g2,zdM g3 (.inl g4),g4⟩
       have hlo:∀(l1:Nat) (xs1:List At),zf st1.lo l1=some xs1->∃l l' xs,l1=base+l/\zf B.l l=some l'/\zf st.lo l'=some xs/\xs1.length=xs.length/\∀(j:Nat) (x x1:At),xs[j]?=some x->xs1[j]?=some x1->zkn B base x x1:=by
        intro l1 xs1 h;rw[<- hst]at h;exact q8 l1 xs1 h
       have hr':∀(r r':Nat) (R1:Root),zf B.r r=some r'->st1.root (base+r)=some R1->st.root r'=some R1:=by
        intro r r' R1 hb hR1;obtain ⟨r2,r2',g1,g2,g3,_⟩:=hroot _ R1 hR1;have:r=r2:=by omega
        subst this;rw[hb] at g2;cases g2;exact g3
       have hl':∀(l l':Nat) (xs1:List At),zf B.l l=some l'->zf st1.lo (base+l)=some xs1->∃xs,zf st.lo l'=some xs:=by
        intro l l' xs1 hb h;obtain ⟨l2,l2',xs,g1,g2,g3,_⟩:=hlo _ xs1 h;have:l=l2:=by omega
        subst this;rw[hb] at g2;cases g2;exact ⟨xs,g3⟩
       have eρ:∀{r r':Nat},zf B.r r=some r'->(newEnv B base E).ρ (base+r)=E.ρ r'/\(newEnv B base E).φ (base+r)=E.φ r':=fun h=>by simp[newEnv,h]
       have eβ:∀{l l':Nat},zf B.l l=some l'->(newEnv B base E).β (base+l)=E.β l':=fun h=>by simp[newEnv,h]
       have hM:=hS.mem;refine ⟨⟨hM.os,hM.tape,hM.output,hM.size,hM.keep,?_,?_,?_,?_,?_,?_,?_,?_,?_,hM.κ⟩,⟨?_,?_,?_,?_⟩,⟨?_,?_⟩,?_⟩
       .intro r1 R1 hR1;obtain ⟨r,r',rfl,g2,g3,_⟩:=hroot r1 R1 hR1;rw[(eρ g2).1,(eρ g2).2];exact hM.rep r' R1 g3
       .intro r1 R1 hR1 x hx;obtain ⟨r,r',rfl,g2,g3,_⟩:=hroot r1 R1 hR1;rw[(eρ g2).2]at hx;exact hM.rlt r' R1 g3 x hx
       .intro r1 R1 hR1 ho;obtain ⟨r,r',rfl,g2,g3,_⟩:=hroot r1 R1 hR1;rw[(eρ g2).2];exact hM.mine r' R1 g3 ho
       .intro hz r1 R1 hR1 ho he hf;obtain ⟨r,r',rfl,g2,g3,_⟩:=hroot r1 R1 hR1;rw[(eρ g2).2];exact hM.frz hz r' R1 g3 ho he hf
       .intro r1 R1 r2 R2 hR1 ho hR2 he hne x hx;obtain ⟨r,r',rfl,g2,g3,_⟩:=hroot r1 R1 hR1;obtain ⟨s,s',rfl,f2,f3,_⟩:=hroot r2 R2 hR2;rw[(eρ g2).2]at hx;rw[(eρ f2).2];exact hM.apart r' R1 s' R2 g3 ho f3 he (fun e=>hne (by subst e;rw[hIr r s r' g2 f2])) x hx
       .intro l1 xs1 hl1;obtain ⟨l,l',xs,rfl,g2,g3,g4,g5⟩:=hlo l1 xs1 hl1;obtain ⟨f1,vals,e,f2,f3,f4⟩:=hM.loc l' xs g3;rw[eβ g2];refine ⟨f1,vals,e,f2,by rw[f3,g4],fun j c u hc hu=>?_⟩
        have hlt:j<xs.length:=by rw[<- g4];exact (qA.1 hc).1
        have hx:=qB hlt;obtain ⟨f5,f6⟩:=f4 j _ u hx hu;exact ⟨f5,(g5 j _ c hx hc).va f6 hr' hl'⟩
       .intro l1 l2 xs1 xs2 h1 h2 he;obtain ⟨l,l',xs,rfl,g2,g3,_⟩:=hlo l1 xs1 h1;obtain ⟨s,s',ys,rfl,f2,f3,_⟩:=hlo l2 xs2 h2;rw[eβ g2,eβ f2]at he;have:=hM.linj l' s' xs ys g3 f3 he;subst this;rw[hIl l s l' g2 f2]
       .intro l1 xs1 r1 R1 h1 hR1;obtain ⟨l,l',xs,rfl,g2,g3,_⟩:=hlo l1 xs1 h1;obtain ⟨r,r',rfl,f2,f3,_⟩:=hroot r1 R1 hR1;rw[eβ g2,(eρ f2).2];exact hM.lro l' xs r' R1 g3 f3
       .intro r1 R1 e hr1 he;rw[<- hst]at hr1;obtain ⟨_,_,_,_,_,g4⟩:=q6 r1 R1 hr1;rw[g4]at he;cases he
       .intro n R hn';rw[<- hst]at hn';obtain ⟨r,r',rfl,g2,_⟩:=q6 n R hn';exact hbr g2
       .intro n xs1 hn';obtain ⟨l,l',xs,rfl,g2,g3,g4,g5⟩:=hlo n xs1 hn';refine ⟨hbl g2,fun a ha m hm=>?_⟩;obtain ⟨j,hj⟩:=qR.1 ha;have hlt:j<xs.length:=by rw[<- g4];exact (qA.1 hj).1
        obtain ⟨k,v,rfl,hk⟩:=(g5 j _ a (qB hlt) hj).ids hm;rcases hk with hk|hk
        .exact hbr hk
        .exact hbl hk
       .intro m hm n hn';rw[<- hst]at hm;obtain ⟨i,hi⟩:=qR.1 hm;rcases q3 i m hi with h|⟨x,x1,_,rfl,hc⟩
        .rw [j6]at h;split at h
         .cases h;simp[MV.ids,zX,zy,At.ids,zN,zU]at hn'
         .cases h
        .rw [zb6]at hn';obtain ⟨k,v,rfl,hk⟩:=(hc.mono e2).ids hn';rcases hk with hk|hk
         .exact hbr hk
         .exact hbl hk
       .intro f hf m hm n hn';rw[<- hst]at hf;obtain ⟨k,v,rfl,hk⟩:=zwm hco f hf m hm n hn';rcases hk with hk|hk
        .exact hbr hk
        .exact hbl hk
       .rw [<- hst]
        show ts.size=tm'.length
        rw[q2,uF,hn];exact hS.tm.1
       .intro i m v hm hv;rw[<- hst]at hm;rcases q3 i m hm with h|⟨x,x1,hx,rfl,hc⟩
        .rw [j6]at h;split at h
         .cases h;trivial
         .cases h
        .have:=hS.tm.2 i _ v hx hv;exact (hc.mono e2).va this hr' hl'
       .have e:st1.stk=stk0:=by rw[<- hst]
        rw[e];exact zA4 hr' hl' hco hS.stk (hstk w st1 E)
     .cases h
    .cases h
   .cases h
  .cases h
 .cases h
end
section
variable {C:Cfg} {w0 w w1:World} {S0:zI} {U:Nat->Prop} {st st1:St} {E E1:Env} {ts:Array Value} {sv:List (Array Value)}
structure DrawOk (C:Cfg):Prop where
 ok:∀(call:zdY),zlq C call->∀(ops:Array Oper) (k:St->Option Ans) (ans:Ans) (Q:Exit->Act->World->Prop) (w0:World) (S0:zI) (sv:List (Array Value)) (U0:Nat->Prop) (nid0:Nat) (U:Nat->Prop) (st:St) (E:Env) (ts:Array Value) (w:World),
  (∀(U':Nat->Prop) (st':St) (E':Env) (ts':Array Value) (w':World),Sim w0 S0 U' st' E' ts' sv w'->(∀n,U' n->U0 n\/nid0<=n)->nid0<=st'.nid->(∀n,st'.nid<=n->¬ U' n)->k st'=some ans->Q .normal { tmps:=ts',defers:=[] } w') ->
  Sim w0 S0 U st E ts sv w->(∀n,U n->U0 n\/nid0<=n)->(∀n,st.nid<=n->¬ U n)->nid0<=st.nid ->
  zxs C call ops k st=some ans ->
  ∀t,wpOps C.P ops Q (Region.schedule (C.P.follows .mixedOrders) ops t) { tmps:=ts,defers:=[] } { w with drawn:=w.drawn+1 }
structure EngOk (C:Cfg):Prop where
 cfg:CfgOk C
 ctr:CtrOk C
 graft:GraftOk C
 name:NameOk C
 draw:DrawOk C
def zII:Ex->Exit
 | .normal=>.normal
 | .exit id=>.exit id
 | .ret=>.ret
theorem Sim.nid (hS:Sim w0 S0 U st E ts sv w)(n:Nat):Sim w0 S0 U { st with nid:=n } E ts sv w:=by
 have T:Trans st E w { st with nid:=n } E w (fun _=>True):=⟨fun _ _ R h=>⟨R,h,rfl,fun _ _ h=>h⟩,fun _ _ cs h=>⟨⟨cs,h⟩,rfl⟩,rfl⟩;have hM:=hS.mem;exact ⟨⟨hM.os,hM.tape,hM.output,hM.size,hM.keep,hM.rep,hM.rlt,hM.mine,hM.frz,hM.apart,
  fun l cs hl=>by
   obtain ⟨h1,vals,e,h2,h3,h4⟩:=hM.loc l cs hl;exact ⟨h1,vals,e,h2,h3,fun j c u hc hu=>⟨(h4 j c u hc hu).1,VA.tr T (fun _ _=>trivial) (h4 j c u hc hu).2⟩⟩,
  hM.linj,hM.lro,hM.epo,hM.κ⟩,⟨hS.ids.ro,hS.ids.lo,hS.ids.tm,hS.ids.stk⟩,Slots.tr T (fun _ _ _ _=>trivial) hS.tm,Stack.tr T (fun _ _ _ _ _ _=>trivial) hS.stk⟩
def Conts (ans:Ans)(w0:World)(S0:zI)(sv:List (Array Value))(U0:Nat->Prop)(nid0:Nat)(k:Ex->St->Option Ans)(Q:Exit->Act->World->Prop):Prop :=
 ∀(e:Ex) (U':Nat->Prop) (st':St) (E':Env) (ts':Array Value) (w':World),Sim w0 S0 U' st' E' ts' sv w'->(∀n,U' n->U0 n\/nid0<=n)->nid0<=st'.nid->(∀n,st'.nid<=n->¬ U' n)->k e st'=some ans->Q (zII e) { tmps:=ts',defers:=[] } w'
def Sound (C:Cfg)(tm:Nat->Option Tmpl)(N:Nat)(call:zdY)(code:Code):Prop :=
 ∀(k:Ex->St->Option Ans) (ans:Ans) (Q:Exit->Act->World->Prop) (w0:World) (S0:zI) (sv:List (Array Value)) (U0:Nat->Prop) (nid0:Nat),Conts ans w0 S0 sv U0 nid0 k Q ->
  ∀(U:Nat->Prop) (st:St) (E:Env) (ts:Array Value) (w:World),Sim w0 S0 U st E ts sv w->(∀n,U n->U0 n\/nid0<=n)->nid0<=st.nid->(∀n,st.nid<=n->¬ U n) ->
   zeL C tm N call code st k=some ans->code.wp C.P Q { tmps:=ts,defers:=[] } w
theorem zL3 {tm:Nat->Option Tmpl}{N:Nat}{call:zdY}{body:Code}(hb:Sound C tm N call body)(id:Nat):Sound C tm N call (.block id (.loop body)):=by
 intro k ans Q w0 S0 sv U0 nid0 hk U st E ts w hS hU hn hF h;simp only[zeL]at h;split at h
 .cases h
 .rename_i T hT;split at h
  .cases h
  .rename_i B0 cs hcs;split at h
   .cases h
   .rename_i s0 hs0;generalize hstk1:zm8 B0 st.nid st.stk=stk1 at h;cases hco:zea B0 st.nid st.stk stk1 with
    | false=>rw[hco]at h;cases h
    | true =>
    rw[hco,cond_true]at h;refine wp_block (wp_loop_rounds N ?_);have hsc:∀(w1:World) (st1:St) (E1:Env),Stack w1 st1 E1 (zAW stk1) sv:=fun w1 st1 E1=>by rw[<- hstk1];exact zyt hS.stk
    have key:∀(n:Nat) (s:Dat T.sig) (B:Bnd) (cs:List CV) (U1:Nat->Prop) (st1:St) (E1:Env) (ts1:Array Value) (w1:World),Sim w0 S0 U1 st1 E1 ts1 sv w1->T.takeB st1=some (B,cs)->zea B st.nid st1.stk stk1=true->unpack T.sig cs=some s ->
     iter n (fun rec s =>
      match T.put st.nid (packs T.sig s) with
      | none=>none
      | some st1=>zeL C tm N call body { st1 with stk:=stk1 } fun e st'=>match e with
       | .normal=>match T.takeB st' with
        | none=>none
        | some (B',cs')=>match unpack T.sig cs' with
         | none=>none
         | some s'=>cond (zea B' st.nid st'.stk stk1) (rec s') none
       | .exit id'=>if id'==id then k .normal st' else k (.exit id') st'
       | .ret=>k .ret st') s=some ans ->
     Code.rounds C.P body (Exit.inBlock id Q) n { tmps:=ts1,defers:=[] } w1:=by
     intro n
     induction n with
     | zero=>intro s B cs U1 st1 E1 ts1 w1 _ _ _ _ h;cases h
     | succ n ih =>
      intro s B cs U1 st1 E1 ts1 w1 hS1 htk hcor hun h;simp only[iter]at h;obtain ⟨st2,E2,hput,hS2,hnid⟩:=zIn hS1 htk st.nid (stk0:=stk1) hsc hcor;rw[zhi _ _ _ hun,hput]at h;simp only at h;rw[rounds_succ];refine hb _ ans _ w0 S0 sv U0 nid0 ?_ _ _ E2 ts1 w1 hS2 (fun n hn'=>.inr (by omega)) (by show nid0<=st2.nid;omega) (fun n hn' h=>by
       have:st2.nid<=n:=hn';omega) h
      intro e U' st' E' ts' w' hS' hU' hn' hF' h';cases e with
      | normal =>
       simp only at h';split at h'
       .cases h'
       .rename_i B' cs' hcs';split at h'
        .cases h'
        .rename_i s' hs';cases hc':zea B' st.nid st'.stk stk1 with
         | false=>rw[hc']at h';cases h'
         | true =>
          rw[hc',cond_true]at h';exact ih s' B' cs' U' st' E' ts' w' hS' hcs' hc' hs' h'
      | exit id' =>
       simp only at h';simp only[zII,Exit.then,Exit.inBlock]
       split at h'
       .rename_i he;simp only[qH]at he;rw[if_pos he];exact hk .normal U' st' E' ts' w' hS' hU' hn' hF' h'
       .rename_i he;simp only[qH]at he;rw[if_neg he];exact hk (.exit id') U' st' E' ts' w' hS' hU' hn' hF' h'
      | ret=>exact hk .ret U' st' E' ts' w' hS' hU' hn' hF' h'
    exact key N s0 B0 cs U st E ts w hS hcs hco hs0 h
theorem zKX {tm:Nat->Option Tmpl}{N:Nat}{call:zdY}{id:Nat}{body:Code}(hnl:∀b,body≠.loop b)(st:St)(k:Ex->St->Option Ans) :
 zeL C tm N call (.block id body) st k=zeL C tm N call body st fun e st'=>match e with
  | .exit id'=>if id'==id then k .normal st' else k (.exit id') st'
  | e=>k e st':=by
 rw[zeL]
 .rfl
 .intro b hb;exact hnl b hb
theorem zcW {tm:Nat->Option Tmpl}{N:Nat}{call:zdY}{body:Code}(hb:Sound C tm N call body)(hnl:∀b,body≠.loop b)(id:Nat):Sound C tm N call (.block id body):=by
 intro k ans Q w0 S0 sv U0 nid0 hk U st E ts w hS hU hn hF h;rw[zKX hnl]at h;refine wp_block (hb _ ans _ w0 S0 sv U0 nid0 ?_ U st E ts w hS hU hn hF h);intro e U' st' E' ts' w' hS' hU' hn' hF' h';cases e with
 | normal=>exact hk .normal U' st' E' ts' w' hS' hU' hn' hF' h'
 | exit id' =>
  simp only at h';simp only[zII,Exit.inBlock];split at h'
  .rename_i he;simp only[qH]at he;rw[if_pos he];exact hk .normal U' st' E' ts' w' hS' hU' hn' hF' h'
  .rename_i he;simp only[qH]at he;rw[if_neg he];exact hk (.exit id') U' st' E' ts' w' hS' hU' hn' hF' h'
 | ret=>exact hk .ret U' st' E' ts' w' hS' hU' hn' hF' h'
theorem zbM (hO:EngOk C){tm:Nat->Option Tmpl}{N:Nat}{call:zdY}(hcall:zlq C call):∀(code:Code),Sound C tm N call code
 | .skip=>by
  intro k ans Q w0 S0 sv U0 nid0 hk U st E ts w hS hU hn hF h;simp only[zeL]at h;exact wp_skip (hk .normal U st E ts w hS hU hn hF h)
 | .exit id=>by
  intro k ans Q w0 S0 sv U0 nid0 hk U st E ts w hS hU hn hF h;simp only[zeL]at h;exact wp_exit (hk (.exit id) U st E ts w hS hU hn hF h)
 | .ret=>by
  intro k ans Q w0 S0 sv U0 nid0 hk U st E ts w hS hU hn hF h;simp only[zeL]at h;exact wp_ret (hk .ret U st E ts w hS hU hn hF h)
 | .region id ops false=>by
  intro k ans Q w0 S0 sv U0 nid0 hk U st E ts w hS hU hn hF h;simp only[zeL,zDY]at h;refine wp_region (zg2 hO.cfg hO.ctr hO.graft hO.name hcall (base:=st.nid) (V:=fun n=>U0 n\/nid0<=n) (fun n hn'=>.inr hn') (fun U' st' E' ts' w' hS' hU' hn' hF' h'=>hk .normal U' st' E' ts' w' hS' hU' hn' hF' h')
   (List.range ops.size) U _ E ts w (hS.nid _) hU (fun n hn'=>hF n (jF (kY _ _) hn')) (fun j _ n hm=>⟨hF n (by have:=hm.1;omega),.inr (by have:=hm.1;omega)⟩) List.nodup_range (jF hn (kY _ _)) (fun j hj=>?_) h)
  have:=kB.1 hj
  show st.nid+32*j+32<=st.nid+32*ops.size
  omega
 | .region id ops true=>by
  intro k ans Q w0 S0 sv U0 nid0 hk U st E ts w hS hU hn hF h;simp only[zeL,zDY]at h;exact wp_region_draw (hO.draw.ok call hcall ops _ ans Q w0 S0 sv U0 nid0 U st E ts w (fun U' st' E' ts' w' hS' hU' hn' hF' h'=>hk .normal U' st' E' ts' w' hS' hU' hn' hF' h') hS hU hF hn h)
 | .seq a b=>by
  intro k ans Q w0 S0 sv U0 nid0 hk U st E ts w hS hU hn hF h;simp only[zeL]at h;split at h
  .refine wp_seq (zbM hO hcall a _ ans _ w0 S0 sv U0 nid0 ?_ U st E ts w hS hU hn hF h);intro e U' st' E' ts' w' hS' hU' hn' hF' h';cases e with
   | normal=>exact zbM hO hcall b k ans Q w0 S0 sv U0 nid0 hk U' st' E' ts' w' hS' hU' hn' hF' h'
   | exit id'=>exact hk (.exit id') U' st' E' ts' w' hS' hU' hn' hF' h'
   | ret=>exact hk .ret U' st' E' ts' w' hS' hU' hn' hF' h'
  .rename_i T hT;simp only[share]at h;generalize hstk1:zCF T st=stk1 at h;have hsc:∀(w1:World) (st1:St) (E1:Env),Stack w1 st1 E1 (zAW stk1) sv:=fun w1 st1 E1=>by rw[<- hstk1];exact zyt hS.stk
   refine wp_seq (zbM hO hcall a _ ans _ w0 S0 sv U0 nid0 ?_ U st E ts w hS hU hn hF h);intro e U' st' E' ts' w' hS' hU' hn' hF' h';cases e with
   | normal =>
    simp only[zQy]at h';split at h'
    .cases h'
    .rename_i B cs hcs;split at h'
     .cases h'
     .rename_i s hs;cases hco:zea B st.nid st'.stk stk1 with
      | false=>rw[hco]at h';cases h'
      | true =>
       rw[hco,cond_true]at h';obtain ⟨st2,E2,hput,hS2,hnid⟩:=zIn hS' hcs st.nid (stk0:=stk1) hsc hco;simp only[zQz]at h';rw[zhi _ _ _ hs,hput]at h';exact zbM hO hcall b k ans Q w0 S0 sv U0 nid0 hk _ _ E2 ts' w' hS2 (fun n hn'=>.inr (by omega)) (by show nid0<=st2.nid;omega) (fun n hn' h=>by
        have:st2.nid<=n:=hn';omega) h'
   | exit id'=>exact hk (.exit id') U' st' E' ts' w' hS' hU' hn' hF' h'
   | ret=>exact hk .ret U' st' E' ts' w' hS' hU' hn' hF' h'
 | .cond c a b=>by
  intro k ans Q w0 S0 sv U0 nid0 hk U st E ts w hS hU hn hF h;simp only[zeL]at h;split at h
  .rename_i x hx;have hv:=(zbb hS hx).1;simp only[VA]at hv;cases x with
   | true=>exact wp_cond_true hv (zbM hO hcall a k ans Q w0 S0 sv U0 nid0 hk U st E ts w hS hU hn hF h)
   | false=>exact wp_cond_false hv (zbM hO hcall b k ans Q w0 S0 sv U0 nid0 hk U st E ts w hS hU hn hF h)
  .cases h
 | .block id (.loop body)=>zL3 (zbM hO hcall body) id
 | .block id .skip=>zcW (zbM hO hcall .skip) (fun _=>Code.noConfusion) id
 | .block id (.region i o d)=>zcW (zbM hO hcall (.region i o d)) (fun _=>Code.noConfusion) id
 | .block id (.seq a b)=>zcW (zbM hO hcall (.seq a b)) (fun _=>Code.noConfusion) id
 | .block id (.cond c a b)=>zcW (zbM hO hcall (.cond c a b)) (fun _=>Code.noConfusion) id
 | .block id (.block i b)=>zcW (zbM hO hcall (.block i b)) (fun _=>Code.noConfusion) id
 | .block id (.exit i)=>zcW (zbM hO hcall (.exit i)) (fun _=>Code.noConfusion) id
 | .block id .ret=>zcW (zbM hO hcall .ret) (fun _=>Code.noConfusion) id
 | .block id (.rangeFunc f p a b)=>zcW (zbM hO hcall (.rangeFunc f p a b)) (fun _=>Code.noConfusion) id
 | .block id (.scope b)=>zcW (zbM hO hcall (.scope b)) (fun _=>Code.noConfusion) id
 | .block id (.label l)=>zcW (zbM hO hcall (.label l)) (fun _=>Code.noConfusion) id
 | .block id (.goto l)=>zcW (zbM hO hcall (.goto l)) (fun _=>Code.noConfusion) id
 | .block id (.refuse y)=>zcW (zbM hO hcall (.refuse y)) (fun _=>Code.noConfusion) id
 | .loop _ | .rangeFunc .. | .scope _ | .label _ | .goto _ | .refuse _=>by
  intro k ans Q w0 S0 sv U0 nid0 hk U st E ts w hS hU hn hF h;simp[zeL]at h
def ztR (ts:Array Value):ResultVar->Sem Value
 | .tmp t=>pure (ts.getD t undef)
 | .cell a t=>do loadVar t (<- asAddr (ts.getD a undef))
theorem zma (hC:CfgOk C)(hS:Sim w0 S0 U st E ts sv w):∀(l:List ResultVar) (rs:List TV),zfY C st l=some rs ->
 ∃vs:List Value,(l.mapM (ztR ts)).run C.P w = .ok vs w/\rs.length=vs.length /\
  (∀(k:Nat) (x:TV) (u:Value),rs[k]?=some x->vs[k]?=some u->VT w st E x u)/\∀x∈rs,∀a∈zy x,∀n∈a.ids,U n
 | [],rs,h=>by
  cases h;exact ⟨[],by simp,rfl,fun k x u h=>by simp at h,fun x h=>by simp at h⟩
 | .tmp t :: r,rs,h=>by
  simp only[zfY]at h;split at h
  .rename_i x xs hx hr;cases h;obtain ⟨vs,h1,h2,h3,h4⟩:=zma hC hS r xs hr;have hlt:t<ts.size:=by rw[hS.tm.1];exact (qA.1 hx).1
   have hget:ts.getD t undef=ts[t]:=by simp[Array.getD,hlt]
   refine ⟨ts[t] :: vs,by simp[uL,ztR,h1,hlt],by simp[h2],fun k y u hy hu=>?_,fun y hy a ha n hn=>?_⟩
   .cases k with
    | zero=>simp at hy hu;subst hy hu;exact hS.tm.2 t _ _ hx (by simp[hlt])
    | succ k=>exact h3 k y u (by simpa using hy) (by simpa using hu)
   .rcases qG.1 hy with rfl|hy
    .exact hS.ids.tm _ (qI hx) n (by simp only[MV.ids,zX,qP];exact ⟨a,ha,hn⟩)
    .exact h4 y hy a ha n hn
  .cases h
 | .cell t T :: r,rs,h=>by
  simp only[zfY]at h;split at h
  .rename_i l off agg tys xs hx hT hr;obtain ⟨vs,h1,h2,h3,h4⟩:=zma hC hS r xs hr;obtain ⟨hxv,_⟩:=zbb hS hx;have hTO:=hC.cty T agg tys hT;split at h
   .rename_i cs hcs;have hxp:=hxv.2 cs hcs;simp only[Act.eval]at hxp;obtain ⟨_,vals,e,g1,g2,g3⟩:=hS.mem.loc l cs hcs;have hids:=(hS.ids.lo l cs hcs).2;split at h
    .rename_i hagg;cases hagg;split at h
     .rename_i hle;cases h;have hrun:=zj3 (P:=C.P) (w:=w) hTO g1 (by omega:off+tys.length<=vals.size)
      have hp2:ts[t]?.getD undef = .pointer (some ⟨E.β l,off,none⟩):=by simpa using hxp
      refine ⟨_ :: vs,by simp[uL,ztR,h1,hp2,asAddr,hrun];rfl,by simp[h2],fun k y u hy hu=>?_,fun y hy a ha n hn=>?_⟩
      .cases k with
       | zero =>
        simp at hy hu;subst hy hu;refine ⟨_,rfl,by simp;omega,fun j a u ha hu=>?_⟩
        simp only[jH,jK]at ha;simp only[q9,jH,jK,kL]at hu;split at ha
        .rename_i hj;rw[if_pos hj]at hu;exact g3 (off+j) a u ha hu
        .cases ha
       | succ k=>exact h3 k y u (by simpa using hy) (by simpa using hu)
      .rcases qG.1 hy with rfl|hy
       .exact hids a (kO (kA ha)) n hn
       .exact h4 y hy a ha n hn
     .cases h
    .rename_i hagg;have:agg=false:=by simpa using hagg
     subst this;split at h
     .rename_i a ha;cases h;have hlt:off<vals.size:=by rw[g2];exact (qA.1 ha).1
      have hv:vals[off]?=some vals[off]:=by simp[hlt]
      have hrun:=zj4 (P:=C.P) (w:=w) hTO g1 hv;have hp2:ts[t]?.getD undef = .pointer (some ⟨E.β l,off,none⟩):=by simpa using hxp
      refine ⟨vals[off] :: vs,by simp[uL,ztR,h1,hp2,asAddr,hrun],by simp[h2],fun k y u hy hu=>?_,fun y hy b hb n hn=>?_⟩
      .cases k with
       | zero=>simp at hy hu;subst hy hu;exact (g3 off a _ ha hv).2
       | succ k=>exact h3 k y u (by simpa using hy) (by simpa using hu)
      .rcases qG.1 hy with rfl|hy
       .simp only [zy,qE]at hb;subst hb;exact hids _ (qI ha) n hn
       .exact h4 y hy b hb n hn
     .cases h
   .cases h
  .cases h
theorem zRA (vs:List Value):(if h:vs.toArray.size=1 then vs.toArray[0] else Value.tuple vs.toArray)=zgL vs:=by
 match vs with
 | []=>rfl
 | [x]=>rfl
 | x :: y :: l=>simp[zgL]
theorem zJC (hC:CfgOk C)(hS:Sim w0 S0 U st E ts sv w){fn:Func}{rs:List TV}(h:zfY C st fn.results.toList=some rs) :
 ∃vs:List Value,(results fn ts).run C.P w = .ok (zgL vs) w/\VM w st E (ze3 rs) (zgL vs)/\(∀n∈(ze3 rs).ids,U n):=by
 obtain ⟨vs,h1,h2,h3,h4⟩:=zma hC hS _ rs h;refine ⟨vs,?_,zkF h2 h3,fun n hn=>?_⟩
 .have e:results fn ts=(do let vs <- fn.results.mapM (ztR ts);pure (if h:vs.size=1 then vs[0] else .tuple vs)):=by
   unfold results
   congr 1
  rw[e];simp only[Array.mapM_eq_mapM_toList,Sem.run_bind,Sem.run_map,h1]
  show Result.ok _ w=Result.ok _ w
  rw[<- zRA]
 .simp only [MV.ids,qP]at hn;obtain ⟨a,ha,hn⟩:=hn;obtain ⟨x,hx,ha⟩:=zkE ha;exact h4 x hx a ha n hn
end
section
variable {C:Cfg} {w0 w w1:World} {S0:zI} {U:Nat->Prop} {st st1:St} {E E1:Env} {ts:Array Value} {sv:List (Array Value)}
theorem zgz (hO:EngOk C){tms:FuncId->Nat->Option Tmpl}{N:Nat}{call:zdY}(hcall:zlq C call):zlq C (zoi C tms N call):=by
 intro f vs st k ans h w0 S0 U E ts sv w vals R hS hF hsz hv hi hk;unfold zoi at h;split at h
 .rename_i fn hf;split at h
  .rename_i body hb;refine ⟨⟨fn,body,hf,hb⟩,calls_of_wp hf hb ?_⟩;have hS1:Sim w0 S0 U { st with tm:=vs++List.replicate (fn.ntmps-vs.length) .und,stk:=st.tm :: st.stk } E (vals++Array.replicate (fn.ntmps-vals.size) undef) (ts :: sv) w:=by
    have T:Trans st E w { st with tm:=vs++List.replicate (fn.ntmps-vs.length) .und,stk:=st.tm :: st.stk } E w (fun _=>True):=⟨fun _ _ R h=>⟨R,h,rfl,fun _ _ h=>h⟩,fun _ _ cs h=>⟨⟨cs,h⟩,rfl⟩,rfl⟩;have hM:=hS.mem;refine ⟨⟨hM.os,hM.tape,hM.output,hM.size,hM.keep,hM.rep,hM.rlt,hM.mine,hM.frz,hM.apart,
     fun l cs hl=>by
      obtain ⟨h1,vals,e,h2,h3,h4⟩:=hM.loc l cs hl;exact ⟨h1,vals,e,h2,h3,fun j c u hc hu=>⟨(h4 j c u hc hu).1,VA.tr T (fun _ _=>trivial) (h4 j c u hc hu).2⟩⟩,
     hM.linj,hM.lro,hM.epo,hM.κ⟩,⟨hS.ids.ro,hS.ids.lo,fun m hm n hn=>?_,fun f hf m hm n hn=>?_⟩,⟨?_,fun i m v hm hv'=>?_⟩,Slots.tr T (fun _ _ _ _=>trivial) hS.tm,Stack.tr T (fun _ _ _ _ _ _=>trivial) hS.stk⟩
    .rcases jL.1 hm with hm|hm
     .exact hi m hm n hn
     .have:=(List.mem_replicate.1 hm).2;subst this;simp[MV.ids,zX]at hn
    .rcases qG.1 hf with rfl|hf
     .exact hS.ids.tm m hm n hn
     .exact hS.ids.stk f hf m hm n hn
    .simp [hsz]
    .simp only at hm
     by_cases hlt:i<vs.length
     .rw [qT hlt]at hm;rw[jX (by omega)]at hv'
      exact VM.tr T (fun _ _=>trivial) (hv i m v hm hv')
     .rw [qQ (by omega),j6]at hm
      rw[kD (by omega),Array.getElem?_replicate]at hv'
      split at hm
      .cases hm;split at hv'
       .cases hv';rfl
       .cases hv'
      .cases hm
   refine zbM hO hcall body _ ans _ w0 S0 (ts :: sv) U st.nid ?_ U _ E _ w hS1 (fun n hn=>.inl hn) (qV _) hF h;intro e U' st' E' ts' w' hS' hU' hn' hF' h';have done:(match zfY C st' fn.results.toList,st'.stk with
    | some rs,tm :: stk=>k rs { st' with tm,stk }
    | _,_=>none)=some ans->([]:List Deferred)=[]/\∃v,(results fn ts').run C.P w' = .ok v w'/\R v w':=by
    intro h2;split at h2
    .rename_i rs tm stk hrs hstk;obtain ⟨us,h3,h4,h5⟩:=zJC hO.cfg hS' hrs;refine ⟨rfl,zgL us,h3,?_⟩;have T:Trans st' E' w' { st' with tm,stk } E' w' (fun _=>True):=⟨fun _ _ R h=>⟨R,h,rfl,fun _ _ h=>h⟩,fun _ _ cs h=>⟨⟨cs,h⟩,rfl⟩,rfl⟩;have hM:=hS'.mem;have hst:=hS'.stk;rw[hstk]at hst;refine hk U' { st' with tm,stk } E' w' rs (zgL us) ⟨⟨hM.os,hM.tape,hM.output,hM.size,hM.keep,hM.rep,hM.rlt,hM.mine,hM.frz,hM.apart,
      fun l cs hl=>by
       obtain ⟨h1,vals,e,h2,h3,h4⟩:=hM.loc l cs hl;exact ⟨h1,vals,e,h2,h3,fun j c u hc hu=>⟨(h4 j c u hc hu).1,VA.tr T (fun _ _=>trivial) (h4 j c u hc hu).2⟩⟩,
      hM.linj,hM.lro,hM.epo,hM.κ⟩,⟨hS'.ids.ro,hS'.ids.lo,fun m hm n hn=>hS'.ids.stk tm (by rw[hstk];simp) m hm n hn,fun f hf m hm n hn=>hS'.ids.stk f (by rw[hstk];exact jD _ hf) m hm n hn⟩,
      Slots.tr T (fun _ _ _ _=>trivial) hst.1,Stack.tr T (fun _ _ _ _ _ _=>trivial) hst.2⟩ hU' hn' hF' (VM.tr T (fun _ _=>trivial) h4) h5 h2
    .cases h2
   cases e with
   | normal=>exact done h'
   | exit id=>cases h'
   | ret=>exact done h'
  .cases h
 .cases h
theorem zBl (hS:Sim w0 S0 U st E ts sv w):∀(vs:List MV) (avs:List AV) (vals:List Value),zbw st.avOf vs=some avs->vals.length=vs.length->(∀(i:Nat) (m:MV) (v:Value),vs[i]?=some m->vals[i]?=some v->VM w st E m v) ->
 ∃xs,zch false w (zk avs) xs (fun _ b=>b<w.heap.size)/\vals=zbj avs xs
 | [],avs,vals,h,hl,_=>by
  cases h;have:vals=[]:=List.length_eq_zero_iff.1 hl;subst this;exact ⟨[],⟨rfl,fun i c x h=>by simp[zk]at h⟩,rfl⟩
 | mv :: r,avs,[],h,hl,_=>by simp at hl
 | mv :: r,avs,x :: vals,h,hl,hv=>by
  simp only[zbw]at h;split at h
  .rename_i av hav;split at h
   .rename_i avs' hr;cases h;obtain ⟨xs,hxs,hm⟩:=zBl hS r avs' vals hr (by simpa using hl) (fun i m v h1 h2=>hv (i+1) m v (by simpa using h1) (by simpa using h2))
    have hx:=hv 0 mv x rfl rfl;unfold St.avOf at hav;split at hav
    .rename_i a;split at hav
     .rename_i c hc;cases hav;obtain ⟨h1,h2⟩:=zmA hS hc hx;refine ⟨x :: xs,?_,by simp[zbj,hm]⟩
      have e:zk (AV.one c :: avs')=[c]++zk avs':=by simp[zk,AV.cvs]
      rw[e];refine zch.append (x1:=[x]) ⟨rfl,fun i c' u hc' hu=>?_⟩ hxs;cases i with
      | zero=>simp at hc' hu;subst hc' hu;exact h1
      | succ i=>simp at hc'
     .cases hav
    .rename_i l;split at hav
     .rename_i cs hcs;cases hav;obtain ⟨vs,hvs,hsz,hvv⟩:=hx;obtain ⟨hl,hf⟩:=zgG hcs;have hlen:vs.toList.length=cs.length:=by simp[hsz,hl]
      refine ⟨vs.toList++xs,?_,?_⟩
      .have e:zk (AV.agg cs :: avs')=cs++zk avs':=by simp[zk,AV.cvs]
       rw[e];refine zch.append ⟨hlen,fun i c' u hc' hu=>?_⟩ hxs;have hi:i<l.length:=by rw[hl];exact (qA.1 hc').1
       have ha:=qB hi;exact (zmA hS (hf i _ _ ha hc') (hvv i _ u ha (by simpa using hu)).2).1
      .simp only [zbj,hvs,<- hlen,kM,kR,hm,jM]
     .cases hav
    .cases hav
   .cases h
  .cases h
theorem zIX (hH:CtrOk C){f:FuncId}{run:List AV->Option (Bool×List AV)}(hf:C.ctr f=some run)(vs:List MV)(st:St)(k:List TV->St->Option Ans)(ans:Ans)(h:zKQ f vs st k run=some ans) :
 ∀(w0:World) (S0:zI) (U:Nat->Prop) (E:Env) (ts:Array Value) (sv:List (Array Value)) (w:World) (vals:Array Value) (R:Value->World->Prop),Sim w0 S0 U st E ts sv w->(∀n,st.nid<=n->¬ U n) ->
  vals.size=vs.length->(∀(i:Nat) (m:MV) (v:Value),vs[i]?=some m->vals[i]?=some v->VM w st E m v)->(∀m∈vs,∀n∈m.ids,U n) ->
  (∀(U':Nat->Prop) (st':St) (E':Env) (w':World) (rs:List TV) (v:Value),Sim w0 S0 U' st' E' ts sv w'->(∀n,U' n->U n\/st.nid<=n)->st.nid<=st'.nid->(∀n,st'.nid<=n->¬ U' n) ->
   VM w' st' E' (ze3 rs) v->(∀n∈(ze3 rs).ids,U' n)->k rs st'=some ans->R v w') ->
  (∃fn b,C.P.funcs[f]?=some fn/\fn.body=some b)/\Calls C.P f vals w fun | .returned v,w'=>R v w'|_,_=>False:=by
 intro w0 S0 U E ts sv w vals R hS hF hsz hv hi hk;unfold zKQ at h;split at h
 .rename_i avs ha;split at h
  .rename_i c rs hr;split at h
   .rename_i hle;cases hc:c with
    | false=>rw[hc]at h;cases h
    | true =>
     rw[hc]at h hr;simp only[cond_true]at h;have hle:(zk rs).length<=31:=hle;obtain ⟨⟨fn,b,hfn,hb,hname⟩,hH⟩:=hH.ok f run hf;refine ⟨⟨fn,b,hfn,hb⟩,?_⟩;obtain ⟨xs,hxs,hm⟩:=zBl hS vs avs vals.toList ha (by simpa using hsz) (fun i m v h1 h2=>hv i m v h1 (by simpa using h2))
     have hvals:vals=(zbj avs xs).toArray:=by rw[<- hm,jM]
     rw[hvals];refine (hH w avs xs rs hxs hr).mono ?_;intro e w' he;cases e with
     | panicked chain=>exact he.elim
     | outgrown=>exact he.elim
     | returned v =>
      obtain ⟨hg,ys,K,hys,rfl,hfr⟩:=he;generalize hid0:st.nid=id at *;have hE1:∀n,(id<=n/\n<id+31)->¬ U n:=fun n h=>hF n h.1;obtain ⟨hM,hT⟩:=hS.mem.addRootsO hS.ids.mem (dro:=zbO (zbG f) rs id) (w1:=w')
       (E1:={ E with ρ:=fun n=>if id<=n/\n<id+31 then (ys[n-id]?).getD undef else E.ρ n,φ:=fun n=>if id<=n/\n<id+31 then (fun x=>n-id<(zk rs).length/\K (n-id) x) else E.φ n })
       hg.os hg.tape hg.output hg.size hg.keep (fun r R hR=>by
        obtain ⟨h1,t,l,h2,rfl⟩:=zdd (zbG f) rs id r R hR;have hlt:r-id<(zk rs).length:=(qA.1 h2).1;have hm:id<=r/\r<id+31:=⟨h1,by omega⟩
        have hy:r-id<ys.length:=by rw[hys.1];exact hlt
        refine ⟨hE1 r hm,rfl,?_,fun x hx=>?_⟩
        .simp only [if_pos hm,qB hy,jW];exact (hys.2 _ _ _ h2 (qB hy)).weak (fun x hx=>⟨hlt,hx⟩)
        .simp only [if_pos hm]at hx;exact hfr.lt _ x hlt hx.2)
       (fun r R r' R' h1 ho h2 hne x hx hx'=>by
        obtain ⟨g1,t,l,g2,rfl⟩:=zdd (zbG f) rs id r R h1;obtain ⟨g1',t',l',g2',rfl⟩:=zdd (zbG f) rs id r' R' h2;have hlt:r-id<(zk rs).length:=(qA.1 g2).1;have hlt':r'-id<(zk rs).length:=(qA.1 g2').1;have hm:id<=r/\r<id+31:=⟨g1,by omega⟩
        have hm':id<=r'/\r'<id+31:=⟨g1',by omega⟩
        simp only[if_pos hm]at hx;simp only[if_pos hm']at hx';have:=hfr.dis _ _ _ x g2 ho hlt' hx.2 hx'.2;omega)
       (fun n hn=>by
        have hm:¬ (id<=n/\n<id+31):=fun h=>hE1 n h hn;simp only[if_neg hm];exact ⟨trivial,trivial,trivial⟩)
      obtain ⟨g1,g2⟩:=zel (w:=w') (st:={ st with ro:=zbO (zbG f) rs id++st.ro }) (E:={ E with ρ:=fun n=>if id<=n/\n<id+31 then (ys[n-id]?).getD undef else E.ρ n,φ:=fun n=>if id<=n/\n<id+31 then (fun x=>n-id<(zk rs).length/\K (n-id) x) else E.φ n })
       rs ys id hys.1 (fun i c u hc hu=>by
        have hrep:=hys.2 i c u hc hu;refine ⟨?_,hrep.one⟩;have hlt:i<(zk rs).length:=(qA.1 hc).1;cases c with
        | i k n=>exact hrep.int_inv
        | b x=>exact hrep.bool_inv
        | s t l =>
         obtain ⟨⟨a,cap,hv,_⟩,_⟩:=hrep.len;refine ⟨⟨a,_,cap,hv⟩,fun R hR=>?_⟩;have hm:id<=id+i/\id+i<id+31:=⟨by omega,by omega⟩
         have e:id+i-id=i:=by omega
         simp only[zD,if_pos hm,e,hu,jW])
      have hN:=Sim.next (dst:=none) (mv:=.und) (v:=undef) (U1:=fun n=>U n\/(id<=n/\n<id+31)) hS hM hT rfl rfl (fun n h=>.inl h) (fun n R h=>by
       simp only[zba]at h;split at h
       .rename_i Q hQ;obtain ⟨h1,t,l,h2,_⟩:=zdd (zbG f) rs id n Q hQ;have hlt:n-id<(zk rs).length:=(qA.1 h2).1;exact .inr ⟨h1,by omega⟩
       .exact .inl (hS.ids.ro n R h))
       (fun n cs hn=>⟨.inl (hS.ids.lo n cs hn).1,fun a ha m hm=>.inl ((hS.ids.lo n cs hn).2 a ha m hm)⟩) rfl (fun n hn=>by simp[MV.ids,zX]at hn)
      have hN2:=hN.nid (id+32);have T:Trans { st with ro:=zbO (zbG f) rs id++st.ro } { E with ρ:=fun n=>if id<=n/\n<id+31 then (ys[n-id]?).getD undef else E.ρ n,φ:=fun n=>if id<=n/\n<id+31 then (fun x=>n-id<(zk rs).length/\K (n-id) x) else E.φ n } w'
       { st with ro:=zbO (zbG f) rs id++st.ro,nid:=id+32 } { E with ρ:=fun n=>if id<=n/\n<id+31 then (ys[n-id]?).getD undef else E.ρ n,φ:=fun n=>if id<=n/\n<id+31 then (fun x=>n-id<(zk rs).length/\K (n-id) x) else E.φ n } w' (fun _=>True):=⟨fun _ _ R h=>⟨R,h,rfl,fun _ _ h=>h⟩,fun _ _ cs h=>⟨⟨cs,h⟩,rfl⟩,rfl⟩
      refine hk _ _ _ _ (zbL rs id) _ hN2 (fun n h=>h.imp (fun x=>x) (fun h=>h.1)) (by show id<=id+32;omega) (fun n hn h=>?_) (VM.tr T (fun _ _=>trivial) (zkF g1 g2)) (fun n hn=>?_) h
      .have hn:id+32<=n:=hn;rcases h with h|h
       .exact hF n (by omega) h
       .omega
      .simp only [MV.ids,qP]at hn;obtain ⟨a,ha,hn⟩:=hn;obtain ⟨x,hx,ha⟩:=zkE ha;have:=zde rs id n x a hx ha hn;exact .inr ⟨this.1,by omega⟩
   .cases h
  .cases h
 .cases h
theorem zfM (hO:EngOk C){tms:FuncId->Nat->Option Tmpl}{N:Nat}:∀D,zlq C (zlr C tms N D)
 | 0=>fun f vs st k ans h=>by cases h
 | D+1=>fun f vs st k ans h=>by
  simp only[zlr]at h;split at h
  .rename_i run hf;exact zIX hO.ctr hf vs st k ans h
  .exact zgz hO (zfM hO D) f vs st k ans h
theorem Given.append {x1 x2:List At}{c1 c2:List CV}{k1 k2:List Nat}(h1:Given st x1 c1 k1)(h2:Given st x2 c2 k2)(hd:∀k∈k1,k∉k2):Given st (x1++x2) (c1++c2) (k1++k2):=by
 have mem:∀{x:List At} {c:List CV} {ks:List Nat},Given st x c ks->∀{k r:Nat},x[k]?=some (At.sl r [])->r∈ks:=by
  intro x c ks hG k r hk;rcases hG.get k _ hk with ⟨_,_,h,_⟩|⟨_,h,_⟩|⟨r2,_,h,_,hm,_⟩
  .cases h
  .cases h
  .cases h;exact hm
 refine ⟨by simp[h1.len,h2.len],fun r hr=>(jL.1 hr).elim (h1.own r) (h2.own r),fun k a ha=>?_,fun k k' r hk hk'=>?_⟩
 .by_cases hlt:k<x1.length
  .rw [qT hlt]at ha;rw[qT (by rw[h1.len];exact hlt)]
   rcases h1.get k a ha with h|h|⟨r,R,g1,g2,g3,g4⟩
   .exact .inl h
   .exact .inr (.inl h)
   .exact .inr (.inr ⟨r,R,g1,g2,by simp[g3],g4⟩)
  .rw [qQ (by omega)]at ha
   rw[qQ (by rw[h1.len];omega),h1.len]
   rcases h2.get _ a ha with h|h|⟨r,R,g1,g2,g3,g4⟩
   .exact .inl h
   .exact .inr (.inl h)
   .exact .inr (.inr ⟨r,R,g1,g2,by simp[g3],g4⟩)
 .by_cases hlt:k<x1.length<;>by_cases hlt':k'<x1.length
  .rw [qT hlt]at hk;rw[qT hlt']at hk';exact h1.inj k k' r hk hk'
  .rw [qT hlt]at hk;rw[qQ (by omega)]at hk'
   exact absurd (mem h2 hk') (hd r (mem h1 hk))
  .rw [qQ (by omega)]at hk
   rw[qT hlt']at hk';exact absurd (mem h2 hk) (hd r (mem h1 hk'))
  .rw [qQ (by omega)]at hk
   rw[qQ (by omega)]at hk'
   have:=h2.inj _ _ r hk hk';omega
theorem zfw:∀(l:List TV) (seen:List Nat) (rs:Ans) (us:List Value),zkZ st l seen=some rs->l.length=us.length->(∀(k:Nat) (x:TV) (u:Value),l[k]?=some x->us[k]?=some u->VT w st E x u) ->
 ∃(ats:List At) (ys:List Value) (ks:List Nat),Given st ats (zk rs) ks/\ys.length=ats.length/\(∀(k:Nat) (a:At) (u:Value),ats[k]?=some a->ys[k]?=some u->VA w st E a u)/\us=zbj rs ys/\(∀k∈ks,k∉seen)/\ats=l.flatMap zy
 | [],seen,rs,us,h,hl,_=>by
  cases h;cases us with
  | nil=>exact ⟨[],[],[],⟨rfl,fun r hr=>by simp at hr,fun k a h=>by simp at h,fun k k' r h=>by simp at h⟩,rfl,fun k a u h=>by simp at h,rfl,fun k h=>by simp at h,rfl⟩
  | cons u us=>simp at hl
 | x :: r,seen,rs,us,h,hl,hv=>by
  cases us with
  | nil=>simp at hl
  | cons u us =>
   have hv0:=hv 0 x u rfl rfl;have hvr:∀(k:Nat) (y:TV) (z:Value),r[k]?=some y->us[k]?=some z->VT w st E y z:=fun k y z h1 h2=>hv (k+1) y z (by simpa using h1) (by simpa using h2)
   rcases x with a|xs
   .simp only [zkZ]at h;split at h
    .rename_i c ks hg;split at h
     .rename_i hseen;split at h
      .rename_i xa hxa;cases h;obtain ⟨_,hG⟩:=zjl _ _ _ _ _ hg;obtain ⟨ats,ys,ks',g1,g2,g3,g4,g5,g6⟩:=zfw r _ xa us hxa (by simpa using hl) hvr
       refine ⟨a :: ats,u :: ys,ks++ks',?_,by simp[g2],fun k b z hb hz=>?_,by simp[zbj,g4],fun k hk=>?_,by simp[g6,zy]⟩
       .have e:zk (AV.one c :: xa)=[c]++zk xa:=by simp[zk,AV.cvs]
        rw[e];exact Given.append (x1:=[a]) hG g1 (fun k hk hk'=>g5 k hk' (jV _ hk))
       .cases k with
        | zero=>simp at hb hz;subst hb hz;exact hv0
        | succ k=>exact g3 k b z (by simpa using hb) (by simpa using hz)
       .rcases jL.1 hk with hk|hk
        .simp only [qS,qZ,jE,decide_eq_false_iff_not]at hseen;exact hseen k hk
        .exact fun h=>g5 k hk (j8 _ h)
      .cases h
     .cases h
    .cases h
   .simp only [zkZ]at h;split at h
    .rename_i cs ks hg;split at h
     .rename_i hseen;split at h
      .rename_i xa hxa;cases h;obtain ⟨_,hG⟩:=zjl _ _ _ _ _ hg;obtain ⟨ats,ys,ks',g1,g2,g3,g4,g5,g6⟩:=zfw r _ xa us hxa (by simpa using hl) hvr
       obtain ⟨vs,rfl,hsz,hvv⟩:=hv0;have hlen:vs.toList.length=cs.length:=by rw[hG.len];simpa using hsz
       refine ⟨xs++ats,vs.toList++ys,ks++ks',?_,by simp[g2,hsz],fun k b z hb hz=>?_,?_,fun k hk=>?_,by simp[g6,zy]⟩
       .have e:zk (AV.agg cs :: xa)=cs++zk xa:=by simp[zk,AV.cvs]
        rw[e];exact Given.append hG g1 (fun k hk hk'=>g5 k hk' (jV _ hk))
       .by_cases hlt:k<xs.length
        .rw [qT hlt]at hb;rw[qT (by simp[hsz];exact hlt)]at hz
         exact (hvv k b z hb (by simpa using hz)).2
        .rw [qQ (by omega)]at hb
         rw[qQ (by simp[hsz];omega)]at hz
         have e:vs.toList.length=xs.length:=by simp[hsz]
         rw[e]at hz;exact g3 _ b z hb hz
       .simp only [zbj,<- hlen,kM,kR,<- g4,jM]
       .rcases jL.1 hk with hk|hk
        .simp only [qS,qZ,jE,decide_eq_false_iff_not]at hseen;exact hseen k hk
        .exact fun h=>g5 k hk (j8 _ h)
      .cases h
     .cases h
    .cases h
theorem zqE {l:List TV}{v:Value}(h:VM w st E (ze3 l) v):∃us:List Value,v=zgL us/\l.length=us.length/\∀(k:Nat) (x:TV) (u:Value),l[k]?=some x->us[k]?=some u->VT w st E x u:=by
 match l,h with
 | [],h =>
  obtain ⟨vs,rfl,h2,_⟩:=h;have:vs = #[]:=Array.eq_empty_of_size_eq_zero (by simpa using h2)
  subst this;exact ⟨[],rfl,rfl,fun k x u h=>by simp at h⟩
 | [x],h=>exact ⟨[v],rfl,rfl,fun k y u hy hu=>by
  cases k with
  | zero=>simp at hy hu;subst hy hu;exact h
  | succ k=>simp at hy⟩
 | x :: y :: l,h =>
  obtain ⟨vs,rfl,h2,h3⟩:=h;refine ⟨vs.toList,?_,by simp[h2],fun k z u hz hu=>h3 k z u hz (by simpa using hu)⟩
  match hl:vs.toList,h2 with
  | [],h2=>have:vs.toList.length=0:=by rw[hl];rfl
           simp[h2] at this
  | [a],h2=>have:vs.toList.length=1:=by rw[hl];rfl
            simp[h2] at this
  | a :: b :: r,_=>simp only[zgL];rw[<- hl,jM]
theorem zf0 {nf:Bool}{r:Nat}{R1:Root}(h:(st.thaw nf).root r=some R1):∃R,st.root r=some R/\R1.t=R.t/\(R1=R\/(nf=true/\zvi R.t=true/\R.ep=none/\R1={ R with own:=true })):=by
 cases nf with
 | false=>exact ⟨R1,h,rfl,.inl rfl⟩
 | true =>
  obtain ⟨h1,h2⟩:=zS h;have hm:∀l:List (Nat×Root),zf (l.map fun x=>(x.1,zvv x.2)) r=some R1->∃R,zf l r=some R/\R1=zvv R:=by
   intro l
   induction l with
   | nil=>intro h;cases h
   | cons a l ih =>
    obtain ⟨k,v⟩:=a;intro h;simp only[jG,zf]at h ⊢;split at h
    .rename_i he;rw[if_pos he];cases h;exact ⟨v,rfl,rfl⟩
    .rename_i he;rw[if_neg he];exact ih h
  obtain ⟨R,hR,rfl⟩:=hm st.ro h1;have h2:(zvv R).ep=none\/(zvv R).ep=some st.ep:=h2;unfold zvv at h2 ⊢;cases hc:zvi R.t&&R.ep.isNone with
  | false =>
   rw[hc]at h2;exact ⟨R,zdM hR h2,rfl,.inl rfl⟩
  | true =>
   rw[hc]at h2;simp only[qD,j4]at hc;exact ⟨R,zdM hR (.inl hc.2),rfl,.inr ⟨rfl,hc.1,hc.2,rfl⟩⟩
theorem zBc (nf:Bool):Trans st E w (st.thaw nf) E w (fun _=>True) :=
 ⟨fun r _ R1 h1=>by
  obtain ⟨R,hR,ht,_⟩:=zf0 h1;exact ⟨R,hR,ht,fun p u h=>h⟩,fun l _ cs1 h1=>⟨⟨cs1,by cases nf<;>exact h1⟩,rfl⟩,rfl⟩
theorem zHP {f:FuncId}{t:Ty}{l:List t.den}(hn:ze4 f=true)(hm:zvi t=true):zkG f (.s t l)=false:=by
 simp[zkG,zbG,hn,hm]
theorem zKi {f:FuncId}{ats:List At}{cs:List CV}{ks:List Nat}(hM:Mem w0 S0 st E w)(hG:Given (st.thaw (ze4 f)) ats cs ks){k:Nat}{a:At}{c:CV}{u:Value}(ha:ats[k]?=some a)(hc:cs[k]?=some c)(hu:VA w st E a u):Rep (zkG f c) w u c (aφ E a):=by
 rcases hG.get k a ha with ⟨k',n,rfl,h⟩|⟨x,rfl,h⟩|⟨r,R1,rfl,hR1,hm,h⟩
 .rw [hc]at h;cases h;cases hu;exact .i _ _ _
 .rw [hc]at h;cases h;cases hu;exact .b _ _
 .rw [hc]at h;cases h;obtain ⟨R1',hR1',ho⟩:=hG.own r hm;rw[hR1]at hR1';cases hR1';obtain ⟨R,hR,_,hcase⟩:=zf0 hR1;have:=hu.2 R hR;simp only[zD,qC] at this;subst this;have hr:=hM.rep r R hR;rcases hcase with rfl|⟨hn,hmt,_,rfl⟩
  .rw [ho]at hr;cases zkG f (.s R1.t R1.l) with
   | true=>exact hr
   | false=>exact hr.ro
  .rw [zHP hn hmt];cases hq:R.own with
   | true=>rw[hq]at hr;exact hr.ro
   | false=>rw[hq]at hr;exact hr
theorem zLq {t:Ty}(h:zvi t=true):t.flat=false:=by
 cases t<;>first|cases h|rfl
theorem zNv {f:FuncId}{ats:List At}{cs:List CV}{ks:List Nat}(hz:ze4 f=true->¬ S0 w0.heap.size)(hM:Mem w0 S0 st E w)(hG:Given (st.thaw (ze4 f)) ats cs ks){k:Nat}{a:At}{x:Nat}(ha:ats[k]?=some a)(hx:aφ E a x):(S0 x\/w0.heap.size<=x)/\x<w.heap.size:=by
 rcases hG.get k a ha with ⟨k',n,rfl,h⟩|⟨y,rfl,h⟩|⟨r,R1,rfl,hR1,hm,h⟩
 .exact hx.elim
 .exact hx.elim
 .obtain ⟨R1',hR1',ho⟩:=hG.own r hm;rw[hR1]at hR1';cases hR1';obtain ⟨R,hR,_,hcase⟩:=zf0 hR1;have hx:E.φ r x:=hx;refine ⟨?_,hM.rlt r R hR x hx⟩;rcases hcase with rfl|⟨hn,hmt,he,rfl⟩
  .exact (hM.mine r R1 hR ho).2 x hx
  .cases hq:R.own with
   | true=>exact (hM.mine r R hR hq).2 x hx
   | false=>exact hM.frz (hz hn) r R hR hq he (zLq hmt) x hx
theorem zKh {f:FuncId}{ats:List At}{cs:List CV}{ks:List Nat}(hM:Mem w0 S0 st E w)(hG:Given (st.thaw (ze4 f)) ats cs ks){i j:Nat}{a b:At}{c:CV}{x:Nat}(ha:ats[i]?=some a)(hb:ats[j]?=some b)(hc:cs[i]?=some c)(ho:zkG f c=true)(hx:aφ E a x)(hx':aφ E b x):i=j:=by
 rcases hG.get i a ha with ⟨k',n,rfl,h⟩|⟨y,rfl,h⟩|⟨r,R1,rfl,hR1,hm,h⟩
 .exact hx.elim
 .exact hx.elim
 .rcases hG.get j b hb with ⟨k',n,rfl,h'⟩|⟨y,rfl,h'⟩|⟨r',R2,rfl,hR2,hm',h'⟩
  .exact hx'.elim
  .exact hx'.elim
  .obtain ⟨R1',hR1',ho1⟩:=hG.own r hm;rw[hR1]at hR1';cases hR1';obtain ⟨R2',hR2',ho2⟩:=hG.own r' hm';rw[hR2]at hR2';cases hR2';obtain ⟨R,hR,_,hcase⟩:=zf0 hR1;obtain ⟨R',hR',_,hcase'⟩:=zf0 hR2;have hx:E.φ r x:=hx;have hx':E.φ r' x:=hx';have hRo:R.own=true:=by
    rcases hcase with rfl|⟨hn,hmt,he,rfl⟩
    .exact ho1
    .rw [hc]at h;cases h;rw[zHP hn hmt]at ho;cases ho
   have he':R'.ep=none:=by
    rcases hcase' with rfl|⟨hn,hmt,he,rfl⟩
    .exact (hM.mine r' R2 hR' ho2).1
    .exact he
   have hrr:r=r':=by
    by_cases e:r=r'
    .exact e
    .exact absurd hx' (hM.apart r R r' R' hR hRo hR' he' e x hx)
   subst hrr;exact hG.inj i j r ha hb
theorem zsb (hO:EngOk C){f:FuncId}{run:List AV->Option (Bool×List AV)}(hf:FnOk C.P f)(h:∀(avs:List AV) (rs:List AV),(∃w xs,zch false w (zk avs) xs (fun _ b=>b<w.heap.size))->run avs=some (true,rs)->∃tms N D,evalFn C tms N D f avs=some rs):Holds C.P f run:=by
 refine ⟨hf,fun w avs xs rs hrep hrun=>?_⟩;obtain ⟨tms,N,D,hev⟩:=h avs rs ⟨w,xs,hrep⟩ hrun;unfold evalFn at hev;cases hnf:ze4 f && !(zkt avs) with
 | true=>rw[hnf]at hev;cases hev
 | false =>
 rw[hnf,cond_false]at hev;have hrootI:∀(r:Nat) (R:Root),zf (zbO znK avs 0) r=some R->∃t l,(zk avs)[r]?=some (.s t l)/\R=⟨t,l,false,none⟩:=by
  intro r R hR;obtain ⟨_,t,l,h2,h3⟩:=zdd znK avs 0 r R hR;exact ⟨t,l,by simpa using h2,h3⟩
 generalize hst:({ tm:=[],lo:=[],ro:=zbO znK avs 0,stk:=[],nid:=(avs.flatMap AV.cvs).length,ep:=0 }:St)=st at hev;have hro:∀(r:Nat) (R:Root),st.root r=some R->∃t l,(zk avs)[r]?=some (.s t l)/\R=⟨t,l,false,none⟩:=by
  intro r R hR;have:=(zS hR).1;rw[<- hst] at this;exact hrootI r R this
 have hlo:∀l,zf st.lo l=none:=fun l=>by rw[<- hst];rfl
 let E:Env:={ ρ:=fun n=>(xs[n]?).getD undef,φ:=fun _ b=>b<w.heap.size,β:=fun _=>0,κ:=w }
 have hS:Sim w (fun x=>ze4 f=false/\x=w.heap.size) (fun n=>n<(zk avs).length) st E #[] [] w:=by
  refine ⟨⟨rfl,rfl,rfl,qV _,fun _ _ _=>rfl,fun r R hR=>?_,fun r R _ x hx=>hx,fun r R hR ho=>?_,fun hz r R hR ho he hfl=>?_,fun r R r' R' hR ho=>?_,fun l cs hl=>?_,fun l l' cs cs' hl=>?_,fun l cs r R hl=>?_,fun r R e hR he=>?_,rfl⟩,⟨fun n R hn=>?_,fun n cs hn=>?_,fun m hm=>?_,fun f hf=>?_⟩,⟨?_,fun i m v hm=>?_⟩,?_⟩
  .obtain ⟨t,l,h1,rfl⟩:=hro r R hR;have hlt:r<xs.length:=by rw[hrep.1];exact (qA.1 h1).1
   have hx:=qB hlt
   show Rep false w ((xs[r]?).getD undef) (.s t l) _
   rw[hx];exact hrep.2 r _ _ h1 hx
  .obtain ⟨t,l,h1,rfl⟩:=hro r R hR;cases ho
  .obtain ⟨t,l,h1,rfl⟩:=hro r R hR;exfalso;cases hq:ze4 f with
   | false=>exact hz ⟨hq,rfl⟩
   | true =>
    rw[hq,uE]at hnf;have hfa:zkt avs=true:=by simpa using hnf
    have:=qS.1 hfa (.s t l) (qI h1);simp only at this;rw[show t.flat=false from hfl] at this
    cases this
  .obtain ⟨t,l,h1,rfl⟩:=hro r R hR;cases ho
  .rw [hlo]at hl;cases hl
  .rw [hlo]at hl;cases hl
  .rw [hlo]at hl;cases hl
  .rw [<- hst]at hR;obtain ⟨t,l,h1,rfl⟩:=hrootI r R hR;cases he
  .rw [<- hst]at hn;obtain ⟨t,l,h1,_⟩:=hrootI n R hn;exact (qA.1 h1).1
  .rw [hlo]at hn;cases hn
  .rw [<- hst]at hm;simp at hm
  .rw [<- hst]at hf;simp at hf
  .rw [<- hst];rfl
  .rw [<- hst]at hm;simp at hm
  .rw [<- hst];trivial
 obtain ⟨hl1,hl2⟩:=zel (w:=w) (st:=st) (E:=E) avs xs 0 hrep.1 (fun i c u hc hu=>by
  have hr:=hrep.2 i c u hc hu;refine ⟨?_,hr.one⟩;cases c with
  | i k n=>exact hr.int_inv
  | b x=>exact hr.bool_inv
  | s t l =>
   obtain ⟨⟨a,cap,hv,_⟩,_⟩:=hr.len;refine ⟨⟨a,_,cap,hv⟩,fun R hR=>?_⟩;have e:0+i=i:=by omega
   show some ((xs[0+i]?).getD undef)=some u
   rw[e,hu];rfl)
 have hnid:st.nid=(zk avs).length:=by rw[<- hst];rfl
 obtain ⟨_,hcalls⟩:=zgz hO (zfM hO (tms:=tms) (N:=N) D) f _ st _ rs hev w (fun x=>ze4 f=false/\x=w.heap.size) _ E #[] [] w (zbj avs xs).toArray
  (fun v w'=>Grown w w'/\∃(ys:List Value) (K:Nat->zI),zpA (zkG f) w' (zk rs) ys K/\v=zgL (zbj rs ys)/\FreshO (zkG f) w w' (zk rs) K) hS (fun n hn h=>by omega)
  (by simp[hl1]) (fun i m v hm hv=>by
   rw[qM]at hm;cases hx:(zbL avs 0)[i]? with
   | none=>rw[hx]at hm;cases hm
   | some x=>rw[hx]at hm;cases hm;exact hl2 i x v hx (by simpa using hv))
  (fun m hm n hn=>by
   obtain ⟨x,hx,rfl⟩:=jC.1 hm;simp only[MV.ids,zX,qP]at hn;obtain ⟨a,ha,hn⟩:=hn;have:=(zde avs 0 n x a hx ha hn).2;omega)
  (fun U' st' E' w' tvs v hS' _ _ _ hv _ hans=>by
   obtain ⟨us,rfl,hul,huv⟩:=zqE hv;have TT:=zBc (st:=st') (E:=E') (w:=w') (ze4 f);obtain ⟨ats,ys,ks,hG,hyl,hyv,rfl,_,hats⟩:=zfw tvs [] rs us hans hul (fun k x u hx hu=>VT.tr TT (fun _ _ _ _=>trivial) (huv k x u hx hu));have hM:=hS'.mem;have hget:∀i,i<(zk rs).length->∃a,ats[i]?=some a:=fun i hi=>⟨_,qB (by rw[<- hG.len];exact hi)⟩
   have hyv':∀(k:Nat) (a:At) (u:Value),ats[k]?=some a->ys[k]?=some u->VA w' st' E' a u:=fun k a u ha hu=>by
    have h:=hyv k a u ha hu;rcases hG.get k a ha with ⟨_,_,rfl,_⟩|⟨_,rfl,_⟩|⟨r,R1,rfl,hR1,hm,_⟩
    .exact h
    .exact h
    .obtain ⟨R0,hR0,ht,_⟩:=zf0 hR1;refine ⟨h.1,fun R hR=>?_⟩;rw[hR0]at hR;cases hR;have:=h.2 R1 hR1;simpa [zD] using this
   have hzz:ze4 f=true->¬ (ze4 f=false/\w.heap.size=w.heap.size):=fun h h'=>by rw[h]at h';cases h'.1
   refine ⟨⟨hM.os,hM.tape,hM.output,hM.size,fun b hb=>hM.keep b hb (fun h=>by have:=h.2;omega)⟩,ys,fun i=>match ats[i]? with|some a=>aφ E' a|none=>fun _=>False,⟨by rw[hyl,hG.len],fun i c x hc hx=>?_⟩,rfl,⟨fun i x hi hx=>?_,fun i j c x hi ho hj hx hx'=>?_⟩⟩
   .obtain ⟨a,ha⟩:=hget i (qA.1 hc).1;simp only[ha];exact zKi hM hG ha hc (hyv' i a x ha hx)
   .obtain ⟨a,ha⟩:=hget i hi;simp only[ha]at hx;obtain ⟨h1,h2⟩:=zNv hzz hM hG ha hx;exact ⟨h1.elim (fun h=>by omega) (fun h=>h),h2⟩
   .obtain ⟨a,ha⟩:=hget i (qA.1 hi).1;obtain ⟨b,hb⟩:=hget j hj;simp only[ha]at hx;simp only[hb]at hx';exact zKh hM hG ha hb hi ho hx hx')
 refine hcalls.mono ?_;intro e w' he;cases e with
 | returned v=>exact he
 | panicked chain=>exact he.elim
 | outgrown=>exact he.elim
end
section
variable {C:Cfg} {w0 w w1:World} {S0:zI} {U:Nat->Prop} {st st1:St} {E E1:Env} {ts:Array Value} {sv:List (Array Value)}
theorem zml:∀{p q:List (Int×Nat)},zje p q=some true->p=q
 | [],[],_=>rfl
 | [],_ :: _,h=>by simp[zje]at h
 | _ :: _,[],h=>by simp[zje]at h
 | (i,j) :: p,(i',j') :: q,h=>by
  simp only[zje]at h;split at h
  .rename_i hj;simp only[qH]at hj;split at h
   .rename_i c hc;simp only[qC,qD,ieq,qH]at h;obtain ⟨h1,h2⟩:=h;subst h2;rw[zml hc,h1,hj]
   .cases h
  .cases h
structure GivenT (st:St) (xs:List At) (cs:List CV) (ks:List Nat) (r:Nat) (p:List (Int×Nat)) (i:Int) (off:Nat):Prop where
 len:cs.length=xs.length
 own:∀q∈ks,q≠r/\∃R,st.root q=some R/\R.own=true
 get:∀(k:Nat) (a:At),xs[k]?=some a->(∃k' n,a = .i k' n/\cs[k]?=some (.i k' n))\/(∃x,a = .b x/\cs[k]?=some (.b x)) \/
  (∃q R,a = .sl q []/\st.root q=some R/\q∈ks/\cs[k]?=some (.s R.t R.l))\/∃cv,a = .sl r (p++[(i,off+k)])/\st.node r (p++[(i,off+k)])=some cv/\cs[k]?=some cv
 inj:∀(k k' q:Nat),xs[k]?=some (.sl q [])->xs[k']?=some (.sl q [])->k=k'
theorem GivenT.mem {xs:List At}{cs:List CV}{ks:List Nat}{r:Nat}{p:List (Int×Nat)}{i:Int}{off:Nat}(hG:GivenT st xs cs ks r p i off){k q:Nat}(hk:xs[k]?=some (At.sl q [])):q∈ks:=by
 rcases hG.get k _ hk with ⟨_,_,h,_⟩|⟨_,h,_⟩|⟨r2,_,h,_,hm,_⟩|⟨_,h,_⟩
 .cases h
 .cases h
 .cases h;exact hm
 .simp at h
theorem zlv {r:Nat}{p:List (Int×Nat)}{i:Int}:∀(xs:List At) (off:Nat) (cs:List CV) (ks:List Nat),st.give (some (r,p,i)) xs off=some (true,cs,ks)->GivenT st xs cs ks r p i off
 | [],off,cs,ks,h=>by
  simp only[St.give,qC,jJ]at h;obtain ⟨_,rfl,rfl⟩:=h;exact ⟨rfl,fun q hq=>by simp at hq,fun k a h=>by simp at h,fun k k' q h=>by simp at h⟩
 | a :: xs,off,cs,ks,h=>by
  have cons:∀{c':CV} {cs':List CV} {ks' ks2:List Nat},GivenT st xs cs' ks' r p i (off+1)->(∀q∈ks',q∈ks2)->(∀q∈ks2,q≠r/\∃R,st.root q=some R/\R.own=true) ->
   ((∃k' n,a = .i k' n/\c' = .i k' n)\/(∃x,a = .b x/\c' = .b x)\/(∃q R,a = .sl q []/\st.root q=some R/\q∈ks2/\q∉ks'/\c' = .s R.t R.l)\/(a = .sl r (p++[(i,off)])/\st.node r (p++[(i,off)])=some c')) ->
   GivenT st (a :: xs) (c' :: cs') ks2 r p i off:=by
   intro c' cs' ks' ks2 hG hsub hown ha;refine ⟨by simp[hG.len],hown,fun k b hb=>?_,fun k k' q hk hk'=>?_⟩
   .cases k with
    | zero =>
     simp only[qF,qC]at hb;subst hb;rcases ha with ⟨k',n,h1,h2⟩|⟨x,h1,h2⟩|⟨q,R,h1,h2,h3,_,h4⟩|⟨h1,h2⟩
     .exact .inl ⟨k',n,h1,by simp[h2]⟩
     .exact .inr (.inl ⟨x,h1,by simp[h2]⟩)
     .exact .inr (.inr (.inl ⟨q,R,h1,h2,h3,by simp[h4]⟩))
     .exact .inr (.inr (.inr ⟨c',h1,h2,by simp⟩))
    | succ k =>
     rcases hG.get k b (by simpa using hb) with h|h|⟨q,R,h1,h2,h3,h4⟩|⟨cv,h1,h2,h3⟩
     .exact .inl h
     .exact .inr (.inl h)
     .exact .inr (.inr (.inl ⟨q,R,h1,h2,hsub q h3,h4⟩))
     .have e:off+1+k=off+(k+1):=by omega
      rw[e]at h1 h2;exact .inr (.inr (.inr ⟨cv,h1,h2,h3⟩))
   .have hnew:∀(k q:Nat),a=At.sl q []->xs[k]?≠some (At.sl q []):=by
     intro k q hq hk;rcases ha with ⟨k',n,h1,h2⟩|⟨x,h1,h2⟩|⟨q',R,h1,h2,h3,h4,_⟩|⟨h1,h2⟩
     .rw [hq]at h1;cases h1
     .rw [hq]at h1;cases h1
     .rw [hq]at h1;cases h1;exact h4 (hG.mem hk)
     .rw [hq]at h1;simp at h1
    cases k<;>cases k'<;>simp at hk hk'
    .rfl
    .exact absurd hk' (hnew _ q hk)
    .exact absurd hk (hnew _ q hk')
    .exact congrArg _ (hG.inj _ _ q hk hk')
  simp only[St.give]at h;split at h
  .cases h
  .rename_i c0 cs' ks' hg;split at h
   .rename_i k n;cases h;have hG:=zlv xs (off+1) cs' ks hg;exact cons hG (fun _ h=>h) hG.own (.inl ⟨k,n,rfl,rfl⟩)
   .rename_i x;cases h;have hG:=zlv xs (off+1) cs' ks hg;exact cons hG (fun _ h=>h) hG.own (.inr (.inl ⟨x,rfl,rfl⟩))
   .rename_i q;split at h
    .rename_i R hR;split at h
     .rename_i hcond;cases h;have hG:=zlv xs (off+1) cs' ks' hg;simp only[qD,qZ,jE,decide_eq_false_iff_not,beq_eq_false_iff_ne]at hcond;refine cons hG (fun q' h=>by simp[h]) (fun q' h=>?_) (.inr (.inr (.inl ⟨q,R,rfl,hR,by simp,hcond.1.2,rfl⟩)))
      rcases qG.1 h with rfl|h
      .exact ⟨hcond.2,R,hR,hcond.1.1⟩
      .exact hG.own q' h
     .cases h
    .cases h
   .rename_i q p' hne;split at h
    .rename_i hr;simp only[qH]at hr;subst hr;split at h
     .rename_i e cv he hcv;simp only[qC,jJ,qD]at h;obtain ⟨⟨h1,h2⟩,rfl,rfl⟩:=h;subst h1 h2;have hp:=zml he;subst hp;have hG:=zlv xs (off+1) cs' ks' hg;exact cons hG (fun _ h=>h) hG.own (.inr (.inr (.inr ⟨rfl,hcv⟩)))
     .cases h
    .cases h
   .cases h
theorem zD0:∀(p:List (Int×Nat)) {t t1:Ty} {l:List t.den} {l1:List t1.den} {i:Int} {j:Nat} {cv:CV},zet t l p=some (.s t1 l1)->zet t l (p++[(i,j)])=some cv->(t1.cells (ix l1 i t1.dflt))[j]?=some cv
 | [],t,t1,l,l1,i,j,cv,h1,h2=>by
  simp only[zet,qC]at h1;cases h1;simp only[jN,zet]at h2;split at h2
  .rename_i t' l' hc;cases h2;exact hc
  .cases h2
 | (i',j') :: p,t,t1,l,l1,i,j,cv,h1,h2=>by
  simp only[j3,zet]at h1 h2;split at h1
  .rename_i t' l' hc;rw[hc]at h2;exact zD0 p h1 h2
  .cases h1
theorem zww:∀{xs:List At} {cs:List CV} {off k:Nat} {a:At} {c:CV},xs[k]?=some a->cs[k]?=some c->c.flat=false->(∃r p,a = .sl r p/\p≠[])\/off+k∈zfQ xs cs off
 | [],_,_,_,_,_,h,_,_=>by simp at h
 | _ :: _,[],_,_,_,_,_,h,_=>by simp at h
 | a0 :: xs,c0 :: cs,off,k,a,c,ha,hc,hf=>by
  cases k with
  | zero =>
   simp only[qF,qC]at ha hc;subst ha hc;cases a0 with
   | sl r p =>
    cases p with
    | nil =>
     right
     cases c0 with
     | i k n=>cases hf
     | b x=>cases hf
     | s t l=>simp[zfQ]
    | cons ij p=>exact .inl ⟨r,_,rfl,by simp⟩
   | _ =>
    right
    cases c0 with
    | i k n=>cases hf
    | b x=>cases hf
    | s t l=>simp[zfQ]
  | succ k =>
   rcases zww (xs:=xs) (cs:=cs) (off:=off+1) (k:=k) (by simpa using ha) (by simpa using hc) hf with h|h
   .exact .inl h
   .right
    have e:off+1+k=off+(k+1):=by omega
    rw[e]at h;cases a0 with
    | sl r p =>
     cases p with
     | nil=>cases c0<;>simp [zfQ,h]
     | cons ij p=>cases c0<;>simp [zfQ,h]
    | _=>cases c0<;>simp [zfQ,h]
theorem zk3 (p:List (Int×Nat))(i:Int)(j:Nat)(q:List (Int×Nat)):(cols p++[j]).isPrefixOf (cols (p++(i,j) :: q))=true:=by
 rw[kN];exact ⟨cols q,by simp[cols]⟩
theorem zgU {α β:Type}(f:α->β):∀(l:List (Nat×α)) (n:Nat),zf (l.map fun x=>(x.1,f x.2)) n=(zf l n).map f
 | [],_=>rfl
 | (k,v) :: l,n=>by
  simp only[jG,zf];split
  .rfl
  .exact zgU f l n
theorem zpu {r:Nat}{js:List (List Nat)}{a:At}{n:Nat}(h:n∈(zbQ r js a).ids):n∈a.ids:=by
 cases a with
 | sl r' q =>
  simp only[zbQ]at h;split at h
  .simp [At.ids,zN,zU]at h
  .exact h
 | ep r' q i o =>
  simp only[zbQ]at h;split at h
  .simp [At.ids,zN,zU]at h
  .exact h
 | bad=>exact h
 | i k n=>exact h
 | b x=>exact h
 | lp l o=>exact h
 | fn f c=>exact h
 | kp r' J t =>
  simp only[zbQ]at h;cases hb:Nat.beq r r'<;>rw [hb]at h
  .exact h
  .cases hc:coarse js J<;>rw [hc]at h
   .simp [At.ids,zN,zU]at h
   .exact h
theorem zqP {js J:List (List Nat)}{q:List Nat}(h:coarse js J=true)(hJ:J.any (fun c=>c.isPrefixOf q)=false):js.any (fun c=>c.isPrefixOf q)=false:=by
 rw[kG]at hJ ⊢;intro m hm hp;obtain ⟨c,hc,hcm⟩:=kX.1 (qS.1 h m hm);exact hJ c hc (kN.2 ((kN.1 hcm).trans (kN.1 hp)))
theorem zIj {w1:World}{st2:St}{E1:Env}{r:Nat}{js:List (List Nat)}(T:∀a v,VA w st E a v->VA w1 st2 E1 (zbQ r js a) v){x:TV}{v:Value}(h:VT w st E x v):VT w1 st2 E1 (zh5 r js x) v:=by
 rcases x with a|l
 .exact T a v h
 .obtain ⟨vs,h1,h2,h3⟩:=h;refine ⟨vs,h1,by simp[h2],fun j a u ha hu=>?_⟩
  rw[qM]at ha;cases hl:l[j]? with
  | none=>rw[hl]at ha;cases ha
  | some b=>rw[hl]at ha;cases ha;exact ⟨(h3 j b u hl hu).1,T _ _ (h3 j b u hl hu).2⟩
theorem zPk {w1:World}{st2:St}{E1:Env}{r:Nat}{js:List (List Nat)}(T:∀a v,VA w st E a v->VA w1 st2 E1 (zbQ r js a) v){m:MV}{v:Value}(h:VM w st E m v):VM w1 st2 E1 (zdO r js m) v:=by
 cases m with
 | und=>exact h
 | v x=>exact zIj T h
 | tup l =>
  obtain ⟨vs,h1,h2,h3⟩:=h;refine ⟨vs,h1,by simp[h2],fun j a u ha hu=>?_⟩
  rw[qM]at ha;cases hl:l[j]? with
  | none=>rw[hl]at ha;cases ha
  | some b=>rw[hl]at ha;cases ha;exact zIj T (h3 j b u hl hu)
theorem zpv {w1:World}{st2:St}{E1:Env}{r:Nat}{js:List (List Nat)}(T:∀a v,VA w st E a v->VA w1 st2 E1 (zbQ r js a) v){tm:List MV}{ts:Array Value}(h:Slots w st E tm ts):Slots w1 st2 E1 (tm.map (zdO r js)) ts:=by
 refine ⟨by simp[h.1],fun i m v hm hv=>?_⟩
 rw[qM]at hm;cases hl:tm[i]? with
 | none=>rw[hl]at hm;cases hm
 | some b=>rw[hl]at hm;cases hm;exact zPk T (h.2 i b v hl hv)
theorem zpw {w1:World}{st2:St}{E1:Env}{r:Nat}{js:List (List Nat)}(T:∀a v,VA w st E a v->VA w1 st2 E1 (zbQ r js a) v):∀{l:List (List MV)} {s:List (Array Value)},Stack w st E l s->Stack w1 st2 E1 (l.map fun f=>f.map (zdO r js)) s
 | [],[],_=>trivial
 | f :: l,ts :: s,h=>⟨zpv T h.1,zpw T h.2⟩
 | [],_ :: _,h=>h.elim
 | _ :: _,[],h=>h.elim
theorem zw4 {r:Nat}{js:List (List Nat)}{x:TV}{a:At}(h:a∈zy (zh5 r js x)):∃b∈zy x,a=zbQ r js b:=by
 rcases x with b|l
 .simp only [zh5,zy,qE]at h ⊢;exact ⟨b,rfl,h⟩
 .simp only [zh5,zy,jC]at h ⊢;obtain ⟨b,hb,rfl⟩:=h;exact ⟨b,hb,rfl⟩
theorem zlp {r:Nat}{js:List (List Nat)}{m:MV}{n:Nat}(h:n∈(zdO r js m).ids):n∈m.ids:=by
 simp only[MV.ids,qP]at h ⊢;obtain ⟨a,ha,hn⟩:=h;have:∃b∈zX m,a=zbQ r js b:=by
  cases m with
  | und=>simp[zdO,zX]at ha
  | v x=>exact zw4 ha
  | tup l =>
   simp only[zdO,zX,qP,jC]at ha ⊢;obtain ⟨y,⟨x,hx,rfl⟩,ha⟩:=ha;obtain ⟨b,hb,rfl⟩:=zw4 ha;exact ⟨b,⟨x,hx,hb⟩,rfl⟩
 obtain ⟨b,hb,rfl⟩:=this;exact ⟨b,hb,zpu hn⟩
end
section
variable {C:Cfg} {w0 w w1:World} {S0:zI} {U:Nat->Prop} {st st1:St} {E E1:Env} {ts:Array Value} {sv:List (Array Value)}
def zeH (st:St)(r:Nat)(R:Root)(m:List R.t.den)(ks:List Nat)(js:List (List Nat)):St :=
 { st with
  tm:=st.tm.map (zdO r js)
  stk:=st.stk.map fun f=>f.map (zdO r js)
  lo:=st.lo.map fun x=>(x.1,x.2.map (zbQ r js))
  ro:=(r,{ R with l:=m }) :: (moved st ks++st.ro)
  ep:=st.ep+1 }
theorem zD2 (hS:Sim w0 S0 U st E ts sv w){r:Nat}{R:Root}(hR:st.root r=some R)(ho:R.own=true){m:List R.t.den}{ks:List Nat}{js:List (List Nat)}{b:Nat}{S3:zI}(hks:∀q∈ks,q≠r/\∃R,st.root q=some R/\R.own=true)(hos:w1.os=w.os)(htp:w1.tape=w.tape)(hout:w1.output=w.output)(hsz:w1.heap.size=w.heap.size)(hb:E.φ r b)(hkeep:∀x,x≠b->w1.heap[x]?=w.heap[x]?)(hS3:∀x,S3 x->E.φ r x\/∃q∈ks,E.φ q x)(hrep:Rep true w1 (E.ρ r) (.s R.t m) S3)(hhdr:∀q u,zD w R.t (E.ρ r) q=some u->js.any (fun c=>c.isPrefixOf (cols q))=false->zD w1 R.t (E.ρ r) q=some u) :
 Sim w0 S0 U (zeH st r R m ks js) { E with φ:=fun n=>if n=r then S3 else E.φ n } ts sv w1:=by
 have hM:=hS.mem;obtain ⟨hre,hrm⟩:=hM.mine r R hR ho;have hroot:∀q Q,(zeH st r R m ks js).root q=some Q ->
  (q=r/\Q={ R with l:=m })\/(q≠r/\q∈ks/\∃R',st.root q=some R'/\R'.own=true/\Q={ R' with own:=false,ep:=some (st.ep+1) })\/(q≠r/\q∉ks/\st.root q=some Q/\Q.ep=none):=by
  intro q Q hq;obtain ⟨h1,h2⟩:=zS hq;simp only[zeH,zf]at h1 h2;split at h1
  .rename_i he;simp only[qH]at he;cases h1;exact .inl ⟨he.symm,rfl⟩
  .rename_i he;simp only[qH]at he;have hne:q≠r:=fun h=>he h.symm;rw[zba]at h1;split at h1
   .rename_i Q' hQ';cases h1;obtain ⟨hm,R',hR',rfl⟩:=zhY ks q _ hQ';obtain ⟨_,R2,hR2,hR2o⟩:=hks q hm;have:=(zS hR2).1;rw[hR'] at this;cases this;exact .inr (.inl ⟨hne,hm,R',hR2,hR2o,rfl⟩)
   .rename_i hnone;have hnk:q∉ks:=fun hm=>by
     have:=zAD ks q hnone hm;rw[this]at h1;cases h1
    refine .inr (.inr ⟨hne,hnk,?_⟩);rcases h2 with h2|h2
    .exact ⟨zdM h1 (.inl h2),h2⟩
    .have:=hM.epo q Q _ h1 h2;omega
 have hfr:∀q Q,q≠r->st.root q=some Q->Q.ep=none->∀x,E.φ q x->w1.heap[x]?=w.heap[x]? :=
  fun q Q hne hq hQ x hx=>hkeep x (fun e=>hM.apart r R q Q hR ho hq hQ (fun e=>hne e.symm) b hb (e ▸ hx))
 have hkq:∀q∈ks,∃Q,q≠r/\st.root q=some Q/\Q.own=true/\Q.ep=none:=fun q hq=>by
  obtain ⟨h1,Q,h2,h3⟩:=hks q hq;exact ⟨Q,h1,h2,h3,(hM.mine q Q h2 h3).1⟩
 have hS3m:∀x,S3 x->(S0 x\/w0.heap.size<=x)/\x<w.heap.size:=by
  intro x hx;rcases hS3 x hx with h|⟨q,hq,h⟩
  .exact ⟨hrm x h,hM.rlt r R hR x h⟩
  .obtain ⟨Q,_,h2,h3,_⟩:=hkq q hq;exact ⟨(hM.mine q Q h2 h3).2 x h,hM.rlt q Q h2 x h⟩
 have hS3a:∀q Q,q≠r->q∉ks->st.root q=some Q->Q.ep=none->∀x,S3 x->¬ E.φ q x:=by
  intro q Q hne hnk hq hQ x hx;rcases hS3 x hx with h|⟨q2,hq2,h⟩
  .exact hM.apart r R q Q hR ho hq hQ (fun e=>hne e.symm) x h
  .obtain ⟨Q2,_,h2,h3,_⟩:=hkq q2 hq2;exact hM.apart q2 Q2 q Q h2 h3 hq hQ (fun e=>hnk (e ▸ hq2)) x h
 have T:∀a v,VA w st E a v->VA w1 (zeH st r R m ks js) { E with φ:=fun n=>if n=r then S3 else E.φ n } (zbQ r js a) v:=by
  have path:∀r' q u Q,(r=r'->js.any (fun c=>c.isPrefixOf (cols q))=false)->(zeH st r R m ks js).root r'=some Q->(∀R',st.root r'=some R'->zD w R'.t (E.ρ r') q=some u)->zD w1 Q.t (E.ρ r') q=some u:=by
   intro r' q u Q hjs hQ hold;rcases hroot r' Q hQ with ⟨rfl,rfl⟩|⟨hne,hk,R',hR',hRo,rfl⟩|⟨hne,hnk,hqs,hQe⟩
   .exact hhdr q u (hold R hR) (hjs rfl)
   .have:=zbH (w':=w1) q (hM.rep r' R' hR') (hfr r' R' hne hR' (hM.mine r' R' hR' hRo).1);rw[this];exact hold R' hR'
   .have:=zbH (w':=w1) q (hM.rep r' Q hqs) (hfr r' Q hne hqs hQe);rw[this];exact hold Q hqs
  have tyq:∀r' Q,(zeH st r R m ks js).root r'=some Q->∃R',st.root r'=some R'/\R'.t=Q.t:=by
   intro r' Q hQ;rcases hroot r' Q hQ with ⟨rfl,rfl⟩|⟨hne,hk,R',hR',hRo,rfl⟩|⟨hne,hnk,hqs,hQe⟩
   .exact ⟨R,hR,rfl⟩
   .exact ⟨R',hR',rfl⟩
   .exact ⟨Q,hqs,rfl⟩
  have loc:∀l cs,zf (zeH st r R m ks js).lo l=some cs->∃cs',zf st.lo l=some cs':=by
   intro l cs h;simp only[zeH]at h;rw[zgU]at h;cases hl:zf st.lo l with
   | none=>rw[hl]at h;cases h
   | some cs'=>exact ⟨cs',rfl⟩
  intro a v hv;cases a with
  | bad=>trivial
  | i k n=>exact hv
  | b x=>exact hv
  | sl r' q =>
   simp only[zbQ];split
   .trivial
   .rename_i hns;refine ⟨hv.1,fun Q hQ=>path r' q v Q (fun e=>?_) hQ hv.2⟩;subst e;simpa using hns
  | lp l off =>
   refine ⟨hv.1,fun cs h=>?_⟩;obtain ⟨cs',h'⟩:=loc l cs h;exact hv.2 cs' h'
  | ep r' q i o =>
   simp only[zbQ];split
   .trivial
   .rename_i hns;refine ⟨hv.1,fun Q hQ=>?_⟩;obtain ⟨R',hR',ht⟩:=tyq r' Q hQ;obtain ⟨b',o',len,cap,t',h1,h2,h3⟩:=hv.2 R' hR';refine ⟨b',o',len,cap,t',path r' q _ Q (fun e=>?_) hQ (fun R2 hR2=>?_),by rw[<- ht];exact h2,h3⟩
    .subst e;simpa using hns
    .rw [hR']at hR2;cases hR2;exact h1
  | kp r' J t =>
   have key:(r=r'->coarse js J=true)->VA w1 (zeH st r R m ks js) { E with φ:=fun n=>if n=r then S3 else E.φ n } (.kp r' J t) v:=fun hc=>by
    refine ⟨hv.1,fun Q hQ=>?_⟩;obtain ⟨R',hR',ht⟩:=tyq r' Q hQ;obtain ⟨h1,h2,h3⟩:=hv.2 R' hR';refine ⟨ht.symm.trans h1,h2,fun p u hp hJ=>?_⟩;have:=path r' p u Q (fun e=>zqP (hc e) hJ) hQ (fun R2 hR2=>by
     rw[hR']at hR2;cases hR2;rw[h1,h2];exact h3 p u hp hJ)
    rw[<- ht,h1] at this;rw[show E.ρ r'=v from h2] at this
    exact this
   simp only[zbQ];cases hb:Nat.beq r r' with
   | false=>exact key (fun e=>by subst e;simp at hb)
   | true=>cases hc:coarse js J with
    | true=>exact key (fun _=>hc)
    | false=>trivial
  | fn f caps =>
   obtain ⟨vs,h1,h2,h3⟩:=hv;refine ⟨vs,h1,h2,fun k l u hk hu=>⟨(h3 k l u hk hu).1,fun cs h=>?_⟩⟩;obtain ⟨cs',h'⟩:=loc l cs h;exact (h3 k l u hk hu).2 cs' h'
 have hlo:∀l cs,zf (zeH st r R m ks js).lo l=some cs->∃cs',zf st.lo l=some cs'/\cs=cs'.map (zbQ r js):=by
  intro l cs h;simp only[zeH]at h;rw[zgU]at h;cases hl:zf st.lo l with
  | none=>rw[hl]at h;cases h
  | some cs'=>rw[hl]at h;cases h;exact ⟨cs',rfl,rfl⟩
 refine ⟨⟨hos.trans hM.os,htp.trans hM.tape,hout.trans hM.output,by rw[hsz];exact hM.size,?_,?_,?_,?_,?_,?_,?_,?_,?_,?_,hM.κ⟩,⟨?_,?_,?_,?_⟩,zpv T hS.tm,zpw T hS.stk⟩
 .intro x hx hnS;refine (hkeep x (fun e=>?_)).trans (hM.keep x hx hnS);subst e;rcases hrm x hb with h|h
  .exact hnS h
  .omega
 .intro q Q hq;rcases hroot q Q hq with ⟨rfl,rfl⟩|⟨hne,hk,R',hR',hRo,rfl⟩|⟨hne,hnk,hqs,hQe⟩
  .simp only [if_true,ho];exact hrep
  .simp only [if_neg hne];exact ((hM.rep q R' hR').frame (hfr q R' hne hR' (hM.mine q R' hR' hRo).1)).ro
  .simp only [if_neg hne];exact (hM.rep q Q hqs).frame (hfr q Q hne hqs hQe)
 .intro q Q hq x hx;rw[hsz];rcases hroot q Q hq with ⟨rfl,rfl⟩|⟨hne,hk,R',hR',hRo,rfl⟩|⟨hne,hnk,hqs,hQe⟩
  .simp only [if_true]at hx;exact (hS3m x hx).2
  .simp only [if_neg hne]at hx;exact hM.rlt q R' hR' x hx
  .simp only [if_neg hne]at hx;exact hM.rlt q Q hqs x hx
 .intro q Q hq hoq;rcases hroot q Q hq with ⟨rfl,rfl⟩|⟨hne,hk,R',hR',hRo,rfl⟩|⟨hne,hnk,hqs,hQe⟩
  .refine ⟨hre,fun x hx=>?_⟩;simp only[if_true]at hx;exact (hS3m x hx).1
  .cases hoq
  .simp only [if_neg hne];exact hM.mine q Q hqs hoq
 .intro hz q Q hq hoq he hf;rcases hroot q Q hq with ⟨rfl,rfl⟩|⟨hne,hk,R',hR',hRo,rfl⟩|⟨hne,hnk,hqs,hQe⟩
  .exact absurd (show R.own=false from hoq) (by rw[ho];exact Bool.noConfusion)
  .cases he
  .simp only [if_neg hne];exact hM.frz hz q Q hqs hoq he hf
 .intro q Q q' Q' hq hoq hq' he hnn x hx;rcases hroot q Q hq with ⟨rfl,rfl⟩|⟨hne,hk,R',hR',hRo,rfl⟩|⟨hne,hnk,hqs,hQe⟩
  .rcases hroot q' Q' hq' with ⟨rfl,rfl⟩|⟨hne',hk',R2,hR2,hRo2,rfl⟩|⟨hne',hnk',hqs',hQe'⟩
   .exact absurd rfl hnn
   .cases he
   .simp only [if_true]at hx;simp only[if_neg hne'];exact hS3a q' Q' hne' hnk' hqs' hQe' x hx
  .cases hoq
  .simp only [if_neg hne]at hx;rcases hroot q' Q' hq' with ⟨rfl,rfl⟩|⟨hne',hk',R2,hR2,hRo2,rfl⟩|⟨hne',hnk',hqs',hQe'⟩
   .simp only [if_true];exact fun h=>hS3a q Q hne hnk hqs hQe x h hx
   .cases he
   .simp only [if_neg hne'];exact hM.apart q Q q' Q' hqs hoq hqs' hQe' hnn x hx
 .intro l cs hl;obtain ⟨cs',hl',rfl⟩:=hlo l cs hl;obtain ⟨h1,vals,e,h2,h3,h4⟩:=hM.loc l cs' hl';refine ⟨h1,vals,e,(hkeep _ (fun e=>hM.lro l cs' r R hl' hR (by rw[e];exact hb))).trans h2,by simp[h3],fun j c u hc hu=>?_⟩
  rw[qM]at hc;cases hcj:cs'[j]? with
  | none=>rw[hcj]at hc;cases hc
  | some c'=>rw[hcj]at hc;cases hc;exact ⟨(h4 j c' u hcj hu).1,T _ _ (h4 j c' u hcj hu).2⟩
 .intro l l' cs cs' hl hl' he;obtain ⟨c1,h1,_⟩:=hlo l cs hl;obtain ⟨c2,h2,_⟩:=hlo l' cs' hl';exact hM.linj l l' c1 c2 h1 h2 he
 .intro l cs q Q hl hq;obtain ⟨c1,h1,_⟩:=hlo l cs hl;rcases hroot q Q hq with ⟨rfl,rfl⟩|⟨hne,hk,R',hR',hRo,rfl⟩|⟨hne,hnk,hqs,hQe⟩
  .simp only [if_true];intro hx;rcases hS3 _ hx with h|⟨q2,hq2,h⟩
   .exact hM.lro l c1 q R h1 hR h
   .obtain ⟨Q2,_,h2,_,_⟩:=hkq q2 hq2;exact hM.lro l c1 q2 Q2 h1 h2 h
  .simp only [if_neg hne];exact hM.lro l c1 q R' h1 hR'
  .simp only [if_neg hne];exact hM.lro l c1 q Q h1 hqs
 .intro q Q e hq he;simp only[zeH,zf]at hq
  show e<=st.ep+1
  split at hq
  .cases hq;simp only[hre]at he;cases he
  .rw [zba]at hq;split at hq
   .rename_i Q' hQ';cases hq;obtain ⟨_,R',_,rfl⟩:=zhY ks q _ hQ';simp only[qC]at he;subst he;exact qV _
   .exact uC (hM.epo q Q e hq he)
 .intro n Q hn;simp only[zeH,zf]at hn;split at hn
  .rename_i he;simp only[qH]at he;subst he;exact hS.ids.ro _ R (zS hR).1
  .rw [zba]at hn;split at hn
   .rename_i Q' hQ';obtain ⟨_,R',hR',_⟩:=zhY ks n Q' hQ';exact hS.ids.ro n R' hR'
   .exact hS.ids.ro n Q hn
 .intro n cs hn;obtain ⟨cs',h1,rfl⟩:=hlo n cs hn;refine ⟨(hS.ids.lo n cs' h1).1,fun a ha k hk=>?_⟩;obtain ⟨a',ha',rfl⟩:=jC.1 ha;exact (hS.ids.lo n cs' h1).2 a' ha' k (zpu hk)
 .intro m' hm n hn;obtain ⟨m0,hm0,rfl⟩:=jC.1 hm;exact hS.ids.tm m0 hm0 n (zlp hn)
 .intro f hf m' hm n hn;obtain ⟨f0,hf0,rfl⟩:=jC.1 hf;obtain ⟨m0,hm0,rfl⟩:=jC.1 hm;exact hS.ids.stk f0 hf0 m0 hm0 n (zlp hn)
theorem zM6 (hC:CfgOk C)(w0 w:World)(S0:zI)(U:Nat->Prop)(st:St)(E:Env)(ts:Array Value)(sv:List (Array Value))(o:Oper)(id:Nat)(c:Bool)(st2:St)(hS:Sim w0 S0 U st E ts sv w)(h:zzI C st o=some (c,st2))(hc:c=true) :
 Goes C w0 S0 U st ts sv w o id (fun _=>st2.put o.dst .und)/\st2.nid=st.nid:=by
 subst hc;unfold zzI at h;split at h
 .rename_i T a x ho;split at h
  .rename_i agg tys y r p i off hT hx ha;split at h
   .rename_i R t l c cvs ks hRr hn hg;split at h
    .rename_i hcond;simp only[qD,qH,qX]at hcond;obtain ⟨⟨hown,hlen⟩,hfit⟩:=hcond;split at h
     .rename_i l' hset;split at h
      .rename_i m hput;simp only[qC,jJ]at h;obtain ⟨rfl,rfl⟩:=h;refine ⟨?_,rfl⟩;have hG:=zlv _ _ _ _ hg;obtain ⟨hxv,hxi⟩:=zbk hS hx;obtain ⟨hav,hai⟩:=zbb hS ha;obtain ⟨hc1,hc2⟩:=VT.cells hxv (zjv hx);obtain ⟨b,o2,len,cap,t1,e1,e2,e3,e4,e5⟩:=hav.2 R hRr;have hM:=hS.mem;have hrep:=hM.rep r R hRr;rw[hown]at hrep;obtain ⟨t',l0,S1,f1,f2,f3,f4,f5⟩:=Rep.focus p hrep e1;have hg1:zet R.t R.l p=some (.s t l):=by
        obtain ⟨R',hR',hg'⟩:=zdf hn;rw[hRr]at hR';cases hR';exact hg'
       rw[hg1] at f1;cases f1;rw[e2] at f2;cases f2;obtain ⟨_,_,_,_,fwp⟩:=f5 w l S1 (fun _ _ _=>rfl) (fun _ h _=>h) f3;generalize hv:({ tmps:=ts,defers:=[] }:Act).eval x=v at *;cases f3 with
       | void _ _ _ ho=>cases ho
       | sl _ _ _ _ _ arr e' fz V K _ hb hfz hlen1 hcap hsz hS' hsub hdis hvv hcc =>
       have hfz':=hfz rfl;subst hfz';have hRows:Rows true w t l arr o2 b V K S1:=⟨hsub,hdis,hvv,hcc⟩;have hul:v.cells.toList.length=cvs.length:=by rw[hG.len];simpa using hc1
       have husz:v.cells.size=tys.length:=by rw[hc1,hlen]
       have hfit':off+v.cells.toList.length<=t.width:=by simp[husz];exact hfit
       have hrow:(i.toNat+1)*t.width<=cap*t.width:=qL _ (by omega)
       rw[jB]at hrow;have h1c:∀u∈v.cells.toList,u.oneCell'=true:=by
        intro u hu;obtain ⟨j,hj⟩:=qR.1 hu;have hlt:j<(zy y).length:=by rw[<- hc1];have:=(qA.1 hj).1;simpa using this
        exact (hc2 j _ u (qB hlt) (by simpa using hj)).1
       have hrun:=zj5 (w:=w) (off:=o2+i.toNat*t.width+off) (hC.cty T agg tys hT) hb husz (by omega) h1c
       generalize hw1:w.setRow b (splice arr.toList (o2+i.toNat*t.width+off) v.cells.toList).toArray=w1 at hrun;have hb1:w1.heap[b]?=some (.cells (splice arr.toList (o2+i.toNat*t.width+off) v.cells.toList).toArray e' (0,0)):=by rw[<- hw1];exact setRow_heap w b _ _ e' _ hb
       have hoth:∀x,x≠b->w1.heap[x]?=w.heap[x]?:=fun x hx=>by rw[<- hw1];exact setRow_other w b x _ hx
       have hrb:E.φ r b:=f4 b hS';have hapart:∀q∈ks,∀x,E.φ q x->¬ E.φ r x:=by
        intro q hq x hx hx';obtain ⟨hne,Q,hQ,hQo⟩:=hG.own q hq;exact hne (hM.own_apart hQ hQo hRr hown hx hx')
       have hold:∀i' j,i'<l.length->j<t.width->¬ Hit i.toNat off v.cells.toList.length i' j->∀x,K i' j x->w1.heap[x]?=w.heap[x]?:=fun i' j hi' hj _ x hx=>hoth x ((hsub i' j x hi' hj hx).2 rfl)
       let Kn:Nat->zI:=fun k=>match (zy y)[k]? with
        | some (.sl q [])=>E.φ q
        | some (.sl _ (_ :: _))=>K i.toNat (off+k)
        | _=>fun _=>False
       have hat:∀k,k<v.cells.toList.length->∃a,(zy y)[k]?=some a:=fun k hk=>⟨_,qB (by rw[<- hc1];simpa using hk)⟩
       have hKn:∀k x,k<v.cells.toList.length->Kn k x->(∃q∈ks,(zy y)[k]?=some (.sl q [])/\E.φ q x)\/K i.toNat (off+k) x:=by
        intro k x hk hx;obtain ⟨a,ha⟩:=hat k hk;simp only[Kn,ha]at hx;rcases hG.get k a ha with ⟨_,_,rfl,_⟩|⟨_,rfl,_⟩|⟨q,Q,rfl,h2,h3,h4⟩|⟨cv,rfl,_,_⟩
        .exact hx.elim
        .exact hx.elim
        .exact .inl ⟨q,h3,ha,hx⟩
        .right
         cases p<;>exact hx
       have hcol:∀k,k<v.cells.toList.length->off+k<t.width:=fun k hk=>by omega
       have hset1:=Rep.setCells (w:=w) (w1:=w1) (Kn:=Kn) hlen1 hcap hsz hRows e4 hul hfit' hset hb1 (fun k c u hc hu=>by
        have hk:k<v.cells.toList.length:=(qA.1 hu).1;obtain ⟨a,ha⟩:=hat k hk;have hau:=(hc2 k a u ha (by simpa using hu)).2
        rcases hG.get k a ha with ⟨_,_,rfl,h2⟩|⟨_,rfl,h2⟩|⟨q,Q,rfl,h2,h3,h4⟩|⟨cv,rfl,h2,h3⟩
        .rw [hc]at h2;cases h2;cases hau;exact .i _ _ _
        .rw [hc]at h2;cases h2;cases hau;exact .b _ _
        .rw [hc]at h4;cases h4;have:=hau.2 Q h2;simp only[zD,qC] at this;subst this;obtain ⟨hne,Q',hQ',hQo⟩:=hG.own q h3;rw[h2]at hQ';cases hQ';have hr:=hM.rep q Q h2;rw[hQo]at hr;have hk2:Kn k=E.φ q:=by simp only[Kn,ha]
         rw[hk2];exact hr.frame (fun x hx=>hoth x (fun e=>hapart q h3 x hx (e ▸ hrb)))
        .have hcv:cv=c:=by rw[hc]at h3;cases h3;rfl
         subst hcv;have hu1:=hau.2 R hRr;rw[fwp]at hu1;obtain ⟨R',hR',hgp⟩:=zdf h2;rw[hRr]at hR';cases hR';have hcell:=zD0 p hg1 hgp;have hj:=hcol k hk;have hrep2:=hcc i.toNat _ (zhV e4) (off+k) cv hcell;have hV:=hvv i.toNat (off+k) e4 hj;simp only[zD]at hu1;rw[if_pos ⟨e3,e4⟩]at hu1;split at hu1
         .rw [cell_of_block hb,hV]at hu1;simp only[qC]at hu1;subst hu1;have hk2:Kn k=K i.toNat (off+k):=by
           simp only[Kn,ha];cases p<;>rfl
          rw[hk2];exact hrep2.frame (fun x hx=>hoth x ((hsub _ _ x e4 hj hx).2 rfl))
         .cases hu1)
        hold
        (fun k x hk hx=>by
         rcases hKn k x hk hx with ⟨q,hq,_,hx⟩|hx
         .exact fun e=>hapart q hq x hx (e ▸ hrb)
         .exact (hsub _ _ x e4 (hcol k hk) hx).2 rfl)
        (fun k k' x hk hk' hx hx'=>by
         rcases hKn k x hk hx with ⟨q,hq,hqa,hx⟩|hx<;>rcases hKn k' x hk' hx' with ⟨q',hq',hqa',hx'⟩|hx'
         .obtain ⟨_,Q,hQ,hQo⟩:=hG.own q hq;obtain ⟨_,Q',hQ',hQo'⟩:=hG.own q' hq';have:=hM.own_apart hQ hQo hQ' hQo' hx hx';subst this;exact hG.inj k k' q hqa hqa'
         .exact absurd (f4 x (hsub _ _ x e4 (hcol k' hk') hx').1) (hapart q hq x hx)
         .exact absurd (f4 x (hsub _ _ x e4 (hcol k hk) hx).1) (hapart q' hq' x hx')
         .have:=(hdis rfl _ _ _ _ x e4 (hcol k hk) e4 (hcol k' hk') hx hx').2;omega)
        (fun k x i' j hk hx hi' hj hnh hx'=>by
         rcases hKn k x hk hx with ⟨q,hq,_,hx⟩|hx
         .exact hapart q hq x hx (f4 x (hsub _ _ x hi' hj hx').1)
         .have:=hdis rfl _ _ _ _ x e4 (hcol k hk) hi' hj hx hx';exact hnh ⟨this.1.symm,by omega,by omega⟩)
       have hS2:∀x,(x=b\/(∃i' j,i'<l.length/\j<t.width/\¬ Hit i.toNat off v.cells.toList.length i' j/\K i' j x)\/∃k,k<v.cells.toList.length/\Kn k x)->S1 x\/∃q∈ks,E.φ q x:=by
        intro x hx;rcases hx with rfl|⟨i',j,hi',hj,_,hk⟩|⟨k,hk,hx⟩
        .exact .inl hS'
        .exact .inl (hsub i' j x hi' hj hk).1
        .rcases hKn k x hk hx with ⟨q,hq,_,hx⟩|hx
         .exact .inr ⟨q,hq,hx⟩
         .exact .inl (hsub _ _ x e4 (hcol k hk) hx).1
       obtain ⟨m',hm',hrm,hh1,hh2⟩:=f5 w1 l' _ (fun x hx hnx=>hoth x (fun e=>hnx (e ▸ hS'))) (fun x hx hx'=>by
        rcases hS2 x hx with h|⟨q,hq,h⟩
        .exact h
        .exact absurd hx' (hapart q hq x h)) hset1
       rw[hput]at hm';cases hm';have hsim:=zD2 (w1:=w1) (m:=m) (js:=(zfQ (zy y) cvs off).map fun j=>cols p++[j]) hS hRr hown hG.own (by rw[<- hw1];rfl) (by rw[<- hw1];rfl) (by rw[<- hw1];rfl) (by rw[<- hw1];simp) hrb hoth (fun x hx=>by
        rcases hx with ⟨hx,_⟩|hx
        .exact .inl hx
        .rcases hS2 x hx with h|h
         .exact .inl (f4 x h)
         .exact .inr h) hrm (fun q u hq hns=>by
        rcases zmL p q with ⟨q',rfl⟩|hnp
        .rw [hh2 q'];rw[fwp q']at hq;refine zjF hcap hsz hRows hb e4 hul hfit' hset hb1 hold q' (fun i' j q'' he k c hj hck=>?_) hoth hq;subst he hj;cases hfl:c.flat with
         | true=>exact .inl rfl
         | false =>
          have hk:k<v.cells.toList.length:=by rw[hul];exact (qA.1 hck).1
          obtain ⟨a,ha⟩:=hat k hk;rcases zww (off:=off) ha hck hfl with ⟨r2,p2,rfl,hp2⟩|hmem
          .right
           intro _;rcases hG.get k _ ha with ⟨_,_,h,_⟩|⟨_,h,_⟩|⟨q2,Q,h,_,_,_⟩|⟨cv,h,h2,h3⟩
           .cases h
           .cases h
           .cases h;exact absurd rfl hp2
           .cases h;obtain ⟨u9,hu⟩:∃u9,v.cells.toList[k]?=some u9:=⟨_,qB hk⟩;have hau:=(hc2 k _ u9 ha (by simpa using hu)).2
            have hu1:=hau.2 R hRr;rw[fwp]at hu1;have hj:=hcol k hk;have hV:=hvv i.toNat (off+k) e4 hj;simp only[zD]at hu1;rw[if_pos ⟨e3,e4⟩]at hu1;split at hu1
            .rw [cell_of_block hb,hV]at hu1;simp only[qC]at hu1;rw[hu,hu1]
            .cases hu1
          .exfalso;have h9:=kG.1 hns (cols p++[off+k]) (jC.2 ⟨off+k,hmem,rfl⟩);exact absurd (zk3 p i' (off+k) q'') h9
        .exact hh1 q u hq (fun q' he=>absurd ⟨q',he⟩ hnp))
       have hput2:=hsim.putV (dst:=o.dst) (m:=.und) (v:=undef) rfl (fun n hn=>by simp[MV.ids,zX]at hn)
       refine zoq (w':=w1) ?_ ⟨hput2.mem,⟨fun n R hn=>.inl (hput2.ids.ro n R hn),fun n cs hn=>⟨.inl (hput2.ids.lo n cs hn).1,fun a ha m hm=>.inl ((hput2.ids.lo n cs hn).2 a ha m hm)⟩,fun m hm n hn=>.inl (hput2.ids.tm m hm n hn),fun f hf m hm n hn=>.inl (hput2.ids.stk f hf m hm n hn)⟩,hput2.tm,hput2.stk⟩;simp[execOp,ho,Instr.storeAt,e5,Instr.sureAddr,hv,hrun]
      .cases h
     .cases h
    .cases h
   .cases h
  .cases h
 .cases h
theorem zI5 (hC:CfgOk C)(w0 w:World)(S0:zI)(U:Nat->Prop)(st:St)(E:Env)(ts:Array Value)(sv:List (Array Value))(o:Oper)(id:Nat)(c:Bool)(st2:St)(hS:Sim w0 S0 U st E ts sv w)(h:zxx C st o=some (c,st2)) :
 Goes C w0 S0 U st ts sv w o id (fun _=>st2.put o.dst .und)/\st2.nid=st.nid:=by
 unfold zxx at h;split at h
 .rename_i T a ho;split at h
  .rename_i agg t1 r p i off hT ha;split at h
   .rename_i R t l hRr hn;split at h
    .rename_i hcond;simp only[qD,qX]at hcond;obtain ⟨hown,hfit⟩:=hcond;split at h
     .rename_i l' hset;split at h
      .rename_i m hput;simp only[qC,jJ]at h;obtain ⟨rfl,rfl⟩:=h;refine ⟨?_,rfl⟩;obtain ⟨hav,hai⟩:=zbb hS ha;obtain ⟨b,o2,len,cap,t2,e1,e2,e3,e4,e5⟩:=hav.2 R hRr;have hM:=hS.mem;have hrep:=hM.rep r R hRr;rw[hown]at hrep;obtain ⟨t',l0,S1,f1,f2,f3,f4,f5⟩:=Rep.focus p hrep e1;have hg1:zet R.t R.l p=some (.s t l):=by
        obtain ⟨R',hR',hg'⟩:=zdf hn;rw[hRr]at hR';cases hR';exact hg'
       rw[hg1] at f1;cases f1;rw[e2] at f2;cases f2;obtain ⟨_,_,_,_,fwp⟩:=f5 w l S1 (fun _ _ _=>rfl) (fun _ h _=>h) f3;have hv:({ tmps:=ts,defers:=[] }:Act).eval (.const (.slice none 0 0)) = .slice none 0 0:=rfl;have hvc:(Value.slice none 0 0).cells.toList=[.slice none 0 0]:=rfl;cases f3 with
       | void _ _ _ ho=>cases ho
       | sl _ _ _ _ _ arr e' fz V K _ hb hfz hlen1 hcap hsz hS' hsub hdis hvv hcc =>
       have hfz':=hfz rfl;subst hfz';have hRows:Rows true w t l arr o2 b V K S1:=⟨hsub,hdis,hvv,hcc⟩;have hul:(Value.slice none 0 0).cells.toList.length=[CV.s t1 []].length:=rfl;have husz:(Value.slice none 0 0).cells.size=[CTy.s t1].length:=rfl;have hfit':off+(Value.slice none 0 0).cells.toList.length<=t.width:=hfit;have hrow:(i.toNat+1)*t.width<=cap*t.width:=qL _ (by omega)
       rw[jB]at hrow;have h1c:∀u∈(Value.slice none 0 0).cells.toList,u.oneCell'=true:=by
        intro u hu;rw[hvc,qE]at hu;subst hu;rfl
       have hrun:=zj5 (w:=w) (off:=o2+i.toNat*t.width+off) (hC.cty T agg _ hT) hb husz (by simp only[List.length_singleton];omega) h1c
       generalize hw1:w.setRow b (splice arr.toList (o2+i.toNat*t.width+off) (Value.slice none 0 0).cells.toList).toArray=w1 at hrun;have hb1:w1.heap[b]?=some (.cells (splice arr.toList (o2+i.toNat*t.width+off) (Value.slice none 0 0).cells.toList).toArray e' (0,0)):=by rw[<- hw1];exact setRow_heap w b _ _ e' _ hb
       have hoth:∀x,x≠b->w1.heap[x]?=w.heap[x]?:=fun x hx=>by rw[<- hw1];exact setRow_other w b x _ hx
       have hrb:E.φ r b:=f4 b hS';have hold:∀i' j,i'<l.length->j<t.width->¬ Hit i.toNat off (Value.slice none 0 0).cells.toList.length i' j->∀x,K i' j x->w1.heap[x]?=w.heap[x]?:=fun i' j hi' hj _ x hx=>hoth x ((hsub i' j x hi' hj hx).2 rfl);have hset1:=Rep.setCells (w:=w) (w1:=w1) (Kn:=fun _ _=>False) hlen1 hcap hsz hRows e4 hul hfit' hset hb1 (fun k c u hc hu=>by
        rw[hvc]at hu;cases k with
        | zero=>simp at hc hu;subst hc hu;exact .nil _ _
        | succ k=>simp at hc)
        hold (fun k x hk hx=>hx.elim) (fun k k' x hk hk' hx hx'=>hx.elim) (fun k x i' j hk hx hi' hj hnh hx'=>hx.elim)
       have hS2:∀x,(x=b\/(∃i' j,i'<l.length/\j<t.width/\¬ Hit i.toNat off (Value.slice none 0 0).cells.toList.length i' j/\K i' j x)\/∃k,k<(Value.slice none 0 0).cells.toList.length/\False)->S1 x:=by
        intro x hx;rcases hx with rfl|⟨i',j,hi',hj,_,hk⟩|⟨k,hk,hx⟩
        .exact hS'
        .exact (hsub i' j x hi' hj hk).1
        .exact hx.elim
       obtain ⟨m',hm',hrm,hh1,hh2⟩:=f5 w1 l' _ (fun x hx hnx=>hoth x (fun e=>hnx (e ▸ hS'))) (fun x hx hx'=>hS2 x hx) hset1;rw[hput]at hm';cases hm';have hsim:=zD2 (w1:=w1) (m:=m) (ks:=[]) (js:=[cols p++[off]]) hS hRr hown (fun q hq=>by cases hq) (by rw[<- hw1];rfl) (by rw[<- hw1];rfl) (by rw[<- hw1];rfl) (by rw[<- hw1];simp) hrb hoth (fun x hx=>by
        rcases hx with ⟨hx,_⟩|hx
        .exact .inl hx
        .exact .inl (f4 x (hS2 x hx))) hrm (fun q u hq hns=>by
        rcases zmL p q with ⟨q',rfl⟩|hnp
        .rw [hh2 q'];rw[fwp q']at hq;refine zjF hcap hsz hRows hb e4 hul hfit' hset hb1 hold q' (fun i' j q'' he k c hj hck=>?_) hoth hq;subst he hj;exfalso;cases k with
         | succ k=>simp at hck
         | zero =>
          have h9:=kG.1 hns (cols p++[off]) (qE.2 rfl);exact absurd (zk3 p i' off q'') h9
        .exact hh1 q u hq (fun q' he=>absurd ⟨q',he⟩ hnp))
       have hput2:=hsim.putV (dst:=o.dst) (m:=.und) (v:=undef) rfl (fun n hn=>by simp[MV.ids,zX]at hn)
       refine zoq (w':=w1) ?_ ⟨hput2.mem,⟨fun n R hn=>.inl (hput2.ids.ro n R hn),fun n cs hn=>⟨.inl (hput2.ids.lo n cs hn).1,fun a ha m hm=>.inl ((hput2.ids.lo n cs hn).2 a ha m hm)⟩,fun m hm n hn=>.inl (hput2.ids.tm m hm n hn),fun f hf m hm n hn=>.inl (hput2.ids.stk f hf m hm n hn)⟩,hput2.tm,hput2.stk⟩;simp[execOp,ho,Instr.storeAt,e5,Instr.sureAddr,hv,hrun]
      .cases h
     .cases h
    .cases h
   .cases h
  .cases h
 .cases h
theorem zM7 (hC:CfgOk C)(w0 w:World)(S0:zI)(U:Nat->Prop)(st:St)(E:Env)(ts:Array Value)(sv:List (Array Value))(o:Oper)(id:Nat)(c:Bool)(st2:St)(hS:Sim w0 S0 U st E ts sv w)(h:graft C st o=some (c,st2))(hc:c=true) :
 Goes C w0 S0 U st ts sv w o id (fun _=>st2.put o.dst .und)/\st2.nid=st.nid:=by
 unfold graft at h;cases h0:zzI C st o with
 | some x=>rw[h0]at h;cases h;exact zM6 hC w0 w S0 U st E ts sv o id c st2 hS h0 hc
 | none=>rw[h0]at h;exact zI5 hC w0 w S0 U st E ts sv o id c st2 hS h
theorem ztF {n0:Nat}(hn0:w0.heap.size<=n0)(hrn:∀q Q,st.root q=some Q->∀x,E.φ q x->x<n0)(hln:∀l cs,zf st.lo l=some cs->E.β l<n0)(hS:Sim w0 S0 U st E ts sv w){r:Nat}{R:Root}(hR:st.root r=some R)(ho:R.own=true){m:List R.t.den}{js:List (List Nat)}{S3:zI}(hos:w1.os=w.os)(htp:w1.tape=w.tape)(hout:w1.output=w.output)(hsz:w.heap.size<=w1.heap.size)(hkeep:∀x,x<w.heap.size->¬ E.φ r x->w1.heap[x]?=w.heap[x]?)(hS3:∀x,S3 x->(E.φ r x\/n0<=x)/\x<w1.heap.size)(hrep:Rep true w1 (E.ρ r) (.s R.t m) S3)(hhdr:∀q u,zD w R.t (E.ρ r) q=some u->js.any (fun c=>c.isPrefixOf (cols q))=false->zD w1 R.t (E.ρ r) q=some u) :
 Sim w0 S0 U (ze2 st r R m js) { E with φ:=fun n=>if n=r then S3 else E.φ n } ts sv w1:=by
 have hM:=hS.mem;obtain ⟨hre,hrm⟩:=hM.mine r R hR ho;have hroot:∀q Q,(ze2 st r R m js).root q=some Q->(q=r/\Q={ R with l:=m })\/(q≠r/\st.root q=some Q/\Q.ep=none):=by
  intro q Q hq;obtain ⟨h1,h2⟩:=zS hq;simp only[ze2,zf]at h1 h2;split at h1
  .rename_i he;simp only[qH]at he;cases h1;exact .inl ⟨he.symm,rfl⟩
  .rename_i he;simp only[qH]at he;refine .inr ⟨fun h=>he h.symm,?_⟩;rcases h2 with h2|h2
   .exact ⟨zdM h1 (.inl h2),h2⟩
   .have:=hM.epo q Q _ h1 h2;omega
 have hfr:∀q Q,q≠r->st.root q=some Q->Q.ep=none->∀x,E.φ q x->w1.heap[x]?=w.heap[x]? :=
  fun q Q hne hq hQ x hx=>hkeep x (hM.rlt q Q hq x hx) (fun h=>hM.apart r R q Q hR ho hq hQ (fun e=>hne e.symm) x h hx)
 have hS3a:∀q Q,q≠r->st.root q=some Q->Q.ep=none->∀x,S3 x->¬ E.φ q x:=by
  intro q Q hne hq hQ x hx hx';rcases (hS3 x hx).1 with h|h
  .exact hM.apart r R q Q hR ho hq hQ (fun e=>hne e.symm) x h hx'
  .have:=hrn q Q hq x hx';omega
 have T:∀a v,VA w st E a v->VA w1 (ze2 st r R m js) { E with φ:=fun n=>if n=r then S3 else E.φ n } (zbQ r js a) v:=by
  have path:∀r' q u Q,(r=r'->js.any (fun c=>c.isPrefixOf (cols q))=false)->(ze2 st r R m js).root r'=some Q->(∀R',st.root r'=some R'->zD w R'.t (E.ρ r') q=some u)->zD w1 Q.t (E.ρ r') q=some u:=by
   intro r' q u Q hjs hQ hold;rcases hroot r' Q hQ with ⟨rfl,rfl⟩|⟨hne,hqs,hQe⟩
   .exact hhdr q u (hold R hR) (hjs rfl)
   .have:=zbH (w':=w1) q (hM.rep r' Q hqs) (hfr r' Q hne hqs hQe);rw[this];exact hold Q hqs
  have tyq:∀r' Q,(ze2 st r R m js).root r'=some Q->∃R',st.root r'=some R'/\R'.t=Q.t:=by
   intro r' Q hQ;rcases hroot r' Q hQ with ⟨rfl,rfl⟩|⟨hne,hqs,hQe⟩
   .exact ⟨R,hR,rfl⟩
   .exact ⟨Q,hqs,rfl⟩
  have loc:∀l cs,zf (ze2 st r R m js).lo l=some cs->∃cs',zf st.lo l=some cs':=by
   intro l cs h;simp only[ze2]at h;rw[zgU]at h;cases hl:zf st.lo l with
   | none=>rw[hl]at h;cases h
   | some cs'=>exact ⟨cs',rfl⟩
  intro a v hv;cases a with
  | bad=>trivial
  | i k n=>exact hv
  | b x=>exact hv
  | sl r' q =>
   simp only[zbQ];split
   .trivial
   .rename_i hns;refine ⟨hv.1,fun Q hQ=>path r' q v Q (fun e=>?_) hQ hv.2⟩;subst e;simpa using hns
  | lp l off =>
   refine ⟨hv.1,fun cs h=>?_⟩;obtain ⟨cs',h'⟩:=loc l cs h;exact hv.2 cs' h'
  | ep r' q i o =>
   simp only[zbQ];split
   .trivial
   .rename_i hns;refine ⟨hv.1,fun Q hQ=>?_⟩;obtain ⟨R',hR',ht⟩:=tyq r' Q hQ;obtain ⟨b',o',len,cap,t',h1,h2,h3⟩:=hv.2 R' hR';refine ⟨b',o',len,cap,t',path r' q _ Q (fun e=>?_) hQ (fun R2 hR2=>?_),by rw[<- ht];exact h2,h3⟩
    .subst e;simpa using hns
    .rw [hR']at hR2;cases hR2;exact h1
  | kp r' J t =>
   have key:(r=r'->coarse js J=true)->VA w1 (ze2 st r R m js) { E with φ:=fun n=>if n=r then S3 else E.φ n } (.kp r' J t) v:=fun hc=>by
    refine ⟨hv.1,fun Q hQ=>?_⟩;obtain ⟨R',hR',ht⟩:=tyq r' Q hQ;obtain ⟨h1,h2,h3⟩:=hv.2 R' hR';refine ⟨ht.symm.trans h1,h2,fun p u hp hJ=>?_⟩;have:=path r' p u Q (fun e=>zqP (hc e) hJ) hQ (fun R2 hR2=>by
     rw[hR']at hR2;cases hR2;rw[h1,h2];exact h3 p u hp hJ)
    rw[<- ht,h1] at this;rw[show E.ρ r'=v from h2] at this
    exact this
   simp only[zbQ];cases hb:Nat.beq r r' with
   | false=>exact key (fun e=>by subst e;simp at hb)
   | true=>cases hc:coarse js J with
    | true=>exact key (fun _=>hc)
    | false=>trivial
  | fn f caps =>
   obtain ⟨vs,h1,h2,h3⟩:=hv;refine ⟨vs,h1,h2,fun k l u hk hu=>⟨(h3 k l u hk hu).1,fun cs h=>?_⟩⟩;obtain ⟨cs',h'⟩:=loc l cs h;exact (h3 k l u hk hu).2 cs' h'
 have hlo:∀l cs,zf (ze2 st r R m js).lo l=some cs->∃cs',zf st.lo l=some cs'/\cs=cs'.map (zbQ r js):=by
  intro l cs h;simp only[ze2]at h;rw[zgU]at h;cases hl:zf st.lo l with
  | none=>rw[hl]at h;cases h
  | some cs'=>rw[hl]at h;cases h;exact ⟨cs',rfl,rfl⟩
 have hβ:∀l cs,zf st.lo l=some cs->E.β l<w.heap.size:=by
  intro l cs h;obtain ⟨_,vals,e,h2,_⟩:=hM.loc l cs h;exact (qO.1 h2).1
 refine ⟨⟨hos.trans hM.os,htp.trans hM.tape,hout.trans hM.output,jF hM.size hsz,?_,?_,?_,?_,?_,?_,?_,?_,?_,?_,hM.κ⟩,⟨?_,?_,?_,?_⟩,zpv T hS.tm,zpw T hS.stk⟩
 .intro x hx hnS;refine (hkeep x (q0 hx hM.size) (fun h=>?_)).trans (hM.keep x hx hnS);rcases hrm x h with h|h
  .exact hnS h
  .omega
 .intro q Q hq;rcases hroot q Q hq with ⟨rfl,rfl⟩|⟨hne,hqs,hQe⟩
  .simp only [if_true,ho];exact hrep
  .simp only [if_neg hne];exact (hM.rep q Q hqs).frame (hfr q Q hne hqs hQe)
 .intro q Q hq x hx;rcases hroot q Q hq with ⟨rfl,rfl⟩|⟨hne,hqs,hQe⟩
  .simp only [if_true]at hx;exact (hS3 x hx).2
  .simp only [if_neg hne]at hx;exact q0 (hM.rlt q Q hqs x hx) hsz
 .intro q Q hq hoq;rcases hroot q Q hq with ⟨rfl,rfl⟩|⟨hne,hqs,hQe⟩
  .refine ⟨hre,fun x hx=>?_⟩;simp only[if_true]at hx;rcases (hS3 x hx).1 with h|h
   .exact hrm x h
   .exact .inr (jF hn0 h)
  .simp only [if_neg hne];exact hM.mine q Q hqs hoq
 .intro hz q Q hq hoq he hf;rcases hroot q Q hq with ⟨rfl,rfl⟩|⟨hne,hqs,hQe⟩
  .exact absurd (show R.own=false from hoq) (by rw[ho];exact Bool.noConfusion)
  .simp only [if_neg hne];exact hM.frz hz q Q hqs hoq he hf
 .intro q Q q' Q' hq hoq hq' he hnn x hx;rcases hroot q Q hq with ⟨rfl,rfl⟩|⟨hne,hqs,hQe⟩
  .rcases hroot q' Q' hq' with ⟨rfl,rfl⟩|⟨hne',hqs',hQe'⟩
   .exact absurd rfl hnn
   .simp only [if_true]at hx;simp only[if_neg hne'];exact hS3a q' Q' hne' hqs' hQe' x hx
  .simp only [if_neg hne]at hx;rcases hroot q' Q' hq' with ⟨rfl,rfl⟩|⟨hne',hqs',hQe'⟩
   .simp only [if_true];exact fun h=>hS3a q Q hne hqs hQe x h hx
   .simp only [if_neg hne'];exact hM.apart q Q q' Q' hqs hoq hqs' hQe' hnn x hx
 .intro l cs hl;obtain ⟨cs',hl',rfl⟩:=hlo l cs hl;obtain ⟨h1,vals,e,h2,h3,h4⟩:=hM.loc l cs' hl';refine ⟨h1,vals,e,(hkeep _ (hβ l cs' hl') (fun h=>hM.lro l cs' r R hl' hR h)).trans h2,by simp[h3],fun j c u hc hu=>?_⟩
  rw[qM]at hc;cases hcj:cs'[j]? with
  | none=>rw[hcj]at hc;cases hc
  | some c'=>rw[hcj]at hc;cases hc;exact ⟨(h4 j c' u hcj hu).1,T _ _ (h4 j c' u hcj hu).2⟩
 .intro l l' cs cs' hl hl' he;obtain ⟨c1,h1,_⟩:=hlo l cs hl;obtain ⟨c2,h2,_⟩:=hlo l' cs' hl';exact hM.linj l l' c1 c2 h1 h2 he
 .intro l cs q Q hl hq;obtain ⟨c1,h1,_⟩:=hlo l cs hl;rcases hroot q Q hq with ⟨rfl,rfl⟩|⟨hne,hqs,hQe⟩
  .simp only [if_true];intro hx;rcases (hS3 _ hx).1 with h|h
   .exact hM.lro l c1 q R h1 hR h
   .have:=hln l c1 h1;omega
  .simp only [if_neg hne];exact hM.lro l c1 q Q h1 hqs
 .intro q Q e hq he;simp only[ze2,zf]at hq
  show e<=st.ep+1
  split at hq
  .cases hq;simp only[hre]at he;cases he
  .exact uC (hM.epo q Q e hq he)
 .intro n Q hn;simp only[ze2,zf]at hn;split at hn
  .rename_i he;simp only[qH]at he;subst he;exact hS.ids.ro _ R (zS hR).1
  .exact hS.ids.ro n Q hn
 .intro n cs hn;obtain ⟨cs',h1,rfl⟩:=hlo n cs hn;refine ⟨(hS.ids.lo n cs' h1).1,fun a ha k hk=>?_⟩;obtain ⟨a',ha',rfl⟩:=jC.1 ha;exact (hS.ids.lo n cs' h1).2 a' ha' k (zpu hk)
 .intro m' hm n hn;obtain ⟨m0,hm0,rfl⟩:=jC.1 hm;exact hS.ids.tm m0 hm0 n (zlp hn)
 .intro f hf m' hm n hn;obtain ⟨f0,hf0,rfl⟩:=jC.1 hf;obtain ⟨m0,hm0,rfl⟩:=jC.1 hm;exact hS.ids.stk f0 hf0 m0 hm0 n (zlp hn)
theorem zwv (hS:Sim w0 S0 U st E ts sv w){r:Nat}{R:Root}(hR:st.root r=some R)(ho:R.own=true){m:List R.t.den}{js:List (List Nat)}{S3:zI}(hos:w1.os=w.os)(htp:w1.tape=w.tape)(hout:w1.output=w.output)(hsz:w.heap.size<=w1.heap.size)(hkeep:∀x,x<w.heap.size->¬ E.φ r x->w1.heap[x]?=w.heap[x]?)(hS3:∀x,S3 x->(E.φ r x\/w.heap.size<=x)/\x<w1.heap.size)(hrep:Rep true w1 (E.ρ r) (.s R.t m) S3)(hhdr:∀q u,zD w R.t (E.ρ r) q=some u->js.any (fun c=>c.isPrefixOf (cols q))=false->zD w1 R.t (E.ρ r) q=some u) :
 Sim w0 S0 U (ze2 st r R m js) { E with φ:=fun n=>if n=r then S3 else E.φ n } ts sv w1 :=
 ztF (n0:=w.heap.size) hS.mem.size (fun q Q h x hx=>hS.mem.rlt q Q h x hx) (fun l cs h=>by
  obtain ⟨_,vals,e,h2,_⟩:=hS.mem.loc l cs h;exact (qO.1 h2).1) hS hR ho hos htp hout hsz hkeep hS3 hrep hhdr
theorem zO0 (hH:MctOk C)(w0 w:World)(S0:zI)(U:Nat->Prop)(st:St)(E:Env)(ts:Array Value)(sv:List (Array Value))(o:Oper)(id:Nat)(c:Bool)(st2:St)(mv:MV)(hS:Sim w0 S0 U st E ts sv w)(h:zFz C st o=some (c,st2,mv))(hc:c=true) :
 Goes C w0 S0 U st ts sv w o id (fun _=>st2.put o.dst mv)/\st2.nid=st.nid:=by
 subst hc;unfold zFz at h;split at h
 .rename_i cl ho;split at h
  .rename_i f hcb;split at h
   .rename_i run x y hmct hargs;split at h
    .rename_i r p k hx hy;split at h
     .rename_i R t l hR hn;split at h
      .rename_i cc t' l' k' hrun;split at h
       .rename_i hcond;obtain ⟨hown,rfl⟩:=hcond;split at h
        .rename_i m hput;simp only[qC,jJ]at h;obtain ⟨rfl,rfl,rfl⟩:=h;refine ⟨?_,rfl⟩;obtain ⟨⟨fn,bd,hf,hbd,hname⟩,hHI⟩:=hH.ok f run hmct;obtain ⟨hxv,hxi⟩:=zbb hS hx;have hyv:=(zbb hS hy).1;simp only[VA]at hyv;have hM:=hS.mem;have hrep:=hM.rep r R hR;rw[hown]at hrep;have hh:=hxv.2 R hR;obtain ⟨t1,l0,S1,f1,f2,f3,f4,f5⟩:=Rep.focus p hrep hh;have hg1:zet R.t R.l p=some (.s t' l):=by
          obtain ⟨R',hR',hg'⟩:=zdf hn;rw[hR]at hR';cases hR';exact hg'
         rw[hg1] at f1;cases f1;obtain ⟨_,_,_,_,fwp⟩:=f5 w l S1 (fun _ _ _=>rfl) (fun _ h _=>h) f3;intro next Q hnext;have hca:cl.args = #[x,y]:=by rw[<- hargs]
         have hname':fn.name≠ "runtime.NumGoroutine":=by simpa using hname
         have hexec:(execOp ({ tmps:=ts,defers:=[] }:Act).eval o).run C.P w = .ok (.enter f #[({ tmps:=ts,defers:=[] }:Act).eval x,.int .i64 k]) w:=by
          have hfe:({ tmps:=ts,defers:=[] }:Act).eval (.func f) = .func (.func f) #[] #[]:=rfl;simp[execOp,ho,resolve,hcb,Deferred.ofValue,invoke,callFunc,hf,hbd,hname',hca,hyv,hfe]
         unfold Oper.wp;rw[hexec,Oper.upon_enter];refine (hHI w _ t' l k S1 _ k' f3 (fun z hz=>hM.rlt r R hR z (f4 z hz)) hrun).mono ?_;intro e w1 he;cases e with
         | panicked chain=>exact he.elim
         | outgrown=>exact he.elim
         | returned u =>
          obtain ⟨hos,htp,hout,hsz,hkeep,rfl,S2,hrep2,hS2⟩:=he;obtain ⟨m',hm',hrm,hh1,hh2⟩:=f5 w1 l' S2 (fun z hz hnz=>hkeep z (hM.rlt r R hR z hz) hnz) (fun z hz hz'=>by
           rcases (hS2 z hz).1 with h|h
           .exact h
           .have:=hM.rlt r R hR z hz';omega) hrep2
          rw[hput]at hm';cases hm';have hsim:=zwv (w1:=w1) (m:=m) (js:=(List.range t'.width).map fun j=>cols p++[j]) hS hR hown hos htp hout hsz (fun z hz hnz=>hkeep z hz (fun h=>hnz (f4 z h))) (fun z hz=>by
           rcases hz with ⟨hz,_⟩|hz
           .exact ⟨.inl hz,q0 (hM.rlt r R hR z hz) hsz⟩
           .obtain ⟨h1,h2⟩:=hS2 z hz;exact ⟨h1.imp (f4 z) (fun h=>h),h2⟩) hrm (fun q u hq hns=>by
           refine hh1 q u hq (fun q' he=>?_);subst he;cases q' with
           | nil=>rfl
           | cons ij q'' =>
            obtain ⟨i',j⟩:=ij;exfalso;rw[fwp]at hq;have hj:j<t'.width:=by
             generalize ({ tmps:=ts,defers:=[] }:Act).eval x=vx at hq;cases vx with
             | slice a len cap =>
              cases a with
              | none=>simp[zD]at hq
              | some a =>
               simp only[zD]at hq;split at hq
               .split at hq
                .rename_i hsh;rw[<- zc5];exact (qA.1 hsh).1
                .cases hq
               .cases hq
             | _=>simp[zD]at hq
            have h9:=kG.1 hns (cols p++[j]) (jC.2 ⟨j,kB.2 hj,rfl⟩);exact absurd (zk3 p i' j q'') h9)
          have hput2:=hsim.putV (dst:=o.dst) (m:=.v (.at (.i .i64 k'))) (v:=.int .i64 k') rfl (fun n hn=>by simp[MV.ids,zX,zy,At.ids,zN,zU]at hn)
          exact hnext _ _ _ ⟨hput2.mem,⟨fun n R hn=>.inl (hput2.ids.ro n R hn),fun n cs hn=>⟨.inl (hput2.ids.lo n cs hn).1,fun a ha m hm=>.inl ((hput2.ids.lo n cs hn).2 a ha m hm)⟩,fun m hm n hn=>.inl (hput2.ids.tm m hm n hn),fun f hf m hm n hn=>.inl (hput2.ids.stk f hf m hm n hn)⟩,hput2.tm,hput2.stk⟩
        .cases h
       .cases h
      .cases h
     .cases h
    .cases h
   .cases h
  .cases h
 .cases h
end
def zJ (own:List Bool)(j:Nat):Prop:=own[j]?=some true
def zcx (P:Program)(f:FuncId)(own:List Bool)(run:List CV->List AV->Option (Bool×List CV×List AV)):Prop :=
 FnOk P f/\∀(w:World) (blk:Nat) (vals:Array Value) (e:TypeId) (cs:List CV) (K:Nat->zI) (avs:List AV) (xs:List Value) (Ka:zI) (cs':List CV) (rs:List AV),
  w.heap[blk]?=some (.cells vals e (0,0))->vals.size=cs.length->own.length=cs.length ->
  (∀(j:Nat) (c:CV) (u:Value),cs[j]?=some c->vals[j]?=some u->Rep ((own[j]?).getD false) w u c (K j)) ->
  (∀j x,j<cs.length->K j x->x<w.heap.size/\x≠blk) ->
  (∀i j x,i<cs.length->j<cs.length->zJ own i->i≠j->K i x->¬ K j x) ->
  zch false w (zk avs) xs (fun _=>Ka)->(∀x,Ka x->x<w.heap.size/\x≠blk/\∀j,j<cs.length->zJ own j->¬ K j x) ->
  run cs avs=some (true,cs',rs) ->
  Calls P f (#[.pointer (some ⟨blk,0,none⟩)]++(zbj avs xs).toArray) w fun
   | .returned v,w'=>w'.os=w.os/\w'.tape=w.tape/\w'.output=w.output/\w.heap.size<=w'.heap.size /\
    (∀b,b<w.heap.size->b≠blk->(∀j,j<cs.length->zJ own j->¬ K j b)->w'.heap[b]?=w.heap[b]?) /\
    ∃(vals':Array Value) (e':TypeId) (K':Nat->zI) (ys:List Value) (Kr:Nat->zI),w'.heap[blk]?=some (.cells vals' e' (0,0))/\vals'.size=cs'.length/\cs'.length=cs.length /\
     (∀(j:Nat) (c:CV) (u:Value),cs'[j]?=some c->vals'[j]?=some u->match c with
      | .i k n=>u = .int k n
      | .b x=>u = .bool x
      | .s t l=>(zJ own j->Rep true w' u (.s t l) (K' j))/\(¬ zJ own j->vals[j]?=some u)) /\
     zpA (zkG f) w' (zk rs) ys Kr/\v=zgL (zbj rs ys) /\
     (∀j x,j<cs.length->K' j x->x<w'.heap.size/\x≠blk/\((∃i,i<cs.length/\zJ own i/\K i x)\/w.heap.size<=x)) /\
     (∀i x,i<(zk rs).length->Kr i x->x<w'.heap.size/\x≠blk/\((∃i,i<cs.length/\zJ own i/\K i x)\/w.heap.size<=x)) /\
     (∀i j x,i<cs.length->j<cs.length->i≠j->K' i x->¬ K' j x) /\
     (∀i j c x,(zk rs)[i]?=some c->zkG f c=true->j<(zk rs).length->i≠j->Kr i x->¬ Kr j x) /\
     (∀i j x,i<cs.length->j<(zk rs).length->K' i x->¬ Kr j x)
   | _,_=>False
structure PctOk (C:Cfg):Prop where
 ok:∀f own run,C.pct f=some (own,run)->zcx C.P f own run
section
variable {C:Cfg} {w0 w w1:World} {S0:zI} {U:Nat->Prop} {st st1:St} {E E1:Env} {ts:Array Value} {sv:List (Array Value)}
structure Blk (st:St) (own:List Bool) (cells:List At) (cs:List CV) (ks:List Nat):Prop where
 len:cs.length=cells.length
 olen:own.length=cells.length
 ownk:∀r∈ks,∃j,zJ own j/\cells[j]?=some (.sl r [])
 get:∀(j:Nat) (a:At),cells[j]?=some a->(∃k n,a = .i k n/\cs[j]?=some (.i k n))\/(∃x,a = .b x/\cs[j]?=some (.b x)) \/
  ∃r R,a = .sl r []/\st.root r=some R/\R.ep=none/\own[j]?=some R.own/\cs[j]?=some (.s R.t R.l)/\(R.own=true->r∈ks)
 inj:∀(i j r:Nat),zJ own i->cells[i]?=some (.sl r [])->cells[j]?=some (.sl r [])->i=j
theorem zFZ:∀(own:List Bool) (cells:List At) (cs:List CV) (ks:List Nat),st.blk own cells=some (cs,ks)->Blk st own cells cs ks
 | [],[],cs,ks,h=>by
  cases h;exact ⟨rfl,rfl,fun r h=>by simp at h,fun j a h=>by simp at h,fun i j r h=>by simp[zJ]at h⟩
 | [],a :: r,cs,ks,h=>by simp[St.blk]at h
 | o :: ms,[],cs,ks,h=>by simp[St.blk]at h
 | o :: ms,a :: r,cs,ks,h=>by
  simp only[St.blk]at h;split at h
  .cases h
  .rename_i cs0 ks0 h0;have ih:=zFZ ms r cs0 ks0 h0;have flat:∀(c:CV),(∀q,a≠.sl q [])->((∃k n,a = .i k n/\c = .i k n)\/(∃x,a = .b x/\c = .b x))->Blk st (o :: ms) (a :: r) (c :: cs0) ks0:=by
    intro c hne hc;refine ⟨by simp[ih.len],by simp[ih.olen],fun q hq=>?_,fun j b hb=>?_,fun i j q hi h1 h2=>?_⟩
    .obtain ⟨j,h1,h2⟩:=ih.ownk q hq;exact ⟨j+1,by simpa [zJ] using h1,by simpa using h2⟩
    .cases j with
     | zero =>
      simp only[qF,qC]at hb;subst hb;rcases hc with ⟨k,n,h1,h2⟩|⟨x,h1,h2⟩
      .exact .inl ⟨k,n,h1,by simp[h2]⟩
      .exact .inr (.inl ⟨x,h1,by simp[h2]⟩)
     | succ j=>simpa using ih.get j b (by simpa using hb)
    .cases i with
     | zero=>simp only[qF,qC]at h1;exact absurd h1 (hne q)
     | succ i =>
      cases j with
      | zero=>simp only[qF,qC]at h2;exact absurd h2 (hne q)
      | succ j =>
       have:=ih.inj i j q (by simpa [zJ] using hi) (by simpa using h1) (by simpa using h2)
       omega
   split at h
   .rename_i k n;cases h;exact flat _ (fun q h=>by cases h) (.inl ⟨k,n,rfl,rfl⟩)
   .rename_i x;cases h;exact flat _ (fun q h=>by cases h) (.inr ⟨x,rfl,rfl⟩)
   .rename_i q;split at h
    .rename_i R hR;split at h
     .rename_i hcond;simp only[qD,qZ,jE,decide_eq_false_iff_not,qH,j4]at hcond;obtain ⟨⟨hown,hep⟩,hnk⟩:=hcond;cases h;have hmem:∀x,x∈cond o (q :: ks0) ks0↔(o=true/\x=q)\/x∈ks0:=by
       intro x;cases o<;>simp
      refine ⟨by simp[ih.len],by simp[ih.olen],fun x hx=>?_,fun j b hb=>?_,fun i j x hi h1 h2=>?_⟩
      .rcases (hmem x).1 hx with ⟨rfl,rfl⟩|hx
       .exact ⟨0,rfl,rfl⟩
       .obtain ⟨j,h1,h2⟩:=ih.ownk x hx;exact ⟨j+1,by simpa [zJ] using h1,by simpa using h2⟩
      .cases j with
       | zero =>
        simp only[qF,qC]at hb;subst hb;exact .inr (.inr ⟨q,R,rfl,hR,hep,by simp[hown],by simp,fun h=>(hmem q).2 (.inl ⟨by rw[<- hown];exact h,rfl⟩)⟩)
       | succ j =>
        rcases ih.get j b (by simpa using hb) with h|h|⟨r',R',g1,g2,g3,g4,g5,g6⟩
        .exact .inl (by simpa using h)
        .exact .inr (.inl (by simpa using h))
        .exact .inr (.inr ⟨r',R',g1,g2,g3,by simpa using g4,by simpa using g5,fun h=>(hmem r').2 (.inr (g6 h))⟩)
      .have old:∀(i:Nat),zJ ms i->r[i]?=some (.sl q [])->False:=by
        intro i hi hq;rcases ih.get i _ hq with ⟨_,_,h,_⟩|⟨_,h,_⟩|⟨r',R',g1,g2,g3,g4,g5,g6⟩
        .cases h
        .cases h
        .cases g1;have:R'.own=true:=by rw[hi] at g4;simpa using g4.symm
         exact hnk (g6 this)
       cases i with
       | zero =>
        cases j with
        | zero=>rfl
        | succ j =>
         simp only[qF,qC,At.sl.injEq,and_true]at h1;subst h1;simp only[zJ,qF,qC]at hi;subst hi;simp only[jI]at h2;exfalso;rcases ih.get j _ h2 with ⟨_,_,h,_⟩|⟨_,h,_⟩|⟨r',R',g1,g2,g3,g4,g5,g6⟩
         .cases h
         .cases h
         .cases g1;rw[hR] at g2;cases g2;exact hnk (g6 hown)
       | succ i =>
        cases j with
        | zero =>
         simp only[qF,qC,At.sl.injEq,and_true]at h2;subst h2;exact (old i (by simpa [zJ] using hi) (by simpa using h1)).elim
        | succ j =>
         have:=ih.inj i j x (by simpa [zJ] using hi) (by simpa using h1) (by simpa using h2)
         omega
     .cases h
    .cases h
   .cases h
theorem zzo:∀(own:List Bool) (cells:List At) (cs':List CV) (id:Nat) (cells':List At),zjB own cells cs' id=some cells'->cells'.length=cells.length/\cs'.length=cells.length /\
 ∀(j:Nat) (b:At),cells'[j]?=some b->(∃k n,b = .i k n/\cs'[j]?=some (.i k n))\/(∃x,b = .b x/\cs'[j]?=some (.b x)) \/
  (∃t l,b = .sl (id+j) []/\zJ own j/\cs'[j]?=some (.s t l))\/(∃t l r,b = .sl r []/\¬ zJ own j/\cells[j]?=some (.sl r [])/\cs'[j]?=some (.s t l))
 | [],[],[],id,cells',h=>by
  cases h;exact ⟨rfl,rfl,fun j b h=>by simp at h⟩
 | o :: ms,a :: r,c :: cs,id,cells',h=>by
  simp only[zjB]at h;split at h
  .cases h
  .rename_i l0 h0;obtain ⟨g1,g2,g3⟩:=zzo ms r cs (id+1) l0 h0;have tail:∀(j:Nat) (b:At),l0[j]?=some b->(∃k n,b = .i k n/\(c :: cs)[j+1]?=some (.i k n))\/(∃x,b = .b x/\(c :: cs)[j+1]?=some (.b x)) \/
    (∃t l,b = .sl (id+(j+1)) []/\zJ (o :: ms) (j+1)/\(c :: cs)[j+1]?=some (.s t l))\/(∃t l q,b = .sl q []/\¬ zJ (o :: ms) (j+1)/\(a :: r)[j+1]?=some (.sl q [])/\(c :: cs)[j+1]?=some (.s t l)):=by
    intro j b hb;have:=g3 j b hb;have e:id+1+j=id+(j+1):=by omega
    rw[e] at this;simpa [zJ] using this
   split at h
   .split at h
    .rename_i k k' n hk;cases h;refine ⟨by simp[g1],by simp[g2],fun j b hb=>?_⟩
     cases j with
     | zero =>
      simp only[qF,qC]at hb;subst hb hk;exact .inl ⟨_,_,rfl,rfl⟩
     | succ j=>exact tail j b (by simpa using hb)
    .cases h
   .cases h;refine ⟨by simp[g1],by simp[g2],fun j b hb=>?_⟩
    cases j with
    | zero =>
     simp only[qF,qC]at hb;subst hb;exact .inr (.inl ⟨_,rfl,rfl⟩)
    | succ j=>exact tail j b (by simpa using hb)
   .rename_i q t l;cases h;refine ⟨by cases o<;>simp [g1],by simp[g2],fun j b hb=>?_⟩
    cases j with
    | zero =>
     cases o with
     | true =>
      simp only[cond_true,qF,qC]at hb;subst hb;exact .inr (.inr (.inl ⟨_,_,rfl,rfl,rfl⟩))
     | false =>
      simp only[cond_false,qF,qC]at hb;subst hb;exact .inr (.inr (.inr ⟨_,_,q,rfl,by simp[zJ],rfl,rfl⟩))
    | succ j=>exact tail j b (by cases o<;>simpa using hb)
   .cases h
 | [],[],_ :: _,_,_,h=>by simp[zjB]at h
 | [],_ :: _,_,_,_,h=>by simp[zjB]at h
 | _ :: _,[],_,_,_,h=>by simp[zjB]at h
 | _ :: _,_ :: _,[],_,_,h=>by simp[zjB]at h
theorem zDO:∀(own:List Bool) (cs:List CV) (id n:Nat) (R:Root),zf (zdP own cs id) n=some R->id<=n/\zJ own (n-id)/\∃t l,cs[n-id]?=some (.s t l)/\R=zbP t l
 | [],_,_,_,_,h=>by cases h
 | o :: ms,[],_,_,_,h=>by cases h
 | o :: ms,c :: cs,id,n,R,h=>by
  have hr:zf (zdP ms cs (id+1)) n=some R->id<=n/\zJ (o :: ms) (n-id)/\∃t l,(c :: cs)[n-id]?=some (.s t l)/\R=zbP t l:=fun h=>by
   obtain ⟨h1,h2,t,l,h3,h4⟩:=zDO ms cs (id+1) n R h;have e:n-id=(n-(id+1))+1:=by omega
   exact ⟨by omega,by rw[e];simpa [zJ] using h2,t,l,by rw[e,jI];exact h3,h4⟩
  cases c with
  | i k x=>exact hr h
  | b x=>exact hr h
  | s t l =>
   cases o with
   | false=>exact hr h
   | true =>
    simp only[zdP,cond_true,zf]at h;split at h
    .rename_i he;simp only[qH]at he;subst he;cases h;exact ⟨qV _,by simp[zJ],t,l,by simp,rfl⟩
    .exact hr h
theorem zmI:∀(ks:List Nat) (n:Nat) (R:Root),zf (killed st ks) n=some R->R.ep=some st.ep/\∃Q,zf st.ro n=some Q
 | [],_,_,h=>by cases h
 | k :: ks,n,R,h=>by
  simp only[killed]at h;split at h
  .rename_i Q hQ;simp only[zf]at h;split at h
   .rename_i he;simp only[qH]at he;subst he;cases h;exact ⟨rfl,Q,hQ⟩
   .exact zmI ks n R h
  .exact zmI ks n R h
theorem zla:∀(ks:List Nat) (n:Nat) (Q:Root),zf (killed st ks) n=none->zf st.ro n=some Q->n∉ks
 | [],_,_,_,_=>by simp
 | k :: ks,n,Q,h,hQ=>by
  simp only[killed]at h;intro hm;rcases qG.1 hm with rfl|hm
  .rw [hQ]at h;simp[zf]at h
  .split at h
   .simp only [zf]at h;split at h
    .cases h
    .exact zla ks n Q h hQ hm
   .exact zla ks n Q h hQ hm
theorem zti (hS:Sim w0 S0 U st E ts sv w){ks:List Nat}{Ka:zI}(hKa:∀r R x,st.root r=some R->R.ep=none->r∉ks->E.φ r x->Ka x){a:At}{u:Value}{c:CV}(hf:(zN a).all (fun r=>!ks.contains r&&(match st.root r with|some R=>R.ep.isNone|none=>false))=true)(hc:st.cvOf a=some c)(hu:VA w st E a u):Rep false w u c Ka:=by
 cases a with
 | i k n=>cases hc;cases hu;exact .i _ _ _
 | b x=>cases hc;cases hu;exact .b _ _
 | sl r p =>
  simp only[St.cvOf]at hc;obtain ⟨R,hR,hg⟩:=zdf hc;simp only[zN,kQ,List.all_nil,Bool.and_true,hR,qD,qZ,jE,decide_eq_false_iff_not,j4]at hf;obtain ⟨t',l',S',h1,h2,h3,h4⟩:=Rep.at p (hS.mem.rep r R hR) (hu.2 R hR);rw[hg]at h1;cases h1;exact (h3.weak (fun x hx=>hKa r R x hR hf.2 hf.1 (h4 x hx))).ro
 | bad=>cases hc
 | lp l off=>cases hc
 | ep r p i off=>cases hc
 | fn f caps=>cases hc
 | kp r J t=>cases hc
theorem zwk (hS:Sim w0 S0 U st E ts sv w){ks:List Nat}{Ka:zI}(hKa:∀r R x,st.root r=some R->R.ep=none->r∉ks->E.φ r x->Ka x):∀(l:List Operand) (avs:List AV),zbw (fun x=>match st.opnd x with|some v=>st.avF ks v|none=>none) l=some avs ->
 ∃xs,zch false w (zk avs) xs (fun _=>Ka)/\l.map ({ tmps:=ts,defers:=[] }:Act).eval=zbj avs xs
 | [],avs,h=>by
  cases h;exact ⟨[],⟨rfl,fun i c x h=>by simp[zk]at h⟩,rfl⟩
 | x :: r,avs,h=>by
  simp only[zbw]at h;split at h
  .rename_i av hav;split at h
   .rename_i avs' hr;cases h;obtain ⟨xs,hxs,hm⟩:=zwk hS hKa r avs' hr;split at hav
    .rename_i mv hmv;obtain ⟨hv,-⟩:=zbk hS hmv;unfold St.avF at hav;split at hav
     .rename_i hfree0;have hfree:=qS.1 hfree0;unfold St.avOf at hav;split at hav
      .rename_i a;split at hav
       .rename_i c hc;cases hav;have h1:=zti hS hKa (hfree a (by simp[zX,zy])) hc hv
        refine ⟨({ tmps:=ts,defers:=[] }:Act).eval x :: xs,?_,by simp[zbj,hm]⟩
        have e:zk (AV.one c :: avs')=[c]++zk avs':=by simp[zk,AV.cvs]
        rw[e];refine zch.append (x1:=[({ tmps:=ts,defers:=[] }:Act).eval x]) ⟨rfl,fun i c' u hc' hu=>?_⟩ hxs;cases i with
        | zero=>simp at hc' hu;subst hc' hu;exact h1
        | succ i=>simp at hc'
       .cases hav
      .rename_i l;split at hav
       .rename_i cs hcs;cases hav;obtain ⟨vs,hvs,hsz,hvv⟩:=hv;obtain ⟨hl,hf⟩:=zgG hcs;have hlen:vs.toList.length=cs.length:=by simp[hsz,hl]
        refine ⟨vs.toList++xs,?_,?_⟩
        .have e:zk (AV.agg cs :: avs')=cs++zk avs':=by simp[zk,AV.cvs]
         rw[e];refine zch.append ⟨hlen,fun i c' u hc' hu=>?_⟩ hxs;have hi:i<l.length:=by rw[hl];exact (qA.1 hc').1
         have ha:=qB hi;exact zti hS hKa (hfree _ (by simp only[zX,zy];exact qI ha)) (hf i _ _ ha hc') (hvv i _ u ha (by simpa using hu)).2
        .simp only [jG,zbj,hvs,<- hlen,kM,kR,hm,jM]
       .cases hav
      .cases hav
     .cases hav
    .cases hav
   .cases h
  .cases h
def cφ (E:Env)(cells:List At)(j:Nat):zI:=match cells[j]? with
 | some a=>aφ E a
 | none=>fun _=>False
theorem zeF {cells:List At}{j:Nat}{a:At}(h:cells[j]?=some a):cφ E cells j=aφ E a:=by
 unfold cφ;rw[h]
theorem zns {cells:List At}{j x:Nat}(h:cφ E cells j x):∃a,cells[j]?=some a/\aφ E a x:=by
 unfold cφ at h;cases hc:cells[j]? with
 | some a=>rw[hc]at h;exact ⟨a,rfl,h⟩
 | none=>rw[hc]at h;exact h.elim
theorem zO4 (hH:PctOk C)(w0 w:World)(S0:zI)(U:Nat->Prop)(st:St)(E:Env)(ts:Array Value)(sv:List (Array Value))(o:Oper)(id:Nat)(c:Bool)(st2:St)(mv:MV)(hS:Sim w0 S0 U st E ts sv w)(hid:∀n,Mine id n->¬ U n)(h:zvl C st o id=some (c,st2,mv))(hc:c=true):Goes C w0 S0 U st ts sv w o id (fun _=>st2.put o.dst mv)/\st2.nid=st.nid:=by
 subst hc;unfold zvl at h;split at h
 .rename_i cl ho;split at h
  .rename_i f hcb;split at h
   .rename_i own run hpct;generalize hargs:cl.args.toList=args0 at h;unfold zHQ at h;split at h
    .rename_i x ys0;split at h
     .rename_i l hx;split at h
      .rename_i cells hcells;split at h
       .rename_i cs ks hblk;split at h
        .rename_i avs havs;split at h
         .rename_i cc cs' rs hrun;split at h
          .rename_i cells' hnew;split at h
           .rename_i hlen;simp only[qC,jJ]at h;obtain ⟨rfl,rfl,rfl⟩:=h;refine ⟨?_,rfl⟩;obtain ⟨⟨fn,bd,hf,hbd,hname⟩,hHP⟩:=hH.ok f own run hpct;have hB:=zFZ own cells cs ks hblk;obtain ⟨hn1,hn2,hn3⟩:=zzo own cells cs' id cells' hnew;have hrsl:(zk rs).length<=16:=hlen.2;have hM:=hS.mem;obtain ⟨hl1,vals,e,hl2,hl3,hl4⟩:=hM.loc l cells hcells;obtain ⟨hxv,hxi⟩:=zbb hS hx;have hxp:=hxv.2 cells hcells;have hβlt:∀l cs,zf st.lo l=some cs->E.β l<w.heap.size:=by
             intro l cs h;obtain ⟨_,vals,e,h2,_⟩:=hM.loc l cs h;exact (qO.1 h2).1
            let K:Nat->zI:=cφ E cells
            have hK:∀j x,K j x->∃r R,cells[j]?=some (.sl r [])/\st.root r=some R/\R.ep=none/\own[j]?=some R.own/\(R.own=true->r∈ks)/\E.φ r x:=by
             intro j x hx;obtain ⟨a,ha,hx⟩:=zns hx;rcases hB.get j a ha with ⟨_,_,rfl,_⟩|⟨_,rfl,_⟩|⟨r,R,rfl,h1,h2,h3,_,h5⟩
             .exact hx.elim
             .exact hx.elim
             .exact ⟨r,R,ha,h1,h2,h3,h5,hx⟩
            have hKown:∀j x,zJ own j->K j x->∃r∈ks,∃R,st.root r=some R/\R.own=true/\E.φ r x:=by
             intro j x hj hx;obtain ⟨r,R,h1,h2,_,h4,h5,h6⟩:=hK j x hx;have:R.own=true:=by rw[hj]at h4;simpa using h4.symm
             exact ⟨r,h5 this,R,h2,this,h6⟩
            have hks:∀r∈ks,∃j R,j<cs.length/\zJ own j/\cells[j]?=some (.sl r [])/\st.root r=some R/\R.own=true/\∀x,E.φ r x->K j x:=by
             intro r hr;obtain ⟨j,h1,h2⟩:=hB.ownk r hr;rcases hB.get j _ h2 with ⟨_,_,h,_⟩|⟨_,h,_⟩|⟨r',R,h,g1,g2,g3,_,_⟩
             .cases h
             .cases h
             .cases h;refine ⟨j,R,by rw[hB.len];exact (qA.1 h2).1,h1,h2,g1,by rw[h1] at g3;simpa using g3.symm,fun x hx=>?_⟩
              show cφ E cells j x
              rw[zeF h2];exact hx
            let Ka:zI:=fun x=>x<w.heap.size/\x≠E.β l/\∀r∈ks,¬ E.φ r x
            obtain ⟨xs,hxs,hxm⟩:=zwk hS (ks:=ks) (Ka:=Ka) (fun r R x hR he hr hx=>⟨hM.rlt r R hR x hx,fun h=>hM.lro l cells r R hcells hR (by rw[<- h];exact hx),fun q hq hqx=>by
             obtain ⟨_,Q,_,_,_,hQ,hQo,_⟩:=hks q hq;exact hM.apart q Q r R hQ hQo hR he (fun e=>hr (by rw[<- e];exact hq)) x hqx hx⟩) ys0 avs havs
            have hargs':cl.args.map ({ tmps:=ts,defers:=[] }:Act).eval = #[.pointer (some ⟨E.β l,0,none⟩)]++(zbj avs xs).toArray:=by
             have e:cl.args=(x :: ys0).toArray:=by rw[<- hargs,jM]
             rw[e,List.map_toArray,jG,hxm,hxp];simp
            intro next Q hnext;have hname':fn.name≠ "runtime.NumGoroutine":=by simpa using hname
            have hexec:(execOp ({ tmps:=ts,defers:=[] }:Act).eval o).run C.P w = .ok (.enter f (#[.pointer (some ⟨E.β l,0,none⟩)]++(zbj avs xs).toArray)) w:=by
             have hfe:({ tmps:=ts,defers:=[] }:Act).eval (.func f) = .func (.func f) #[] #[]:=rfl;simp[execOp,ho,resolve,hcb,Deferred.ofValue,invoke,callFunc,hf,hbd,hname',hargs',hfe]
            unfold Oper.wp;rw[hexec,Oper.upon_enter];refine (hHP w (E.β l) vals e cs K avs xs Ka cs' rs hl2 (by rw[hl3,hB.len]) (by rw[hB.olen,hB.len]) (fun j c u hcj hu=>?_) (fun j x hj hx=>?_) (fun i j x hi hj ho hne hx hx'=>?_) hxs (fun x hx=>⟨hx.1,hx.2.1,fun j hj ho hk=>?_⟩) hrun).mono ?_
            .have hj:j<cells.length:=by rw[<- hB.len];exact (qA.1 hcj).1
             have ha:=qB hj;obtain ⟨_,hva⟩:=hl4 j _ u ha hu;rcases hB.get j _ ha with ⟨k,n,h1,h2⟩|⟨y,h1,h2⟩|⟨r,R,h1,h2,h3,h4,h5,_⟩
             .rw [hcj]at h2;cases h2;rw[h1]at hva;cases hva;exact .i _ _ _
             .rw [hcj]at h2;cases h2;rw[h1]at hva;cases hva;exact .b _ _
             .rw [hcj]at h5;cases h5;rw[h1]at hva;have:=hva.2 R h2;simp only[zD,qC] at this;subst this;have hr:=hM.rep r R h2;rw[h4];refine hr.weak (fun x hx=>?_)
              show cφ E cells j x
              rw[zeF ha,h1];exact hx
            .obtain ⟨r,R,h1,h2,h3,h4,h5,h6⟩:=hK j x hx;exact ⟨hM.rlt r R h2 x h6,fun h=>hM.lro l cells r R hcells h2 (by rw[<- h];exact h6)⟩
            .obtain ⟨r,R,h1,h2,h3,h4,h5,h6⟩:=hK i x hx;obtain ⟨r',R',h1',h2',h3',h4',h5',h6'⟩:=hK j x hx';have hRo:R.own=true:=by rw[ho]at h4;simpa using h4.symm
             refine hM.apart r R r' R' h2 hRo h2' h3' (fun e=>hne (hB.inj i j r ho h1 (by rw[e];exact h1'))) x h6 h6'
            .obtain ⟨r,hr,R,h1,h2,h3⟩:=hKown j x ho hk;exact hx.2.2 r hr h3
            .intro ex w' he;cases ex with
             | panicked chain=>exact he.elim
             | outgrown=>exact he.elim
             | returned v =>
              obtain ⟨hos,htp,hout,hsz,hkeep,vals',e',K',ys,Kr,hb',hsz',hcl,hcell,hys,rfl,hK'x,hKrx,hK'd,hKrd,hKK⟩:=he;have hcs12:cs.length<=12:=by rw[hB.len];exact hlen.1
              let E1:Env:={ E with ρ:=fun n=>if id<=n/\n<id+12 then (vals'[n-id]?).getD undef else if id+12<=n/\n<id+32 then (ys[n-(id+12)]?).getD undef else E.ρ n,
                                   φ:=fun n=>if id<=n/\n<id+12 then (fun x=>n-id<cs.length/\K' (n-id) x) else if id+12<=n/\n<id+32 then (fun x=>n-(id+12)<(zk rs).length/\Kr (n-(id+12)) x) else E.φ n }
              have hE1:∀n,U n->E1.ρ n=E.ρ n/\E1.φ n=E.φ n:=by
               intro n hn;have:¬ (id<=n/\n<id+32):=fun h=>hid n h hn;have a1:¬ (id<=n/\n<id+12):=fun h=>this ⟨h.1,by omega⟩
               have a2:¬ (id+12<=n/\n<id+32):=fun h=>this ⟨by omega,h.2⟩
               simp only[E1,if_neg a1,if_neg a2,and_self]
              have hEa:∀n,id<=n->n<id+12->E1.ρ n=(vals'[n-id]?).getD undef/\E1.φ n=fun x=>n-id<cs.length/\K' (n-id) x:=by
               intro n h1 h2;simp only[E1,if_pos (show id<=n/\n<id+12 from ⟨h1,h2⟩),and_self]
              have hEb:∀n,id+12<=n->n<id+32->E1.ρ n=(ys[n-(id+12)]?).getD undef/\E1.φ n=fun x=>n-(id+12)<(zk rs).length/\Kr (n-(id+12)) x:=by
               intro n h1 h2;have a1:¬ (id<=n/\n<id+12):=fun h=>by omega
               simp only[E1,if_neg a1,if_pos (show id+12<=n/\n<id+32 from ⟨h1,h2⟩),and_self]
              generalize hst1:({ st with lo:=(l,cells') :: st.lo,ro:=zdP own cs' id++(zbO (zbG f) rs (id+12)++(killed st ks++st.ro)),ep:=st.ep+1 }:St)=st1;have hst1ro:st1.ro=zdP own cs' id++(zbO (zbG f) rs (id+12)++(killed st ks++st.ro)):=by rw[<- hst1]
              have hst1lo:st1.lo=(l,cells') :: st.lo:=by rw[<- hst1]
              have hst1ep:st1.ep=st.ep+1:=by rw[<- hst1]
              have hA:∀r R,zf (zdP own cs' id) r=some R->id<=r/\r<id+12/\r-id<cs.length/\zJ own (r-id)/\∃t l,cs'[r-id]?=some (.s t l)/\R=zbP t l:=by
               intro r R hr;obtain ⟨h1,h2,t,l',h3,h4⟩:=zDO own cs' id r R hr;have hlt:=(qA.1 h3).1;exact ⟨h1,by omega,by omega,h2,t,l',h3,h4⟩
              have hBr:∀r R,zf (zbO (zbG f) rs (id+12)) r=some R->id+12<=r/\r<id+32/\r-(id+12)<(zk rs).length/\∃t l,(zk rs)[r-(id+12)]?=some (.s t l)/\R=⟨t,l,zbG f t,none⟩:=by
               intro r R hr;obtain ⟨h1,t,l',h3,h4⟩:=zdd (zbG f) rs (id+12) r R hr;have hlt:=(qA.1 h3).1;exact ⟨h1,by omega,hlt,t,l',h3,h4⟩
              have hro:∀r R,zf st1.ro r=some R->zf (zdP own cs' id) r=some R\/zf (zbO (zbG f) rs (id+12)) r=some R\/(R.ep=some st.ep/\∃Q,zf st.ro r=some Q)\/(zf st.ro r=some R/\r∉ks):=by
               intro r R hr;rw[hst1ro,zba]at hr;split at hr
               .rename_i Q hQ;cases hr;exact .inl hQ
               .rw [zba]at hr;split at hr
                .rename_i Q hQ;cases hr;exact .inr (.inl hQ)
                .rw [zba]at hr;split at hr
                 .rename_i Q hQ;cases hr;exact .inr (.inr (.inl (zmI ks r _ hQ)))
                 .rename_i hn;exact .inr (.inr (.inr ⟨hr,zla ks r R hn hr⟩))
              have hroot:∀r R,st1.root r=some R->zf (zdP own cs' id) r=some R\/zf (zbO (zbG f) rs (id+12)) r=some R\/(st.root r=some R/\R.ep=none/\r∉ks/\U r):=by
               intro r R hr;obtain ⟨h1,h2⟩:=zS hr;rw[hst1ep]at h2;rcases hro r R h1 with h|h|⟨h,_⟩|⟨h,hk⟩
               .exact .inl h
               .exact .inr (.inl h)
               .rcases h2 with h2|h2
                .rw [h]at h2;cases h2
                .rw [h]at h2;simp at h2
               .rcases h2 with h2|h2
                .exact .inr (.inr ⟨zdM h (.inl h2),h2,hk,hS.ids.ro r R h⟩)
                .have:=hM.epo r R _ h h2;omega
              have hfr:∀r R,st.root r=some R->R.ep=none->r∉ks->∀x,E.φ r x->w'.heap[x]?=w.heap[x]?:=by
               intro r R hR he hk x hx;refine hkeep x (hM.rlt r R hR x hx) (fun h=>hM.lro l cells r R hcells hR (by rw[<- h];exact hx)) (fun j hj ho hkx=>?_)
               obtain ⟨q,hq,Q,h1,h2,h3⟩:=hKown j x ho hkx;exact hM.apart q Q r R h1 h2 hR he (fun e=>hk (by rw[<- e];exact hq)) x h3 hx
              have hnewx:∀x,(x<w'.heap.size/\x≠E.β l/\((∃i,i<cs.length/\zJ own i/\K i x)\/w.heap.size<=x))->(S0 x\/w0.heap.size<=x)/\∀r R,st.root r=some R->R.ep=none->r∉ks->¬ E.φ r x:=by
               intro x ⟨h1,h2,h3⟩;rcases h3 with ⟨i,hi,ho,hk⟩|h3
               .obtain ⟨q,hq,Q,g1,g2,g3⟩:=hKown i x ho hk;exact ⟨(hM.mine q Q g1 g2).2 x g3,fun r R hR he hk' hx=>hM.apart q Q r R g1 g2 hR he (fun e=>hk' (by rw[<- e];exact hq)) x g3 hx⟩
               .exact ⟨.inr (jF hM.size h3),fun r R hR he hk' hx=>by have:=hM.rlt r R hR x hx;omega⟩
              have hKrep:∀r R,zf (zdP own cs' id) r=some R->Rep true w' (E1.ρ r) (.s R.t R.l) (E1.φ r):=by
               intro r R hr;obtain ⟨h1,h2,h3,h4,t,l',h5,rfl⟩:=hA r R hr;have hv:r-id<vals'.size:=by omega
               have hu:=jR hv;have:=(hcell _ _ _ h5 hu).1 h4;rw[(hEa r h1 h2).1,(hEa r h1 h2).2,hu];exact this.weak (fun x hx=>⟨h3,hx⟩)
              have hRrep:∀r R,zf (zbO (zbG f) rs (id+12)) r=some R->Rep R.own w' (E1.ρ r) (.s R.t R.l) (E1.φ r):=by
               intro r R hr;obtain ⟨h1,h2,h3,t,l',h5,rfl⟩:=hBr r R hr;have hv:r-(id+12)<ys.length:=by rw[hys.1];exact h3
               have hu:=qB hv;rw[(hEb r h1 h2).1,(hEb r h1 h2).2,hu];exact (hys.2 _ _ _ h5 hu).weak (fun x hx=>⟨h3,hx⟩)
              have hKfoot:∀r R,zf (zdP own cs' id) r=some R->∀x,E1.φ r x->r-id<cs.length/\K' (r-id) x:=by
               intro r R hr x hx;obtain ⟨h1,h2,_⟩:=hA r R hr;rw[(hEa r h1 h2).2]at hx;exact hx
              have hRfoot:∀r R,zf (zbO (zbG f) rs (id+12)) r=some R->∀x,E1.φ r x->r-(id+12)<(zk rs).length/\Kr (r-(id+12)) x:=by
               intro r R hr x hx;obtain ⟨h1,h2,_⟩:=hBr r R hr;rw[(hEb r h1 h2).2]at hx;exact hx
              have hfoot:∀r R,(zf (zdP own cs' id) r=some R\/zf (zbO (zbG f) rs (id+12)) r=some R)->∀x,E1.φ r x->x<w'.heap.size/\x≠E.β l/\((∃i,i<cs.length/\zJ own i/\K i x)\/w.heap.size<=x):=by
               intro r R hr x hx;rcases hr with hr|hr
               .obtain ⟨h1,h2⟩:=hKfoot r R hr x hx;exact hK'x _ x h1 h2
               .obtain ⟨h1,h2⟩:=hRfoot r R hr x hx;exact hKrx _ x h1 h2
              have holdA:∀r R,zf (zdP own cs' id) r=some R->R.own=true:=by
               intro r R hr;obtain ⟨_,_,_,_,t,l',_,rfl⟩:=hA r R hr;rfl
              have hold:∀r R,(zf (zdP own cs' id) r=some R\/zf (zbO (zbG f) rs (id+12)) r=some R)->R.ep=none:=by
               intro r R hr;rcases hr with hr|hr
               .obtain ⟨_,_,_,_,t,l',_,rfl⟩:=hA r R hr;rfl
               .obtain ⟨_,_,_,t,l',_,rfl⟩:=hBr r R hr;rfl
              have hroot2:∀r R,st1.root r=some R->(zf (zdP own cs' id) r=some R\/zf (zbO (zbG f) rs (id+12)) r=some R)\/(st.root r=some R/\R.ep=none/\r∉ks/\U r):=by
               intro r R hr;rcases hroot r R hr with h|h|h
               .exact .inl (.inl h)
               .exact .inl (.inr h)
               .exact .inr h
              have hapart:∀r R r' R',(zf (zdP own cs' id) r=some R\/zf (zbO (zbG f) rs (id+12)) r=some R)->(zf (zdP own cs' id) r'=some R'\/zf (zbO (zbG f) rs (id+12)) r'=some R')->R.own=true->r≠r'->∀x,E1.φ r x->¬ E1.φ r' x:=by
               intro r R r' R' hr hr' ho hne x hx hx';rcases hr with hr|hr<;>rcases hr' with hr'|hr'
               .obtain ⟨h1,h2⟩:=hKfoot r R hr x hx;obtain ⟨h1',h2'⟩:=hKfoot r' R' hr' x hx';obtain ⟨g1,_⟩:=hA r R hr;obtain ⟨g1',_⟩:=hA r' R' hr';exact hK'd _ _ x h1 h1' (by omega) h2 h2'
               .obtain ⟨h1,h2⟩:=hKfoot r R hr x hx;obtain ⟨h1',h2'⟩:=hRfoot r' R' hr' x hx';exact hKK _ _ x h1 h1' h2 h2'
               .obtain ⟨h1,h2⟩:=hRfoot r R hr x hx;obtain ⟨h1',h2'⟩:=hKfoot r' R' hr' x hx';exact hKK _ _ x h1' h1 h2' h2
               .obtain ⟨h1,h2⟩:=hRfoot r R hr x hx;obtain ⟨h1',h2'⟩:=hRfoot r' R' hr' x hx';obtain ⟨g1,_,_,t,l',g2,rfl⟩:=hBr r R hr;obtain ⟨g1',_⟩:=hBr r' R' hr';exact hKrd _ _ _ x g2 ho h1' (by omega) h2 h2'
              have hlo1:∀l' cs1,zf st1.lo l'=some cs1->(l'=l/\cs1=cells')\/(l'≠l/\zf st.lo l'=some cs1):=by
               intro l' cs1 h;rw[hst1lo]at h;simp only[zf]at h;split at h
               .rename_i he;simp only[qH]at he;cases h;exact .inl ⟨he.symm,rfl⟩
               .rename_i he;simp only[qH]at he;exact .inr ⟨fun e=>he e.symm,h⟩
              have hlo2:∀l' cs1,zf st1.lo l'=some cs1->∃cs0,zf st.lo l'=some cs0:=by
               intro l' cs1 h;rcases hlo1 l' cs1 h with ⟨rfl,_⟩|⟨_,h⟩
               .exact ⟨_,hcells⟩
               .exact ⟨_,h⟩
              have hT:Trans st E w st1 E1 w' U:=by
               refine ⟨fun r hU R1 hR1=>?_,fun l' hU cs1 h1=>⟨hlo2 l' cs1 h1,rfl⟩,rfl⟩;rcases hroot2 r R1 hR1 with h|⟨h1,h2,h3,h4⟩
               .exfalso;rcases h with h|h
                .obtain ⟨g1,g2,_⟩:=hA r R1 h;exact hid r ⟨g1,by omega⟩ hU
                .obtain ⟨g1,g2,_⟩:=hBr r R1 h;exact hid r ⟨by omega,g2⟩ hU
               .refine ⟨R1,h1,rfl,fun p u hp=>?_⟩;rw[(hE1 r hU).1,zbH p (hM.rep r R1 h1) (hfr r R1 h1 h2 h3)];exact hp
              have hMem:Mem w0 S0 st1 E1 w':=by
               refine ⟨hos.trans hM.os,htp.trans hM.tape,hout.trans hM.output,jF hM.size hsz,fun b hb hnS=>?_,fun r R hR=>?_,fun r R hR x hx=>?_,fun r R hR ho=>?_,fun hz r R hR ho he hf=>?_,fun r R r' R' hR ho hR' he hne x hx=>?_,fun l' cs1 hl'=>?_,fun l1 l2 c1 c2 h1 h2=>?_,fun l' cs1 r R hl' hR=>?_,fun r R ee hR he=>?_,hM.κ⟩
               .refine (hkeep b (q0 hb hM.size) (fun h=>?_) (fun j hj ho hk=>?_)).trans (hM.keep b hb hnS)
                .subst h;rcases hl1 with h|h
                 .exact hnS h
                 .omega
                .obtain ⟨q,hq,Q,g1,g2,g3⟩:=hKown j b ho hk;rcases (hM.mine q Q g1 g2).2 b g3 with h|h
                 .exact hnS h
                 .omega
               .rcases hroot r R hR with h|h|⟨h1,h2,h3,h4⟩
                .have:=hKrep r R h;rw[holdA r R h];exact this
                .exact hRrep r R h
                .rw [(hE1 r h4).1,(hE1 r h4).2];exact (hM.rep r R h1).frame (hfr r R h1 h2 h3)
               .rcases hroot2 r R hR with h|⟨h1,h2,h3,h4⟩
                .exact (hfoot r R h x hx).1
                .rw [(hE1 r h4).2]at hx;exact q0 (hM.rlt r R h1 x hx) hsz
               .rcases hroot2 r R hR with h|⟨h1,h2,h3,h4⟩
                .exact ⟨hold r R h,fun x hx=>(hnewx x (hfoot r R h x hx)).1⟩
                .rw [(hE1 r h4).2];exact hM.mine r R h1 ho
               .rcases hroot2 r R hR with h|⟨h1,h2,h3,h4⟩
                .exact fun x hx=>(hnewx x (hfoot r R h x hx)).1
                .rw [(hE1 r h4).2];exact hM.frz hz r R h1 ho he hf
               .rcases hroot2 r R hR with h|⟨h1,h2,h3,h4⟩
                .rcases hroot2 r' R' hR' with h'|⟨h1',h2',h3',h4'⟩
                 .exact hapart r R r' R' h h' ho hne x hx
                 .rw [(hE1 r' h4').2];exact (hnewx x (hfoot r R h x hx)).2 r' R' h1' h2' h3'
                .rw [(hE1 r h4).2]at hx;rcases hroot2 r' R' hR' with h'|⟨h1',h2',h3',h4'⟩
                 .intro hx';exact (hnewx x (hfoot r' R' h' x hx')).2 r R h1 h2 h3 hx
                 .rw [(hE1 r' h4').2];exact hM.apart r R r' R' h1 ho h1' h2' hne x hx
               .rcases hlo1 l' cs1 hl' with ⟨rfl,rfl⟩|⟨hne,hl'⟩
                .refine ⟨hl1,vals',e',hb',by rw[hsz',hn2,hn1],fun j b u hbj hu=>?_⟩
                 rcases hn3 j b hbj with ⟨k,n,rfl,h2⟩|⟨y,rfl,h2⟩|⟨t,l',rfl,ho,h2⟩|⟨t,l',r,rfl,ho,h1,h2⟩
                 .have:=hcell j _ u h2 hu;simp only at this;subst this;exact ⟨rfl,rfl⟩
                 .have:=hcell j _ u h2 hu;simp only at this;subst this;exact ⟨rfl,rfl⟩
                 .have hrep:=(hcell j _ u h2 hu).1 ho;have hlt:=(qA.1 h2).1;obtain ⟨⟨a,cap,hv,_⟩,_⟩:=hrep.len;refine ⟨hrep.one,⟨a,_,cap,hv⟩,fun R hR=>?_⟩;have hij:id+j-id=j:=by omega
                  have:=(hEa (id+j) (by omega) (by omega)).1
                  rw[hij,hu] at this;simp only[zD,this,jW]
                 .have hvj:=(hcell j _ u h2 hu).2 ho;have hold:=hl4 j _ u h1 hvj;exact ⟨hold.1,VA.tr hT (fun n hn=>(hS.ids.lo _ cells hcells).2 _ (qI h1) n hn) hold.2⟩
                .obtain ⟨g1,vals1,e1,g2,g3,g4⟩:=hM.loc l' cs1 hl';refine ⟨g1,vals1,e1,(hkeep _ (hβlt l' cs1 hl') (fun h=>hne (hM.linj l' l cs1 cells hl' hcells h)) (fun j hj ho hk=>?_)).trans g2,g3,fun j b u hb hu=>⟨(g4 j b u hb hu).1,VA.tr hT (fun n hn=>(hS.ids.lo l' cs1 hl').2 b (qI hb) n hn) (g4 j b u hb hu).2⟩⟩;obtain ⟨q,hq,Q,h1,h2,h3⟩:=hKown j _ ho hk;exact hM.lro l' cs1 q Q hl' h1 h3
               .intro hb;obtain ⟨c1',h1⟩:=hlo2 l1 c1 h1;obtain ⟨c2',h2⟩:=hlo2 l2 c2 h2;exact hM.linj l1 l2 c1' c2' h1 h2 hb
               .obtain ⟨cs0,hl0⟩:=hlo2 l' cs1 hl';rcases hroot2 r R hR with h|⟨h1,h2,h3,h4⟩
                .intro hx;obtain ⟨_,g2,g3⟩:=hfoot r R h _ hx;rcases g3 with ⟨i,hi,ho,hk⟩|g3
                 .obtain ⟨q,hq,Q,q1,q2,q3⟩:=hKown i _ ho hk;exact hM.lro l' cs0 q Q hl0 q1 q3
                 .have:=hβlt l' cs0 hl0;have e:E1.β l'=E.β l':=rfl;omega
                .rw [(hE1 r h4).2];exact hM.lro l' cs0 r R hl0 h1
               .rw [hst1ep];rcases hro r R hR with h|h|⟨h,_⟩|⟨h,_⟩
                .rw [hold r R (.inl h)]at he;cases he
                .rw [hold r R (.inr h)]at he;cases he
                .rw [h]at he;cases he;omega
                .have:=hM.epo r R ee h he;omega
              obtain ⟨g1,g2⟩:=zel (w:=w') (st:=st1) (E:=E1) rs ys (id+12) hys.1 (fun i c u hc hu=>by
               have hrep:=hys.2 i c u hc hu;refine ⟨?_,hrep.one⟩;have hlt:i<(zk rs).length:=(qA.1 hc).1;cases c with
               | i k n=>exact hrep.int_inv
               | b x=>exact hrep.bool_inv
               | s t l' =>
                obtain ⟨⟨a,cap,hv,_⟩,_⟩:=hrep.len;refine ⟨⟨a,_,cap,hv⟩,fun R hR=>?_⟩;have e:id+12+i-(id+12)=i:=by omega
                have:=(hEb (id+12+i) (by omega) (by omega)).1
                rw[e,hu] at this;simp only[zD,this,jW])
              have hnx:=Sim.next (U1:=fun n=>U n\/Mine id n) hS hMem hT (by rw[<- hst1]) (by rw[<- hst1]) (fun n h=>.inl h) (fun n R h=>by
               rcases hro n R h with h|h|⟨_,Q,h⟩|⟨h,_⟩
               .obtain ⟨h1,h2,_⟩:=hA n R h;exact .inr ⟨h1,by omega⟩
               .obtain ⟨h1,h2,_⟩:=hBr n R h;exact .inr ⟨by omega,h2⟩
               .exact .inl (hS.ids.ro n Q h)
               .exact .inl (hS.ids.ro n R h))
               (fun n cs1 hn=>by
                rcases hlo1 n cs1 hn with ⟨rfl,rfl⟩|⟨_,hn⟩
                .refine ⟨.inl (hS.ids.lo _ cells hcells).1,fun a ha m hm=>?_⟩;obtain ⟨j,hj⟩:=qR.1 ha;have hjl:j<cs1.length:=(qA.1 hj).1;have hj12:j<12:=by rw[hn1]at hjl;omega
                 rcases hn3 j a hj with ⟨k,n,rfl,h2⟩|⟨y,rfl,h2⟩|⟨t,l',rfl,ho,h2⟩|⟨t,l',r,rfl,ho,h1,h2⟩
                 .simp [At.ids,zN,zU]at hm
                 .simp [At.ids,zN,zU]at hm
                 .simp only [At.ids,zN,zU,qW,qE]at hm;subst hm;exact .inr ⟨by omega,by omega⟩
                 .exact .inl ((hS.ids.lo _ cells hcells).2 _ (qI h1) m hm)
                .exact ⟨.inl (hS.ids.lo n cs1 hn).1,fun a ha m hm=>.inl ((hS.ids.lo n cs1 hn).2 a ha m hm)⟩)
               (dst:=o.dst) (zkF g1 g2) (fun n hn=>by
                simp only[MV.ids,qP]at hn;obtain ⟨a,ha,hn⟩:=hn;obtain ⟨x,hx,ha⟩:=zkE ha;have:=zde rs (id+12) n x a hx ha hn;exact .inr ⟨by omega,by omega⟩)
              subst hst1;exact hnext _ _ _ hnx
           .cases h
          .cases h
         .cases h
        .cases h
       .cases h
      .cases h
     .cases h
    .cases h
   .cases h
  .cases h
 .cases h
end
def zBq (P:Program)(f:FuncId)(own:List Bool)(inp:Option (Nat×Nat×List (List Nat)))(al:List (Nat×Nat))(run:List AV->Option (Bool×List AV)):Prop :=
 FnOk P f/\∀(w:World) (K:Nat->zI) (avs:List AV) (xs:List Value) (rs:List AV),
  xs.length=(zk avs).length->own.length=(zk avs).length ->
  (∀(j:Nat) (c:CV) (u:Value),(zk avs)[j]?=some c->xs[j]?=some u->Rep ((own[j]?).getD false) w u c (K j)) ->
  (∀j x,j<(zk avs).length->K j x->x<w.heap.size) ->
  (∀i j x,i<(zk avs).length->j<(zk avs).length->zJ own i->i≠j->(j,i)∉al->K i x->¬ K j x) ->
  (∀j i,(j,i)∈al->own[j]?=some false/\zJ own i/\xs[j]?=xs[i]?/\(zk avs)[j]?=(zk avs)[i]?/\∃t l,(zk avs)[i]?=some (.s t l)) ->
  run avs=some (true,rs) ->
  Calls P f (zbj avs xs).toArray w fun
   | .returned v,w'=>w'.os=w.os/\w'.tape=w.tape/\w'.output=w.output/\w.heap.size<=w'.heap.size /\
    (∀b,b<w.heap.size->(∀j,j<(zk avs).length->zJ own j->¬ K j b)->w'.heap[b]?=w.heap[b]?) /\
    ∃(ys:List Value) (Kr:Nat->zI),zch true w' (zk rs) ys Kr/\v=zgL (zbj rs ys) /\
     (∀i x,i<(zk rs).length->Kr i x->x<w'.heap.size/\((∃j,j<(zk avs).length/\zJ own j/\K j x)\/w.heap.size<=x)) /\
     (∀i j x,i<(zk rs).length->j<(zk rs).length->i≠j->Kr i x->¬ Kr j x) /\
     (∀ja jr js,inp=some (ja,jr,js)->∀t l u,(zk avs)[ja]?=some (.s t l)->xs[ja]?=some u->∃l',(zk rs)[jr]?=some (.s t l')/\ys[jr]?=some u /\
      ∀p v,zD w t u p=some v->js.any (fun c=>c.isPrefixOf (cols p))=false->zD w' t u p=some v)
   | _,_=>False
def zcP (P:Program)(f:FuncId)(own:List Bool)(inp:Option (Nat×Nat×List (List Nat)))(run:List AV->Option (Bool×List AV)):Prop :=
 match own with
 | []=>zFS P f run
 | x :: l=>∀al∈zff f,zBq P f (x :: l) inp al run
theorem zcP.of {P:Program}{f:FuncId}{own:List Bool}{inp:Option (Nat×Nat×List (List Nat))}{run:List AV->Option (Bool×List AV)}(hne:own≠[])(h:∀al∈zff f,zBq P f own inp al run):zcP P f own inp run:=by
 cases own with
 | nil=>exact absurd rfl hne
 | cons x l=>exact h
theorem zcP.get {P:Program}{f:FuncId}{own:List Bool}{inp:Option (Nat×Nat×List (List Nat))}{run:List AV->Option (Bool×List AV)}(h:zcP P f own inp run)(hne:own.isEmpty=false):∀al∈zff f,zBq P f own inp al run:=by
 cases own with
 | nil=>cases hne
 | cons x l=>exact h
structure TctOk (C:Cfg):Prop where
 ok:∀f own inp run,C.tct f=some (own,inp,run)->zcP C.P f own inp run
section
variable {C:Cfg} {w0 w w1:World} {S0:zI} {U:Nat->Prop} {st st1:St} {E E1:Env} {ts:Array Value} {sv:List (Array Value)}
structure Tks (st:St) (own:List Bool) (ats:List At) (cs:List CV) (ks:List Nat):Prop where
 len:cs.length=ats.length
 olen:own.length=ats.length
 ownk:∀r∈ks,∃j,zJ own j/\ats[j]?=some (.sl r [])
 get:∀(j:Nat) (a:At),ats[j]?=some a->(zJ own j/\∃r R,a = .sl r []/\st.root r=some R/\R.own=true/\r∈ks/\cs[j]?=some (.s R.t R.l))\/(own[j]?=some false/\∃c,st.cvOf a=some c/\cs[j]?=some c)
 inj:∀(i j r:Nat),zJ own i->zJ own j->ats[i]?=some (.sl r [])->ats[j]?=some (.sl r [])->i=j
theorem zNT:∀(own:List Bool) (ats:List At) (cs:List CV) (ks:List Nat),st.tks own ats=some (cs,ks)->Tks st own ats cs ks
 | [],[],cs,ks,h=>by
  cases h;exact ⟨rfl,rfl,fun r h=>by simp at h,fun j a h=>by simp at h,fun i j r h=>by simp[zJ]at h⟩
 | [],_ :: _,_,_,h=>by simp[St.tks]at h
 | _ :: _,[],_,_,h=>by simp[St.tks]at h
 | o :: ms,a :: r,cs,ks,h=>by
  simp only[St.tks]at h;split at h
  .cases h
  .rename_i cs0 ks0 h0;have ih:=zNT ms r cs0 ks0 h0;have tail:∀(ks1:List Nat) (c:CV),(∀x∈ks0,x∈ks1)->∀(j:Nat) (b:At),r[j]?=some b ->
    (zJ (o :: ms) (j+1)/\∃q R,b = .sl q []/\st.root q=some R/\R.own=true/\q∈ks1/\(c :: cs0)[j+1]?=some (.s R.t R.l))\/((o :: ms)[j+1]?=some false/\∃d,st.cvOf b=some d/\(c :: cs0)[j+1]?=some d):=by
    intro ks1 c hks j b hb;rcases ih.get j b hb with ⟨h1,q,R,g1,g2,g3,g4,g5⟩|⟨h1,d,g1,g2⟩
    .exact .inl ⟨by simpa [zJ] using h1,q,R,g1,g2,g3,hks q g4,by simpa using g5⟩
    .exact .inr ⟨by simpa using h1,d,g1,by simpa using g2⟩
   split at h
   .split at h
    .rename_i q;split at h
     .rename_i R hR;split at h
      .rename_i hcond;simp only[qD,qZ,jE,decide_eq_false_iff_not]at hcond;obtain ⟨hown,hnk⟩:=hcond;cases h;have old:∀(i:Nat),zJ ms i->r[i]?=some (.sl q [])->False:=by
        intro i hi hq;rcases ih.get i _ hq with ⟨_,r',R',g1,_,_,g4,_⟩|⟨h1,_⟩
        .cases g1;exact hnk g4
        .rw [hi]at h1;cases h1
       refine ⟨by simp[ih.len],by simp[ih.olen],fun x hx=>?_,fun j b hb=>?_,fun i j x hi hj h1 h2=>?_⟩
       .rcases qG.1 hx with rfl|hx
        .exact ⟨0,rfl,rfl⟩
        .obtain ⟨j,h1,h2⟩:=ih.ownk x hx;exact ⟨j+1,by simpa [zJ] using h1,by simpa using h2⟩
       .cases j with
        | zero =>
         simp only[qF,qC]at hb;subst hb;exact .inl ⟨rfl,q,R,rfl,hR,hown,jO,by simp⟩
        | succ j=>exact tail _ _ (fun x hx=>jD _ hx) j b (by simpa using hb)
       .cases i with
        | zero =>
         cases j with
         | zero=>rfl
         | succ j =>
          simp only[qF,qC,At.sl.injEq,and_true]at h1;subst h1;exact (old j (by simpa [zJ] using hj) (by simpa using h2)).elim
        | succ i =>
         cases j with
         | zero =>
          simp only[qF,qC,At.sl.injEq,and_true]at h2;subst h2;exact (old i (by simpa [zJ] using hi) (by simpa using h1)).elim
         | succ j =>
          have:=ih.inj i j x (by simpa [zJ] using hi) (by simpa [zJ] using hj) (by simpa using h1) (by simpa using h2)
          omega
      .cases h
     .cases h
    .cases h
   .split at h
    .rename_i c hc;cases h;refine ⟨by simp[ih.len],by simp[ih.olen],fun x hx=>?_,fun j b hb=>?_,fun i j x hi hj h1 h2=>?_⟩
     .obtain ⟨j,h1,h2⟩:=ih.ownk x hx;exact ⟨j+1,by simpa [zJ] using h1,by simpa using h2⟩
     .cases j with
      | zero =>
       simp only[qF,qC]at hb;subst hb;exact .inr ⟨rfl,c,hc,by simp⟩
      | succ j=>exact tail _ _ (fun x hx=>hx) j b (by simpa using hb)
     .cases i with
      | zero=>simp[zJ]at hi
      | succ i =>
       cases j with
       | zero=>simp[zJ]at hj
       | succ j =>
        have:=ih.inj i j x (by simpa [zJ] using hi) (by simpa [zJ] using hj) (by simpa using h1) (by simpa using h2)
        omega
    .cases h
theorem zGq {ks:List Nat}{al:List (Nat×Nat)}:∀(n:Nat) (own:List Bool) (ats:List At),zpP st ks al n own ats=true->∀(j:Nat) (a:At),ats[j]?=some a->own[j]?=some false->(∀i,(n+j,i)∉al)->zMc st ks a=true
 | _,[],_,_,j,a,_,ho,_=>by simp at ho
 | _,_ :: _,[],_,j,a,ha,_,_=>by simp at ha
 | n,o :: ms,b :: r,h,j,a,ha,ho,hn=>by
  simp only[zpP,qD,jT]at h;cases j with
  | zero =>
   simp only[qF,qC]at ha ho;subst ha ho;rcases h.1 with h|h|h
   .cases h
   .obtain ⟨x,hx,he⟩:=kX.1 h;have:x.1=n:=jP he;exact absurd (by rw[k7,<- this];exact hx) (hn x.2)
   .exact h
  | succ j=>exact zGq (n+1) ms r h.2 j a (by simpa using ha) (by simpa using ho) (fun i=>by have:=hn i;rwa [show n+1+j=n+(j+1) by omega])
theorem zoe {own:List Bool}{ats:List At}{al:List (Nat×Nat)}(h:zBs own ats al=true){j i:Nat}(hm:(j,i)∈al):∃q,ats[j]?=some (.sl q [])/\ats[i]?=some (.sl q [])/\own[j]?=some false/\zJ own i:=by
 have:=qS.1 h _ hm
 dsimp only at this
 split at this
 .rename_i q r h1 h2 h3 h4;have e:q=r:=jP this;subst e;exact ⟨q,h1,h2,h3,h4⟩
 .cases this
theorem zIK (hS:Sim w0 S0 U st E ts sv w):∀(l:List Operand) (tvs:List TV),zFI st l=some tvs ->
 ∃xs:List Value,xs.length=(tvs.flatMap zy).length/\(∀(j:Nat) (a:At) (u:Value),(tvs.flatMap zy)[j]?=some a->xs[j]?=some u->VA w st E a u) /\
  ∀cs:List CV,cs.length=xs.length->l.map ({ tmps:=ts,defers:=[] }:Act).eval=zbj (zd9 tvs cs) xs/\zk (zd9 tvs cs)=cs
 | [],tvs,h=>by
  cases h;exact ⟨[],rfl,fun j a u h=>by simp at h,fun cs hcs=>by
   have:cs=[]:=List.eq_nil_of_length_eq_zero (by simpa using hcs)
   subst this;exact ⟨rfl,rfl⟩⟩
 | x :: r,tvs,h=>by
  simp only[zFI]at h;split at h
  .rename_i y ys hx hr;cases h;obtain ⟨xs,h1,h2,h3⟩:=zIK hS r ys hr;obtain ⟨hv,-⟩:=zbk hS hx;rcases y with a|l
   .refine ⟨({ tmps:=ts,defers:=[] }:Act).eval x :: xs,by simp[zy,h1],fun j b u hb hu=>?_,fun cs hcs=>?_⟩
    .cases j with
     | zero=>simp[zy]at hb hu;subst hb hu;exact hv
     | succ j=>exact h2 j b u (by simpa [zy] using hb) (by simpa using hu)
    .cases cs with
     | nil=>simp at hcs
     | cons c cs =>
      obtain ⟨g1,g2⟩:=h3 cs (by simpa using hcs)
      refine ⟨by simp[zd9,zbj,g1],?_⟩
      have e:zk (zd9 (TV.at a :: ys) (c :: cs))=c :: zk (zd9 ys cs):=by simp[zd9,zk,AV.cvs]
      rw[e,g2]
   .obtain ⟨vs,hvs,hsz,hvv⟩:=hv;have hl:vs.toList.length=l.length:=by simp[hsz]
    refine ⟨vs.toList++xs,by simp[zy,h1,hsz],fun j b u hb hu=>?_,fun cs hcs=>?_⟩
    .simp only [j5,zy]at hb
     by_cases hj:j<l.length
     .rw [qT hj]at hb;rw[qT (by omega)]at hu
      exact (hvv j b u hb (by simpa using hu)).2
     .rw [qQ (by omega)]at hb
      rw[qQ (by omega),hl]at hu
      exact h2 _ b u hb hu
    .have hcl:cs.length=l.length+xs.length:=by simpa [hsz] using hcs
     obtain ⟨g1,g2⟩:=h3 (cs.drop l.length) (by simp;omega)
     have htl:(cs.take l.length).length=l.length:=by simp;omega
     refine ⟨?_,?_⟩
     .have e1:List.take l.length (vs.toList++xs)=vs.toList:=by rw[<- hl];exact kM rfl
      have e2:List.drop l.length (vs.toList++xs)=xs:=by rw[<- hl];exact kR rfl
      simp only[jG,zd9,zbj,hvs,htl,e1,e2,g1,jM]
     .have e:zk (zd9 (TV.agg l :: ys) cs)=cs.take l.length++zk (zd9 ys (cs.drop l.length)):=by simp[zd9,zk,AV.cvs]
      rw[e,g2,List.take_append_drop]
  .cases h
theorem zNl {f:At->At}(T:∀a v,(∀n∈a.ids,U n)->VA w st E a v->VA w1 st1 E1 (f a) v){x:TV}{v:Value}(hU:∀a∈zy x,∀n∈a.ids,U n)(h:VT w st E x v):VT w1 st1 E1 (zld f x) v:=by
 rcases x with a|l
 .exact T a v (hU a (by simp[zy])) h
 .obtain ⟨vs,h1,h2,h3⟩:=h;refine ⟨vs,h1,by simp[h2],fun j a u ha hu=>?_⟩
  rw[qM]at ha;cases hl:l[j]? with
  | none=>rw[hl]at ha;cases ha
  | some b=>rw[hl]at ha;cases ha;exact ⟨(h3 j b u hl hu).1,T _ _ (hU b (by simp only[zy];exact qI hl)) (h3 j b u hl hu).2⟩
theorem zSp {f:At->At}(T:∀a v,(∀n∈a.ids,U n)->VA w st E a v->VA w1 st1 E1 (f a) v){m:MV}{v:Value}(hU:∀n∈m.ids,U n)(h:VM w st E m v):VM w1 st1 E1 (zf9 f m) v:=by
 have hU':∀a∈zX m,∀n∈a.ids,U n:=fun a ha n hn=>hU n (by simp only[MV.ids,qP];exact ⟨a,ha,hn⟩)
 cases m with
 | und=>exact h
 | v x=>exact zNl T hU' h
 | tup l =>
  obtain ⟨vs,h1,h2,h3⟩:=h;refine ⟨vs,h1,by simp[h2],fun j a u ha hu=>?_⟩
  rw[qM]at ha;cases hl:l[j]? with
  | none=>rw[hl]at ha;cases ha
  | some b =>
   rw[hl]at ha;cases ha;refine zNl T (fun a ha=>hU' a ?_) (h3 j b u hl hu);simp only[zX,qP];exact ⟨b,qI hl,ha⟩
theorem zD7 {f:At->At}(T:∀a v,(∀n∈a.ids,U n)->VA w st E a v->VA w1 st1 E1 (f a) v){tm:List MV}{ts:Array Value}(hU:∀m∈tm,∀n∈m.ids,U n)(h:Slots w st E tm ts):Slots w1 st1 E1 (tm.map (zf9 f)) ts:=by
 refine ⟨by simp[h.1],fun i m v hm hv=>?_⟩
 rw[qM]at hm;cases hl:tm[i]? with
 | none=>rw[hl]at hm;cases hm
 | some b=>rw[hl]at hm;cases hm;exact zSp T (hU b (qI hl)) (h.2 i b v hl hv)
theorem zD8 {f:At->At}(T:∀a v,(∀n∈a.ids,U n)->VA w st E a v->VA w1 st1 E1 (f a) v):∀{l:List (List MV)} {s:List (Array Value)},(∀g∈l,∀m∈g,∀n∈m.ids,U n)->Stack w st E l s->Stack w1 st1 E1 (l.map fun g=>g.map (zf9 f)) s
 | [],[],_,_=>trivial
 | g :: l,ts :: s,hU,h=>⟨zD7 T (hU g (by simp)) h.1,zD8 T (fun g' hg=>hU g' (by simp[hg])) h.2⟩
 | [],_ :: _,_,h=>h.elim
 | _ :: _,[],_,h=>h.elim
theorem zD5 {f:At->At}{x:TV}{a:At}(h:a∈zy (zld f x)):∃b∈zy x,a=f b:=by
 rcases x with b|l
 .simp only [zld,zy,qE]at h ⊢;exact ⟨b,rfl,h⟩
 .simp only [zld,zy,jC]at h ⊢;obtain ⟨b,hb,rfl⟩:=h;exact ⟨b,hb,rfl⟩
theorem zD4 {f:At->At}{m:MV}{n:Nat}(h:n∈(zf9 f m).ids):∃a∈zX m,n∈(f a).ids:=by
 simp only[MV.ids,qP]at h;obtain ⟨a,ha,hn⟩:=h;have:∃b∈zX m,a=f b:=by
  cases m with
  | und=>simp[zf9,zX]at ha
  | v x=>exact zD5 ha
  | tup l =>
   simp only[zf9,zX,qP,jC]at ha ⊢;obtain ⟨y,⟨x,hx,rfl⟩,ha⟩:=ha;obtain ⟨b,hb,rfl⟩:=zD5 ha;exact ⟨b,⟨x,hx,hb⟩,rfl⟩
 obtain ⟨b,hb,rfl⟩:=this;exact ⟨b,hb,hn⟩
theorem zEd {q n k:Nat}{js:List (List Nat)}{a:At}(h:k∈(zhZ q n js a).ids):k∈a.ids\/k=n:=by
 cases a with
 | sl r p =>
  simp only[zhZ]at h;cases hb:Nat.beq r q<;>rw [hb]at h
  .exact .inl h
  .cases hc:js.any (fun m=>m.isPrefixOf (cols p))<;>rw [hc]at h
   .simp only [cond_true,cond_false,At.ids,zN,zU,qW,qE]at h;exact .inr h
   .simp [At.ids,zN,zU]at h
 | ep r p i o =>
  simp only[zhZ]at h;cases hb:Nat.beq r q<;>rw [hb]at h
  .exact .inl h
  .cases hc:js.any (fun m=>m.isPrefixOf (cols p))<;>rw [hc]at h
   .simp only [cond_true,cond_false,At.ids,zN,zU,qW,qE]at h;exact .inr h
   .simp [At.ids,zN,zU]at h
 | kp r J t =>
  simp only[zhZ]at h;cases hb:Nat.beq r q<;>rw [hb]at h
  .exact .inl h
  .cases hc:coarse js J<;>rw [hc]at h
   .simp [At.ids,zN,zU]at h
   .simp only [cond_true,At.ids,zN,zU,qW,qE]at h;exact .inr h
 | bad=>exact .inl h
 | i k n=>exact .inl h
 | b x=>exact .inl h
 | lp l o=>exact .inl h
 | fn f c=>exact .inl h
theorem zRz {U1:Nat->Prop}(hS:Sim w0 S0 U st E ts sv w)(hM:Mem w0 S0 st1 E1 w1)(hT:Trans st E w st1 E1 w1 U)(htm:st1.tm=st.tm)(hstk:st1.stk=st.stk)(hlo1:st1.lo=st.lo)(hU:∀n,U n->U1 n)(hro:∀n R,zf st1.ro n=some R->U1 n)(hheap:∀l cs,zf st.lo l=some cs->w1.heap[E.β l]?=w.heap[E.β l]?){q n:Nat}{js:List (List Nat)}(hn:U1 n)(hq:∀R1,st1.root n=some R1->∃R,st.root q=some R/\R1.t=R.t/\E1.ρ n=E.ρ q/\∀p u,zD w R.t (E.ρ q) p=some u->js.any (fun c=>c.isPrefixOf (cols p))=false->zD w1 R.t (E.ρ q) p=some u) :
 Sim w0 S0 U1 (st1.ren (some (q,n,js))) E1 ts sv w1:=by
 have hroot:∀r,(st1.ren (some (q,n,js))).root r=st1.root r:=fun r=>rfl;have hloc:∀l cs,zf (st1.ren (some (q,n,js))).lo l=some cs->∃cs',zf st.lo l=some cs'/\cs=cs'.map (zhZ q n js):=by
  intro l cs h;simp only[St.ren,hlo1]at h;rw[zgU]at h;cases hl:zf st.lo l with
  | none=>rw[hl]at h;cases h
  | some cs'=>rw[hl]at h;cases h;exact ⟨cs',rfl,rfl⟩
 have hI:Trans st1 E1 w1 (st1.ren (some (q,n,js))) E1 w1 (fun _=>True) :=
  ⟨fun r _ R1 h1=>⟨R1,h1,rfl,fun _ _ h=>h⟩,fun l _ cs1 h1=>⟨by obtain ⟨cs',h2,_⟩:=hloc l cs1 h1;exact ⟨cs',by rw[hlo1];exact h2⟩,rfl⟩,rfl⟩
 have T:∀a v,(∀k∈a.ids,U k)->VA w st E a v->VA w1 (st1.ren (some (q,n,js))) E1 (zhZ q n js a) v:=by
  intro a v ha hv;have same:VA w1 (st1.ren (some (q,n,js))) E1 a v:=VA.tr hI (fun _ _=>trivial) (VA.tr hT ha hv);cases a with
  | bad=>trivial
  | i k n=>exact hv
  | b x=>exact hv
  | lp l o=>exact same
  | fn f c=>exact same
  | sl r p =>
   simp only[zhZ];cases hb:Nat.beq r q with
   | false=>exact same
   | true =>
    rw[kJ]at hb;subst hb;cases hc:js.any (fun m=>m.isPrefixOf (cols p)) with
    | true=>trivial
    | false =>
     refine ⟨hv.1,fun R1 hR1=>?_⟩;obtain ⟨R,h1,h2,h3,h4⟩:=hq R1 hR1;rw[h2,h3];exact h4 p v (hv.2 R h1) hc
  | ep r p i o =>
   simp only[zhZ];cases hb:Nat.beq r q with
   | false=>exact same
   | true =>
    rw[kJ]at hb;subst hb;cases hc:js.any (fun m=>m.isPrefixOf (cols p)) with
    | true=>trivial
    | false =>
     refine ⟨hv.1,fun R1 hR1=>?_⟩;obtain ⟨R,h1,h2,h3,h4⟩:=hq R1 hR1;obtain ⟨b,o',len,cap,t',g1,g2,g3⟩:=hv.2 R h1;exact ⟨b,o',len,cap,t',by rw[h2,h3];exact h4 p _ g1 hc,by rw[h2];exact g2,g3⟩
  | kp r J t =>
   simp only[zhZ];cases hb:Nat.beq r q with
   | false=>exact same
   | true =>
    rw[kJ]at hb;subst hb;cases hc:coarse js J with
    | false=>trivial
    | true =>
     refine ⟨hv.1,fun R1 hR1=>?_⟩;obtain ⟨R,h1,h2,h3,h4⟩:=hq R1 hR1;obtain ⟨g1,g2,g3⟩:=hv.2 R h1;refine ⟨h2.trans g1,h3.trans g2,fun p u hp hJ=>?_⟩;rw[hT.κ]at hp;have:=h4 p u (by rw[g1,g2];exact g3 p u hp hJ) (zqP hc hJ)
     rwa [g1,g2] at this
 have hids:∀{m:MV} {k:Nat},(∀j∈m.ids,U j)->k∈(zf9 (zhZ q n js) m).ids->U1 k:=by
  intro m k hm hk;obtain ⟨a,ha,hk⟩:=zD4 hk;rcases zEd hk with h|rfl
  .exact hU k (hm k (by simp only[MV.ids,qP];exact ⟨a,ha,h⟩))
  .exact hn
 refine ⟨⟨hM.os,hM.tape,hM.output,hM.size,hM.keep,hM.rep,hM.rlt,hM.mine,hM.frz,hM.apart,fun l cs hl=>?_,fun l l' cs cs' h1 h2 he=>?_,fun l cs r R hl hR=>?_,hM.epo,hM.κ⟩,⟨hro,fun k cs hk=>?_,fun m hm k hk=>?_,fun g hg m hm k hk=>?_⟩,?_,?_⟩
 .obtain ⟨cs',hl',rfl⟩:=hloc l cs hl;obtain ⟨h1,vals,e,h2,h3,h4⟩:=hS.mem.loc l cs' hl';obtain ⟨g1,_⟩:=hM.loc l cs' (by rw[hlo1];exact hl')
  have hβ:E1.β l=E.β l:=(hT.lo l (hS.ids.lo l cs' hl').1 cs' (by rw[hlo1];exact hl')).2
  refine ⟨g1,vals,e,by rw[hβ,hheap l cs' hl'];exact h2,by simp[h3],fun j c u hc hu=>?_⟩
  rw[qM]at hc;cases hcj:cs'[j]? with
  | none=>rw[hcj]at hc;cases hc
  | some c' =>
   rw[hcj]at hc;cases hc;exact ⟨(h4 j c' u hcj hu).1,T _ _ ((hS.ids.lo l cs' hl').2 c' (qI hcj)) (h4 j c' u hcj hu).2⟩
 .obtain ⟨c1,h1,_⟩:=hloc l cs h1;obtain ⟨c2,h2,_⟩:=hloc l' cs' h2;exact hM.linj l l' c1 c2 (by rw[hlo1];exact h1) (by rw[hlo1];exact h2) he
 .obtain ⟨c1,h1,_⟩:=hloc l cs hl;exact hM.lro l c1 r R (by rw[hlo1];exact h1) hR
 .obtain ⟨cs',h1,rfl⟩:=hloc k cs hk;refine ⟨hU k (hS.ids.lo k cs' h1).1,fun a ha j hj=>?_⟩;obtain ⟨a',ha',rfl⟩:=jC.1 ha;rcases zEd hj with h|rfl
  .exact hU j ((hS.ids.lo k cs' h1).2 a' ha' j h)
  .exact hn
 .simp only [St.ren,htm]at hm;obtain ⟨m0,hm0,rfl⟩:=jC.1 hm;exact hids (hS.ids.tm m0 hm0) hk
 .simp only [St.ren,hstk]at hg;obtain ⟨g0,hg0,rfl⟩:=jC.1 hg;obtain ⟨m0,hm0,rfl⟩:=jC.1 hm;exact hids (hS.ids.stk g0 hg0 m0 hm0) hk
 .have:=zD7 T hS.ids.tm hS.tm;simpa only [St.ren,htm] using this
 .have:=zD8 T hS.ids.stk hS.stk;simpa only [St.ren,hstk] using this
theorem zPo (hH:TctOk C)(w0 w:World)(S0:zI)(U:Nat->Prop)(st:St)(E:Env)(ts:Array Value)(sv:List (Array Value))(o:Oper)(id:Nat)(c:Bool)(st2:St)(mv:MV)(hS:Sim w0 S0 U st E ts sv w)(hid:∀n,Mine id n->¬ U n)(h:zFH C st o id=some (c,st2,mv))(hc:c=true):Goes C w0 S0 U st ts sv w o id (fun _=>st2.put o.dst mv)/\st2.nid=st.nid:=by
 subst hc;unfold zFH at h;split at h
 .rename_i cl ho;split at h
  .rename_i f hcb;split at h
   .rename_i own inp run htct;cases hoe:own.isEmpty with
    | true=>rw[hoe]at h;cases h
    | false =>
    rw[hoe]at h;simp only[cond_false]at h;unfold zNR at h;split at h
    .rename_i tvs htvs;split at h
     .rename_i cs ks htks;split at h
      rotate_left
      .cases h
      rename_i x hren;cases hfree0:(zff f).any (fun al=>zBs own (tvs.flatMap zy) al&&zpP st ks al 0 own (tvs.flatMap zy)) with
      | false=>rw[hfree0]at h;cases h
      | true =>
       rw[hfree0]at h;simp only[cond_true]at h;obtain ⟨al,hal,hfree1⟩:=kX.1 hfree0;rw[qD]at hfree1;obtain ⟨hali,hfree⟩:=hfree1;split at h
       .rename_i cc rs hrun;split at h
        .rename_i hlen;simp only[qC,jJ]at h;obtain ⟨rfl,rfl,rfl⟩:=h;refine ⟨?_,by cases x<;>rfl⟩
         have hrsl:(zk rs).length<=31:=hlen;obtain ⟨⟨fn,bd,hf,hbd,hname⟩,hHT⟩:=(hH.ok f own inp run htct).get hoe al hal;have hB:=zNT own _ cs ks htks;have hM:=hS.mem;obtain ⟨xs,hxl,hxv,hxp⟩:=zIK hS cl.args.toList tvs htvs;obtain ⟨hxm,hcv⟩:=hxp cs (by rw[hB.len,hxl])
         let Ka:zI:=fun x=>x<w.heap.size/\∀r∈ks,¬ E.φ r x
         have hks:∀r∈ks,∃j R,j<cs.length/\zJ own j/\(tvs.flatMap zy)[j]?=some (.sl r [])/\st.root r=some R/\R.own=true:=by
          intro r hr;obtain ⟨j,h1,h2⟩:=hB.ownk r hr;rcases hB.get j _ h2 with ⟨_,q,R,h,g1,g2,_,_⟩|⟨h,_⟩
          .cases h;exact ⟨j,R,by rw[hB.len];exact (qA.1 h2).1,h1,h2,g1,g2⟩
          .rw [h1]at h;cases h
         let K:Nat->zI:=fun j=>@ite _ (own[j]?=some true\/∃i,(j,i)∈al) (Classical.propDecidable _) (cφ E (tvs.flatMap zy) j) Ka
         have hK1:∀j,zJ own j->K j=cφ E (tvs.flatMap zy) j:=fun j hj=>if_pos (.inl hj);have hK3:∀j i,(j,i)∈al->K j=cφ E (tvs.flatMap zy) j:=fun j i hj=>if_pos (.inr ⟨i,hj⟩);have hK2:∀j,¬ zJ own j->(∀i,(j,i)∉al)->K j=Ka:=fun j hj hn=>if_neg (fun h=>h.elim hj (fun ⟨i,hi⟩=>hn i hi));have hKown:∀j x,zJ own j->K j x->∃r∈ks,∃R,(tvs.flatMap zy)[j]?=some (.sl r [])/\st.root r=some R/\R.own=true/\E.φ r x:=by
          intro j x hj hx;rw[hK1 j hj]at hx;obtain ⟨a,ha,hx⟩:=zns hx;rcases hB.get j a ha with ⟨_,r,R,rfl,g1,g2,g3,_⟩|⟨h,_⟩
          .exact ⟨r,g3,R,ha,g1,g2,hx⟩
          .rw [hj]at h;cases h
         have hargs':cl.args.map ({ tmps:=ts,defers:=[] }:Act).eval=(zbj (zd9 tvs cs) xs).toArray:=by
          rw[<- hxm,<- kH,jM]
         intro next Q hnext;have hname':fn.name≠ "runtime.NumGoroutine":=by simpa using hname
         have hexec:(execOp ({ tmps:=ts,defers:=[] }:Act).eval o).run C.P w = .ok (.enter f (zbj (zd9 tvs cs) xs).toArray) w:=by
          have hfe:({ tmps:=ts,defers:=[] }:Act).eval (.func f) = .func (.func f) #[] #[]:=rfl;simp[execOp,ho,resolve,hcb,Deferred.ofValue,invoke,callFunc,hf,hbd,hname',hargs',hfe]
         unfold Oper.wp;rw[hexec,Oper.upon_enter];have hcvl:(zk (zd9 tvs cs)).length=cs.length:=by rw[hcv]
         refine (hHT w K (zd9 tvs cs) xs rs (by rw[hcv,hB.len,hxl]) (by rw[hcv,hB.len,hB.olen]) (fun j c u hcj hu=>?_) (fun j x hj hx=>?_) (fun i j x hi hj ho hne hna hx hx'=>?_) (fun j i hji=>?_) hrun).mono ?_
         .rw [hcv]at hcj;have hj:j<(tvs.flatMap zy).length:=by rw[<- hB.len];exact (qA.1 hcj).1
          have ha:=qB hj;have hva:=hxv j _ u ha hu;rcases hB.get j _ ha with ⟨h1,r,R,h2,g1,g2,g3,g4⟩|⟨h1,d,g1,g2⟩
          .rw [hcj] at g4;cases g4;have e:(own[j]?).getD false=true:=by rw[show own[j]?=some true from h1];rfl
           rw[h2]at hva ha;have:=hva.2 R g1;simp only[zD,qC] at this;subst this;have hr:=hM.rep r R g1;rw[g2]at hr;rw[e];refine hr.weak (fun x hx=>?_);rw[hK1 j h1,zeF ha];exact hx
          .rw [hcj] at g2;cases g2;have e:(own[j]?).getD false=false:=by rw[h1];rfl
           by_cases hA:∃i,(j,i)∈al
           .obtain ⟨i,hji⟩:=hA;obtain ⟨q,q1,q2,_,q4⟩:=zoe hali hji;rw[ha] at q1;have q1:=Option.some.inj q1;rw[q1]at ha hva g1;rcases hB.get i _ q2 with ⟨_,r,R,hrq,g3,g4,g5,g6⟩|⟨hb,_⟩
            rotate_left
            .rw [show own[i]?=some true from q4]at hb;cases hb
            cases hrq;have hcq:st.cvOf (.sl q [])=some (.s R.t R.l):=by simp[St.cvOf,St.node,g3,zet]
            rw[hcq] at g1;cases g1;have:=hva.2 R g3;simp only[zD,qC] at this;subst this;rw[e,hK3 j i hji];exact ((hM.rep q R g3).weak (fun x hx=>by rw[zeF ha];exact hx)).ro
           have hnA:∀i,(j,i)∉al:=fun i hi=>hA ⟨i,hi⟩;rw[e,hK2 j (fun h=>by rw[show own[j]?=some true from h]at h1;cases h1) hnA]
           exact zti hS (ks:=ks) (fun r R x hR he hr hx=>⟨hM.rlt r R hR x hx,fun q hq hqx=>by
            obtain ⟨_,Q',_,_,_,hQ,hQo⟩:=hks q hq;exact hM.apart q Q' r R hQ hQo hR he (fun e=>hr (by rw[<- e];exact hq)) x hqx hx⟩) (zGq 0 own _ hfree j _ ha h1 (fun i=>by rw[jY];exact hnA i)) g1 hva
         .by_cases hj':zJ own j
          .obtain ⟨r,_,R,_,h2,_,h4⟩:=hKown j x hj' hx;exact hM.rlt r R h2 x h4
          .by_cases hA:∃i,(j,i)∈al
           .obtain ⟨i,hji⟩:=hA;obtain ⟨q,q1,q2,_,q4⟩:=zoe hali hji;rw[hK3 j i hji,zeF q1]at hx;have hx2:K i x:=by rw[hK1 i q4,zeF q2];exact hx
            obtain ⟨r,_,R,_,h2,_,h4⟩:=hKown i x q4 hx2;exact hM.rlt r R h2 x h4
           .rw [hK2 j hj' (fun i hi=>hA ⟨i,hi⟩)]at hx;exact hx.1
         .obtain ⟨r,hr,R,h1,h2,h3,h4⟩:=hKown i x ho hx
          by_cases hj':zJ own j
          .obtain ⟨r',_,R',h1',h2',h3',h4'⟩:=hKown j x hj' hx';have:=hM.own_apart h2 h3 h2' h3' h4 h4';subst this;exact hne (hB.inj i j r ho hj' h1 h1')
          .by_cases hA:∃i,(j,i)∈al
           .obtain ⟨i',hji⟩:=hA;obtain ⟨q,q1,q2,_,q4⟩:=zoe hali hji;rw[hK3 j i' hji,zeF q1]at hx';have hx2:K i' x:=by rw[hK1 i' q4,zeF q2];exact hx'
            obtain ⟨r',_,R',h1',h2',h3',h4'⟩:=hKown i' x q4 hx2;have:=hM.own_apart h2 h3 h2' h3' h4 h4';subst this;have:=hB.inj i i' r ho q4 h1 h1';subst this;exact hna hji
           .rw [hK2 j hj' (fun i hi=>hA ⟨i,hi⟩)]at hx';exact hx'.2 r hr h4
         .obtain ⟨q,q1,q2,q3,q4⟩:=zoe hali hji;rcases hB.get i _ q2 with ⟨_,r,R,hrq,g3,g4,g5,g6⟩|⟨hb,_⟩
          rotate_left
          .rw [show own[i]?=some true from q4]at hb;cases hb
          cases hrq;have hcj:cs[j]?=some (.s R.t R.l):=by
           rcases hB.get j _ q1 with ⟨ho,_⟩|⟨_,d,g1,g2⟩
           .rw [show own[j]?=some true from ho] at q3;cases q3
           .have hcq:st.cvOf (.sl q [])=some (.s R.t R.l):=by simp[St.cvOf,St.node,g3,zet]
            rw[hcq] at g1;cases g1;exact g2
          rw[hcv];refine ⟨q3,q4,?_,by rw[hcj,g6],_,_,g6⟩
          have hj1:j<xs.length:=by rw[hxl];exact (qA.1 q1).1
          have hi1:i<xs.length:=by rw[hxl];exact (qA.1 q2).1
          have e1:=(hxv j _ _ q1 (qB hj1)).2 R g3;have e2:=(hxv i _ _ q2 (qB hi1)).2 R g3;simp only[zD,qC] at e1 e2;rw[qB hj1,qB hi1,<- e1,<- e2]
         .intro ex w' he;cases ex with
          | panicked chain=>exact he.elim
          | outgrown=>exact he.elim
          | returned v =>
           obtain ⟨hos,htp,hout,hsz,hkeep,ys,Kr,hys,rfl,hKrx,hKrd,hinp⟩:=he;rw[hcvl]at hkeep hKrx
           let E1:Env:={ E with ρ:=fun n=>if id<=n/\n<id+32 then (ys[n-id]?).getD undef else E.ρ n,φ:=fun n=>if id<=n/\n<id+32 then (fun x=>n-id<(zk rs).length/\Kr (n-id) x) else E.φ n }
           have hE1:∀n,U n->E1.ρ n=E.ρ n/\E1.φ n=E.φ n:=by
            intro n hn;have a1:¬ (id<=n/\n<id+32):=fun h=>hid n h hn;simp only[E1,if_neg a1,and_self]
           have hEb:∀n,id<=n->n<id+32->E1.ρ n=(ys[n-id]?).getD undef/\E1.φ n=fun x=>n-id<(zk rs).length/\Kr (n-id) x:=by
            intro n h1 h2;simp only[E1,if_pos (show id<=n/\n<id+32 from ⟨h1,h2⟩),and_self]
           generalize hst1:({ st with ro:=zbO zii rs id++(killed st ks++st.ro),ep:=st.ep+1 }:St)=st1;have hst1ro:st1.ro=zbO zii rs id++(killed st ks++st.ro):=by rw[<- hst1]
           have hst1lo:st1.lo=st.lo:=by rw[<- hst1]
           have hst1ep:st1.ep=st.ep+1:=by rw[<- hst1]
           have hβlt:∀l cs,zf st.lo l=some cs->E.β l<w.heap.size:=by
            intro l cs h;obtain ⟨_,vals,e,h2,_⟩:=hM.loc l cs h;exact (qO.1 h2).1
           have hBr:∀r R,zf (zbO zii rs id) r=some R->id<=r/\r<id+32/\r-id<(zk rs).length/\∃t l,(zk rs)[r-id]?=some (.s t l)/\R=⟨t,l,true,none⟩:=by
            intro r R hr;obtain ⟨h1,t,l',h3,h4⟩:=zdd zii rs id r R hr;have hlt:=(qA.1 h3).1;exact ⟨h1,by omega,hlt,t,l',h3,h4⟩
           have hro:∀r R,zf st1.ro r=some R->zf (zbO zii rs id) r=some R\/(R.ep=some st.ep/\∃Q,zf st.ro r=some Q)\/(zf st.ro r=some R/\r∉ks):=by
            intro r R hr;rw[hst1ro,zba]at hr;split at hr
            .rename_i Q hQ;cases hr;exact .inl hQ
            .rw [zba]at hr;split at hr
             .rename_i Q hQ;cases hr;exact .inr (.inl (zmI ks r _ hQ))
             .rename_i hn;exact .inr (.inr ⟨hr,zla ks r R hn hr⟩)
           have hroot2:∀r R,st1.root r=some R->zf (zbO zii rs id) r=some R\/(st.root r=some R/\R.ep=none/\r∉ks/\U r):=by
            intro r R hr;obtain ⟨h1,h2⟩:=zS hr;rw[hst1ep]at h2;rcases hro r R h1 with h|⟨h,_⟩|⟨h,hk⟩
            .exact .inl h
            .rcases h2 with h2|h2
             .rw [h]at h2;cases h2
             .rw [h]at h2;simp at h2
            .rcases h2 with h2|h2
             .exact .inr ⟨zdM h (.inl h2),h2,hk,hS.ids.ro r R h⟩
             .have:=hM.epo r R _ h h2;omega
           have hfr:∀r R,st.root r=some R->R.ep=none->r∉ks->∀x,E.φ r x->w'.heap[x]?=w.heap[x]?:=by
            intro r R hR he hk x hx;refine hkeep x (hM.rlt r R hR x hx) (fun j hj ho hkx=>?_);obtain ⟨q,hq,Q',_,h1,h2,h3⟩:=hKown j x ho hkx;exact hM.apart q Q' r R h1 h2 hR he (fun e=>hk (by rw[<- e];exact hq)) x h3 hx
           have hnewx:∀x,(x<w'.heap.size/\((∃i,i<cs.length/\zJ own i/\K i x)\/w.heap.size<=x))->(S0 x\/w0.heap.size<=x)/\∀r R,st.root r=some R->R.ep=none->r∉ks->¬ E.φ r x:=by
            intro x ⟨h1,h3⟩;rcases h3 with ⟨i,hi,ho,hk⟩|h3
            .obtain ⟨q,hq,Q',_,g1,g2,g3⟩:=hKown i x ho hk;exact ⟨(hM.mine q Q' g1 g2).2 x g3,fun r R hR he hk' hx=>hM.apart q Q' r R g1 g2 hR he (fun e=>hk' (by rw[<- e];exact hq)) x g3 hx⟩
            .exact ⟨.inr (jF hM.size h3),fun r R hR he hk' hx=>by have:=hM.rlt r R hR x hx;omega⟩
           have hRrep:∀r R,zf (zbO zii rs id) r=some R->Rep true w' (E1.ρ r) (.s R.t R.l) (E1.φ r):=by
            intro r R hr;obtain ⟨h1,h2,h3,t,l',h5,rfl⟩:=hBr r R hr;have hv:r-id<ys.length:=by rw[hys.1];exact h3
            have hu:=qB hv;rw[(hEb r h1 h2).1,(hEb r h1 h2).2,hu];exact (hys.2 _ _ _ h5 hu).weak (fun x hx=>⟨h3,hx⟩)
           have hfoot:∀r R,zf (zbO zii rs id) r=some R->∀x,E1.φ r x->x<w'.heap.size/\((∃i,i<cs.length/\zJ own i/\K i x)\/w.heap.size<=x):=by
            intro r R hr x hx;obtain ⟨h1,h2,h3,_⟩:=hBr r R hr;rw[(hEb r h1 h2).2]at hx;exact hKrx _ x hx.1 hx.2
           have hnew1:∀r R,zf (zbO zii rs id) r=some R->R.own=true/\R.ep=none:=by
            intro r R hr;obtain ⟨_,_,_,t,l',_,rfl⟩:=hBr r R hr;exact ⟨rfl,rfl⟩
           have hT:Trans st E w st1 E1 w' U:=by
            refine ⟨fun r hU R1 hR1=>?_,fun l' hU cs1 h1=>⟨⟨cs1,by rw[hst1lo]at h1;exact h1⟩,rfl⟩,rfl⟩
            rcases hroot2 r R1 hR1 with h|⟨h1,h2,h3,h4⟩
            .obtain ⟨g1,g2,_⟩:=hBr r R1 h;exact absurd hU (hid r ⟨g1,g2⟩)
            .refine ⟨R1,h1,rfl,fun p u hp=>?_⟩;rw[(hE1 r hU).1,zbH p (hM.rep r R1 h1) (hfr r R1 h1 h2 h3)];exact hp
           have hMem:Mem w0 S0 st1 E1 w':=by
            refine ⟨hos.trans hM.os,htp.trans hM.tape,hout.trans hM.output,jF hM.size hsz,fun b hb hnS=>?_,fun r R hR=>?_,fun r R hR x hx=>?_,fun r R hR ho=>?_,fun hz r R hR ho he hf=>?_,fun r R r' R' hR ho hR' he hne x hx=>?_,fun l' cs1 hl'=>?_,fun l1 l2 c1 c2 h1 h2=>?_,fun l' cs1 r R hl' hR=>?_,fun r R ee hR he=>?_,hM.κ⟩
            .refine (hkeep b (q0 hb hM.size) (fun j hj ho hk=>?_)).trans (hM.keep b hb hnS);obtain ⟨q,hq,Q',_,g1,g2,g3⟩:=hKown j b ho hk;rcases (hM.mine q Q' g1 g2).2 b g3 with h|h
             .exact hnS h
             .omega
            .rcases hroot2 r R hR with h|⟨h1,h2,h3,h4⟩
             .have:=hRrep r R h;rw[(hnew1 r R h).1];exact this
             .rw [(hE1 r h4).1,(hE1 r h4).2];exact (hM.rep r R h1).frame (hfr r R h1 h2 h3)
            .rcases hroot2 r R hR with h|⟨h1,h2,h3,h4⟩
             .exact (hfoot r R h x hx).1
             .rw [(hE1 r h4).2]at hx;exact q0 (hM.rlt r R h1 x hx) hsz
            .rcases hroot2 r R hR with h|⟨h1,h2,h3,h4⟩
             .exact ⟨(hnew1 r R h).2,fun x hx=>(hnewx x (hfoot r R h x hx)).1⟩
             .rw [(hE1 r h4).2];exact hM.mine r R h1 ho
            .rcases hroot2 r R hR with h|⟨h1,h2,h3,h4⟩
             .exact fun x hx=>(hnewx x (hfoot r R h x hx)).1
             .rw [(hE1 r h4).2];exact hM.frz hz r R h1 ho he hf
            .rcases hroot2 r R hR with h|⟨h1,h2,h3,h4⟩
             .rcases hroot2 r' R' hR' with h'|⟨h1',h2',h3',h4'⟩
              .intro hx';obtain ⟨g1,g2,g3,_⟩:=hBr r R h;obtain ⟨g1',g2',g3',_⟩:=hBr r' R' h';rw[(hEb r g1 g2).2]at hx;rw[(hEb r' g1' g2').2]at hx';exact hKrd _ _ x g3 g3' (by omega) hx.2 hx'.2
              .rw [(hE1 r' h4').2];exact (hnewx x (hfoot r R h x hx)).2 r' R' h1' h2' h3'
             .rw [(hE1 r h4).2]at hx;rcases hroot2 r' R' hR' with h'|⟨h1',h2',h3',h4'⟩
              .intro hx';exact (hnewx x (hfoot r' R' h' x hx')).2 r R h1 h2 h3 hx
              .rw [(hE1 r' h4').2];exact hM.apart r R r' R' h1 ho h1' h2' hne x hx
            .rw [hst1lo]at hl';obtain ⟨g1,vals1,e1,g2,g3,g4⟩:=hM.loc l' cs1 hl';refine ⟨g1,vals1,e1,(hkeep _ (hβlt l' cs1 hl') (fun j hj ho hk=>?_)).trans g2,g3,fun j b u hb hu=>⟨(g4 j b u hb hu).1,VA.tr hT (fun n hn=>(hS.ids.lo l' cs1 hl').2 b (qI hb) n hn) (g4 j b u hb hu).2⟩⟩;obtain ⟨q,hq,Q',_,h1,h2,h3⟩:=hKown j _ ho hk;exact hM.lro l' cs1 q Q' hl' h1 h3
            .rw [hst1lo]at h1 h2;exact hM.linj l1 l2 c1 c2 h1 h2
            .rw [hst1lo]at hl';rcases hroot2 r R hR with h|⟨h1,h2,h3,h4⟩
             .intro hx;obtain ⟨_,g3⟩:=hfoot r R h _ hx;rcases g3 with ⟨i,hi,ho,hk⟩|g3
              .obtain ⟨q,hq,Q',_,q1,q2,q3⟩:=hKown i _ ho hk;exact hM.lro l' cs1 q Q' hl' q1 q3
              .have:=hβlt l' cs1 hl';have e:E1.β l'=E.β l':=rfl;omega
             .rw [(hE1 r h4).2];exact hM.lro l' cs1 r R hl' h1
            .rw [hst1ep];rcases hro r R hR with h|⟨h,_⟩|⟨h,_⟩
             .rw [(hnew1 r R h).2]at he;cases he
             .rw [h]at he;cases he;omega
             .have:=hM.epo r R ee h he;omega
           obtain ⟨g1,g2⟩:=zel (w:=w') (st:=st1) (E:=E1) rs ys id hys.1 (fun i c u hc hu=>by
            have hrep:=hys.2 i c u hc hu;refine ⟨?_,hrep.one⟩;have hlt:i<(zk rs).length:=(qA.1 hc).1;cases c with
            | i k n=>exact hrep.int_inv
            | b x=>exact hrep.bool_inv
            | s t l' =>
             obtain ⟨⟨a,cap,hv,_⟩,_⟩:=hrep.len;refine ⟨⟨a,_,cap,hv⟩,fun R hR=>?_⟩;have e:id+i-id=i:=by omega
             have:=(hEb (id+i) (by omega) (by omega)).1
             rw[e,hu] at this;simp only[zD,this,jW])
           have hro1:∀n R,zf st1.ro n=some R->U n\/Mine id n:=fun n R h=>by
            rcases hro n R h with h|⟨_,Q,h⟩|⟨h,_⟩
            .obtain ⟨h1,h2,_⟩:=hBr n R h;exact .inr ⟨h1,h2⟩
            .exact .inl (hS.ids.ro n Q h)
            .exact .inl (hS.ids.ro n R h)
           have hvi:∀n∈(ze3 (zbL rs id)).ids,U n\/Mine id n:=fun n hn=>by
            simp only[MV.ids,qP]at hn;obtain ⟨a,ha,hn⟩:=hn;obtain ⟨x,hx,ha⟩:=zkE ha;have:=zde rs id n x a hx ha hn;exact .inr ⟨by omega,by omega⟩
           cases x with
           | none =>
            have hnx:=Sim.next (U1:=fun n=>U n\/Mine id n) hS hMem hT (by rw[<- hst1]) (by rw[<- hst1]) (fun n h=>.inl h) hro1
             (fun n cs1 hn=>by
              rw[hst1lo]at hn;exact ⟨.inl (hS.ids.lo n cs1 hn).1,fun a ha m hm=>.inl ((hS.ids.lo n cs1 hn).2 a ha m hm)⟩)
             (dst:=o.dst) (zkF g1 g2) hvi
            subst hst1;exact hnext _ _ _ hnx
           | some y =>
            obtain ⟨q,n,js⟩:=y;unfold zQL at hren;split at hren
            .cases hren
            .rename_i ja jr js';split at hren
             .rename_i q' hoj haj;simp only[qC,jJ]at hren;obtain ⟨rfl,rfl,rfl⟩:=hren;rcases hB.get ja _ haj with ⟨_,r,R,h2,hR,hRo,hrk,hcs⟩|⟨h1,_⟩
              rotate_left
              .rw [hoj]at h1;cases h1
              cases h2;have hja:ja<xs.length:=by rw[hxl];exact (qA.1 haj).1
              have hu:=qB hja;obtain ⟨l',hl1,hl2,hl3⟩:=hinp ja jr js' rfl R.t R.l _ (by rw[hcv];exact hcs) hu
              have hjr:jr<(zk rs).length:=(qA.1 hl1).1;have hva:=(hxv ja _ _ haj hu).2 R hR;simp only[zD,qC]at hva;have hsim:=zRz (U1:=fun n=>U n\/Mine id n) (q:=q') (n:=id+jr) (js:=js') hS hMem hT (by rw[<- hst1]) (by rw[<- hst1]) hst1lo (fun n h=>.inl h) hro1
               (fun l cs1 hl=>hkeep _ (hβlt l cs1 hl) (fun j hj ho hk=>by
                obtain ⟨q2,hq2,Q',_,h1,h2,h3⟩:=hKown j _ ho hk;exact hM.lro l cs1 q2 Q' hl h1 h3)) (.inr ⟨by omega,by omega⟩) (fun R1 hR1=>by
                rcases hroot2 _ R1 hR1 with h|⟨_,_,_,h4⟩
                .obtain ⟨_,_,_,t2,l2,h5,rfl⟩:=hBr _ R1 h;have e:id+jr-id=jr:=by omega
                 rw[e,hl1]at h5;cases h5;refine ⟨R,hR,rfl,?_,?_⟩
                 .rw [(hEb (id+jr) (by omega) (by omega)).1,e,hl2,hva]
                  rfl
                 .rw [hva];exact hl3
                .exact absurd h4 (hid _ ⟨by omega,by omega⟩))
              have hI:Trans st1 E1 w' (st1.ren (some (q',id+jr,js'))) E1 w' (fun _=>True) :=
               ⟨fun r _ R1 h1=>⟨R1,h1,rfl,fun _ _ h=>h⟩,fun l _ cs1 h1=>⟨by
                simp only[St.ren]at h1;rw[zgU]at h1;cases hl:zf st1.lo l with
                | none=>rw[hl]at h1;cases h1
                | some c=>exact ⟨c,rfl⟩,rfl⟩,rfl⟩
              have hput:=hsim.putV (dst:=o.dst) (VM.tr hI (fun _ _=>trivial) (zkF g1 g2)) hvi;subst hst1;exact hnext _ _ _ hput
             .cases hren
        .cases h
       .cases h
     .cases h
    .cases h
   .cases h
  .cases h
 .cases h
theorem zOO (hC:CfgOk C)(hH:MctOk C)(hP:PctOk C)(hT:TctOk C):GraftOk C:=⟨zM7 hC,zO0 hH,zO4 hP,zPo hT⟩
end
section
variable {C:Cfg} {st st':St}
structure Agree (st st':St) (L:List Operand):Prop where
 ep:st'.ep=st.ep
 op:∀x∈L,st'.opnd x=st.opnd x
 id:∀x∈L,∀m,st.opnd x=some m->∀a∈zX m,(∀n∈zN a,zf st'.ro n=zf st.ro n)/\∀n∈zU a,zf st'.lo n=zf st.lo n
variable {L:List Operand}
theorem Agree.at (h:Agree st st' L){x:Operand}(hx:x∈L):st'.at x=st.at x:=by
 unfold St.at;rw[h.op x hx]
theorem Agree.rootN (h:Agree st st' L){n:Nat}(hn:zf st'.ro n=zf st.ro n):st'.root n=st.root n:=by
 unfold St.root;rw[hn,h.ep]
def Held (st:St)(L:List Operand)(a:At):Prop:=∃x∈L,∃m,st.opnd x=some m/\a∈zX m
theorem Agree.held (h:Agree st st' L){a:At}(ha:Held st L a):(∀n∈zN a,zf st'.ro n=zf st.ro n)/\∀n∈zU a,zf st'.lo n=zf st.lo n:=by
 obtain ⟨x,hx,m,hm,ha⟩:=ha;exact h.id x hx m hm a ha
theorem zcB {x:Operand}{a:At}(hx:x∈L)(h:st.at x=some a):Held st L a:=⟨x,hx,_,zBv h,by simp[zX,zy]⟩
theorem Agree.root (h:Agree st st' L){r:Nat}{p:List (Int×Nat)}(ha:Held st L (.sl r p)):st'.root r=st.root r :=
 h.rootN ((h.held ha).1 r (by simp[zN]))
theorem Agree.node (h:Agree st st' L){r:Nat}{p:List (Int×Nat)}(ha:Held st L (.sl r p))(q:List (Int×Nat)):st'.node r q=st.node r q:=by
 unfold St.node;rw[h.root ha]
theorem Agree.rootE (h:Agree st st' L){r:Nat}{p:List (Int×Nat)}{i:Int}{o:Nat}(ha:Held st L (.ep r p i o)):st'.root r=st.root r :=
 h.rootN ((h.held ha).1 r (by simp[zN]))
theorem Agree.nodeE (h:Agree st st' L){r:Nat}{p:List (Int×Nat)}{i:Int}{o:Nat}(ha:Held st L (.ep r p i o))(q:List (Int×Nat)):st'.node r q=st.node r q:=by
 unfold St.node;rw[h.rootE ha]
theorem Agree.loc (h:Agree st st' L){l o:Nat}(ha:Held st L (.lp l o)):zf st'.lo l=zf st.lo l :=
 (h.held ha).2 l (by simp[zU])
theorem Agree.cvOf (h:Agree st st' L){a:At}(ha:Held st L a):st'.cvOf a=st.cvOf a:=by
 cases a with
 | sl r p=>exact h.node ha p
 | _=>rfl
theorem zhh {α β:Type}{f g:α->Option β}:∀{l:List α},(∀a∈l,f a=g a)->zbw f l=zbw g l
 | [],_=>rfl
 | a :: l,h=>by
  simp only[zbw];rw[h a (by simp),zhh (l:=l) (fun b hb=>h b (by simp[hb]))]
theorem Agree.avOf (h:Agree st st' L){x:Operand}(hx:x∈L){m:MV}(hm:st.opnd x=some m):st'.avOf m=st.avOf m:=by
 cases m with
 | und=>rfl
 | tup l=>rfl
 | v y =>
  rcases y with a|l
  .simp only [St.avOf];rw[h.cvOf ⟨x,hx,_,hm,by simp[zX,zy]⟩]
  .simp only [St.avOf];rw[zhh (f:=st'.cvOf) (g:=st.cvOf) (fun a ha=>h.cvOf ⟨x,hx,_,hm,by simpa [zX,zy] using ha⟩)]
theorem Agree.give (h:Agree st st' L)(tgt:Option (Nat×List (Int×Nat)×Int)):∀(xs:List At) (j:Nat),(∀a∈xs,Held st L a)->st'.give tgt xs j=st.give tgt xs j
 | [],j,_=>rfl
 | a :: xs,j,hh=>by
  have ih:=Agree.give h tgt xs (j+1) (fun b hb=>hh b (by simp[hb]))
  have ha:=hh a (by simp)
  cases a with
  | sl r q =>
   cases q with
   | nil=>simp only[St.give,ih,h.root ha]
   | cons ij q=>simp only[St.give,ih,h.node ha]
  | _=>simp only[St.give,ih]
theorem Agree.giveV (h:Agree st st' L){x:Operand}(hx:x∈L){y:TV}(hm:st.opnd x=some (.v y))(tgt:Option (Nat×List (Int×Nat)×Int))(j:Nat):st'.give tgt (zy y) j=st.give tgt (zy y) j :=
 h.give tgt (zy y) j (fun a ha=>⟨x,hx,_,hm,by simpa [zX] using ha⟩)
theorem Agree.layParts (h:Agree st st' L){T:TypeId}:∀(parts:List (Nat×Operand)) (cs:List At),(∀x∈parts,x.2∈L)->layParts C T st' parts cs=layParts C T st parts cs
 | [],_,_=>rfl
 | (f,x) :: r,cs,hp=>by
  simp only[E.layParts];rw[h.op x (hp (f,x) (by simp))]
  split
  .split
   .exact Agree.layParts h r _ (fun y hy=>hp y (by simp[hy]))
   .rfl
  .rfl
theorem Agree.rowParts (h:Agree st st' L){t:Ty}:∀(parts:List (Nat×Operand)) (l:List t.den) (ks:List Nat),(∀x∈parts,x.2∈L)->rowParts st' t parts l ks=rowParts st t parts l ks
 | [],_,_,_=>rfl
 | (i,x) :: r,l,ks,hp=>by
  have hx:=hp (i,x) (by simp)
  simp only[E.rowParts];rw[h.op x hx];cases hm:st.opnd x with
  | none=>rfl
  | some m =>
   cases m with
   | und=>rfl
   | tup _=>rfl
   | v y =>
    simp only;rw[h.giveV hx hm];split
    .split
     .split
      .exact Agree.rowParts h r _ _ (fun y hy=>hp y (by simp[hy]))
      .rfl
     .rfl
    .rfl
theorem Agree.rowPartsZ (h:Agree st st' L){t:Ty}:∀(parts:List (Nat×Operand)) (l:List t.den) (ks:List Nat),(∀x∈parts,x.2∈L)->rowPartsZ st' t parts l ks=rowPartsZ st t parts l ks
 | [],_,_,_=>rfl
 | (i,x) :: r,l,ks,hp=>by
  have hx:=hp (i,x) (by simp)
  simp only[E.rowPartsZ];rw[h.op x hx];cases hm:st.opnd x with
  | none=>rfl
  | some m =>
   cases m with
   | und=>rfl
   | tup _=>rfl
   | v y =>
    simp only;rw[h.giveV hx hm];split
    .split
     .split
      .exact Agree.rowPartsZ h r _ _ (fun y hy=>hp y (by simp[hy]))
      .rfl
     .rfl
    .rfl
theorem Agree.rowPartsV (h:Agree st st' L){t:Ty}:∀(parts:List (Nat×Operand)) (l:List t.den),(∀x∈parts,x.2∈L)->rowPartsV st' t parts l=rowPartsV st t parts l
 | [],_,_=>rfl
 | (i,x) :: r,l,hp=>by
  have hx:=hp (i,x) (by simp)
  simp only[E.rowPartsV];rw[h.op x hx];cases hm:st.opnd x with
  | none=>rfl
  | some m =>
   cases m with
   | und=>rfl
   | tup _=>rfl
   | v y =>
    simp only;rw[h.avOf hx hm];split
    .split
     .split
      .exact Agree.rowPartsV h r _ (fun y hy=>hp y (by simp[hy]))
      .rfl
     .rfl
    .rfl
end
section
variable {C:Cfg} {st st':St}
theorem zRT {o:Oper}{id:Nat}{T:TypeId}{x:Operand}(hop:o.op = .load T x){L:List Operand}(hx:x∈L)(h:Agree st st' L):delta C st' o id=delta C st o id:=by
 have ax:=h.at hx;simp only[delta,hop,ax];cases hT:C.cty T with
 | none=>rfl
 | some ct =>
  cases e:st.at x with
  | none=>rfl
  | some a =>
   cases a with
   | lp l off=>simp only[h.loc (zcB hx e)]
   | ep r p i off=>simp only[h.nodeE (zcB hx e)]
   | _=>rfl
theorem zQX {o:Oper}{id:Nat}{T:TypeId}{a x:Operand}(hop:o.op = .store T a x){L:List Operand}(hx:x∈L)(ha:a∈L)(h:Agree st st' L):delta C st' o id=delta C st o id:=by
 have ax:=h.at ha;have ox:=h.op x hx;simp only[delta,hop,ax,ox];cases hT:C.cty T with
 | none=>rfl
 | some ct =>
  cases em:st.opnd x with
  | none =>
   obtain ⟨agg,tys⟩:=ct;have ht:tys=[]\/(∃k,tys=[.i k])\/tys=[.b]\/(∃t,tys=[.s t])\/∃c0 c1 r,tys=c0 :: c1 :: r:=by
    match tys with
    | []=>exact .inl rfl
    | [.i k]=>exact .inr (.inl ⟨k,rfl⟩)
    | [.b]=>exact .inr (.inr (.inl rfl))
    | [.s t]=>exact .inr (.inr (.inr (.inl ⟨t,rfl⟩)))
    | c0 :: c1 :: r=>exact .inr (.inr (.inr (.inr ⟨c0,c1,r,rfl⟩)))
   cases e:st.at a with
   | none=>rcases ht with rfl|⟨k,rfl⟩|rfl|⟨t,rfl⟩|⟨c0,c1,r,rfl⟩<;>first|rfl|(cases c0<;>rfl)
   | some y =>
    cases y with
    | lp l off =>
     rcases ht with rfl|⟨k,rfl⟩|rfl|⟨t,rfl⟩|⟨c0,c1,r,rfl⟩
     .rfl
     .rfl
     .rfl
     .simp only [h.loc (zcB ha e)]
     .cases c0<;>rfl
    | _=>rcases ht with rfl|⟨k,rfl⟩|rfl|⟨t,rfl⟩|⟨c0,c1,r,rfl⟩<;>first|rfl|(cases c0<;>rfl)
  | some m =>
   cases m with
   | v y =>
    cases e:st.at a with
    | none=>rfl
    | some b =>
     cases b with
     | lp l off=>simp only[h.loc (zcB ha e)]
     | ep r p i off=>simp only[h.rootE (zcB ha e),h.nodeE (zcB ha e),h.giveV hx em]
     | _=>rfl
   | _=>rfl
theorem ziz (hep:st'.ep=st.ep):∀(ks:List Nat),(∀k∈ks,zf st'.ro k=zf st.ro k)->moved st' ks=moved st ks
 | [],_=>rfl
 | k :: ks,hk=>by
  simp only[moved];rw[hk k (by simp),hep,ziz hep ks (fun q hq=>hk q (by simp[hq]))]
theorem zsa:∀(ks:List Nat),(∀k∈ks,zf st'.ro k=zf st.ro k)->zdI st' ks=zdI st ks
 | [],_=>rfl
 | k :: ks,hk=>by
  simp only[zdI];rw[hk k (by simp),zsa ks (fun q hq=>hk q (by simp[hq]))]
theorem zQW {o:Oper}{id:Nat}{T:TypeId}{x:Operand}{lo hi:Option Operand}(hop:o.op = .slice T x lo hi none){L:List Operand}(hx:x∈L)(hlo:∀y,lo=some y->y∈L)(hhi:∀y,hi=some y->y∈L)(h:Agree st st' L):delta C st' o id=delta C st o id:=by
 have ax:=h.at hx;have ep:=h.ep;have sub:∀R t l,zdj st' R t l=zdj st R t l:=fun R t l=>by simp only[zdj,ep]
 simp only[delta,hop,ax];cases e:st.at x with
 | none=>rfl
 | some a =>
  cases a with
  | sl r p =>
   simp only[h.root (zcB hx e),h.node (zcB hx e),sub];cases lo with
   | none =>
    cases hi with
    | none=>rfl
    | some y =>
     have cut:∀R t l n,zxr C st' id r p R t l n=zxr C st id r p R t l n:=fun R t l n=>by
      unfold zxr;rw[ziz h.ep [r] (fun k hk=>by
       simp only[qE]at hk;subst hk;exact (h.held (zcB hx e)).1 k (by simp[zN]))]
      simp only[sub]
     simp only[h.at (hhi y rfl),cut]
   | some z =>
    cases hi with
    | none =>
     have cut:∀R t l n,zBA st' id r p R t l n=zBA st id r p R t l n:=fun R t l n=>by
      unfold zBA;rw[ziz h.ep [r] (fun k hk=>by
       simp only[qE]at hk;subst hk;exact (h.held (zcB hx e)).1 k (by simp[zN]))]
      simp only[sub]
     simp only[h.at (hlo z rfl),cut]
    | some y=>simp only[h.at (hlo z rfl),h.at (hhi y rfl)]
  | _=>rfl
theorem zOS {α:Type}{b:Bool}{x y:α}(h:(if b=true then some x else none)=some y):x=y:=by
 cases b with
 | true=>simpa using h
 | false=>simp at h
theorem zBD {tgt:Option (Nat×List (Int×Nat)×Int)}:∀(xs:List At) (j:Nat) (c:Bool) (cs:List CV) (ks:List Nat),st.give tgt xs j=some (c,cs,ks)->∀k∈ks,At.sl k []∈xs
 | [],j,c,cs,ks,h,k,hk=>by
  simp only[St.give,qC,jJ]at h;obtain ⟨_,_,rfl⟩:=h;simp at hk
 | a :: xs,j,c,cs,ks,h,k,hk=>by
  simp only[St.give]at h;split at h
  .cases h
  .rename_i c0 cs' ks' hg;have ih:=zBD xs (j+1) c0 cs' ks' hg;split at h
   .cases h;exact jD _ (ih k hk)
   .cases h;exact jD _ (ih k hk)
   .split at h
    .have hh:=zOS h;cases hh;rcases qG.1 hk with rfl|hk
     .simp
     .exact jD _ (ih k hk)
    .cases h
   .split at h
    .split at h
     .split at h
      .cases h;exact jD _ (ih k hk)
      .cases h
     .cases h
    .cases h
   .cases h
theorem zwD {t:Ty}:∀(parts:List (Nat×Operand)) (l:List t.den) (ks:List Nat) (l':List t.den) (ks':List Nat),rowParts st t parts l ks=some (l',ks')->∀k∈ks',k∈ks\/∃x∈parts,∃y,st.opnd x.2=some (.v y)/\At.sl k []∈zy y
 | [],l,ks,l',ks',h,k,hk=>by
  simp only[rowParts,qC,jJ]at h;obtain ⟨_,rfl⟩:=h;exact .inl hk
 | (i,x) :: r,l,ks,l',ks',h,k,hk=>by
  simp only[rowParts]at h;split at h
  .rename_i y hx;split at h
   .rename_i cs k2 hg;split at h
    .split at h
     .rcases zwD r _ _ l' ks' h k hk with h1|⟨z,hz,h1⟩
      .rcases jL.1 h1 with h1|h1
       .exact .inr ⟨(i,x),by simp,y,hx,zBD _ _ _ _ _ hg k h1⟩
       .exact .inl h1
      .exact .inr ⟨z,by simp[hz],h1⟩
     .cases h
    .cases h
   .cases h
  .cases h
theorem ztS {t:Ty}:∀(parts:List (Nat×Operand)) (l:List t.den) (ks:List Nat) (l':List t.den) (ks':List Nat),rowPartsZ st t parts l ks=some (l',ks')->∀k∈ks',k∈ks\/∃x∈parts,∃y,st.opnd x.2=some (.v y)/\At.sl k []∈zy y
 | [],l,ks,l',ks',h,k,hk=>by
  simp only[rowPartsZ,qC,jJ]at h;obtain ⟨_,rfl⟩:=h;exact .inl hk
 | (i,x) :: r,l,ks,l',ks',h,k,hk=>by
  simp only[rowPartsZ]at h;split at h
  .rename_i y hx;split at h
   .rename_i cs k2 hg;split at h
    .split at h
     .rcases ztS r _ _ l' ks' h k hk with h1|⟨z,hz,h1⟩
      .rcases jL.1 h1 with h1|h1
       .exact .inr ⟨(i,x),by simp,y,hx,zBD _ _ _ _ _ hg k h1⟩
       .exact .inl h1
      .exact .inr ⟨z,by simp[hz],h1⟩
     .cases h
    .cases h
   .cases h
  .cases h
theorem zF1 {o:Oper}{id:Nat}{T:TypeId}{n:Nat}{parts:Array (Nat×Operand)}(hop:o.op = .buildSlice T n parts){L:List Operand}(hp:∀x∈parts.toList,x.2∈L)(h:Agree st st' L):delta C st' o id=delta C st o id:=by
 simp only[delta,hop];cases hT:C.sty T with
 | none=>rfl
 | some t =>
  simp only[h.rowParts parts.toList _ _ hp];cases e:rowParts st t parts.toList (List.replicate n t.dflt) [] with
  | none =>
   simp only[h.rowPartsZ parts.toList _ _ hp];cases e:rowPartsZ st t parts.toList (List.replicate n t.dflt) [] with
   | none=>simp only[h.rowPartsV parts.toList _ hp,h.ep]
   | some lk =>
    obtain ⟨l,ks⟩:=lk;simp only;rw[zsa ks (fun k hk=>by
     rcases ztS _ _ _ _ _ e k hk with h1|⟨x,hx,y,hm,h1⟩
     .simp at h1
     .exact (h.held ⟨x.2,hp x hx,_,hm,by simpa [zX] using h1⟩).1 k (by simp[zN]))]
  | some lk =>
   obtain ⟨l,ks⟩:=lk;simp only;rw[ziz h.ep ks (fun k hk=>by
    rcases zwD _ _ _ _ _ e k hk with h1|⟨x,hx,y,hm,h1⟩
    .simp at h1
    .exact (h.held ⟨x.2,hp x hx,_,hm,by simpa [zX] using h1⟩).1 k (by simp[zN]))]
theorem c_call {o:Oper}{id:Nat}{c:Call}(hop:o.op = .call c){L:List Operand}(hp:∀x∈c.args.toList,x∈L)(h:Agree st st' L):delta C st' o id=delta C st o id:=by
 simp only[delta,hop];cases hcb:c.callee with
 | invoke r n=>rfl
 | value f =>
  cases f with
  | func f =>
   simp only;have e:zbw (fun x=>match st'.opnd x with|some v=>st'.avOf v|none=>none) c.args.toList=zbw (fun x=>match st.opnd x with|some v=>st.avOf v|none=>none) c.args.toList:=by
    refine zhh ?_;intro x hx;simp only[h.op x (hp x hx)];cases e:st.opnd x with
    | none=>rfl
    | some m=>exact h.avOf (hp x hx) e
   cases C.ctr f with
   | some run =>
    exact congrArg (fun A=>(match A with
     | some avs=>(match run avs with
      | some (c,rs)=>if (rs.flatMap AV.cvs).length<=31 then some ({ c,v:=ze3 (zbL rs id),ro:=zbO (zbG f) rs id }:Dl) else none
      | none=>none)
     | none=>none)) e
   | none =>
    cases hca:c.args.toList with
    | nil =>
     cases C.tct f with
     | none=>rfl
     | some x =>
      obtain ⟨own,inp,run⟩:=x;cases own<;>rfl
    | cons x0 xr =>
     rw[hca] at e hp;cases C.tct f with
     | none=>rfl
     | some x =>
      obtain ⟨own,inp,run⟩:=x;cases own with
      | cons y l=>rfl
      | nil =>
       dsimp only
       rw[h.op x0 (hp x0 (by simp))]
       exact congrArg (fun A=>(match st.opnd x0,A with
        | some (.v v0),some avs=>(match run avs with
         | some (c,rs)=>if (rs.flatMap AV.cvs).all CV.flat&&decide ((rs.flatMap AV.cvs).length<=31) then some ({ c,v:=ze3 (v0 :: zbL rs id) }:Dl) else none
         | none=>none)
        | _,_=>none)) e
  | _=>rfl
 | builtin b =>
  cases b with
  | len =>
   simp only;split
   .rename_i x T hca hct;have hx:=hp x (by rw[hca];simp)
    rw[h.at hx];cases e:st.at x with
    | none=>rfl
    | some a =>
     cases a with
     | sl r p=>simp only[h.node (zcB hx e)]
     | _=>rfl
   .rfl
  | min =>
   simp only;split
   .rename_i x y hca;rw[h.at (hp x (by rw[hca];simp)),h.at (hp y (by rw[hca];simp))]
   .rfl
  | max =>
   simp only;split
   .rename_i x y hca;rw[h.at (hp x (by rw[hca];simp)),h.at (hp y (by rw[hca];simp))]
   .rfl
  | append =>
   simp only;split
   .rename_i x y T T2 hca hct;have hx:=hp x (by rw[hca];simp)
    have hy:=hp y (by rw[hca];simp)
    rw[h.at hx,h.at hy];split
    .cases hT:C.sty T with
     | none=>rfl
     | some t =>
      cases e:st.at x with
      | none=>rfl
      | some a =>
       cases a with
       | sl r p =>
        cases p with
        | nil =>
         cases e2:st.at y with
         | none=>rfl
         | some b =>
          cases b with
          | sl r2 p2 =>
           simp only[h.root (zcB hx e),h.root (zcB hy e2),h.node (zcB hy e2)];rw[ziz h.ep (if t.flat=true then [r] else [r,r2]) (fun k hk=>by
            split at hk
            .simp only [qE]at hk;subst hk;exact (h.held (zcB hx e)).1 k (by simp[zN])
            .simp only [qG,qU,or_false]at hk;rcases hk with rfl|rfl
             .exact (h.held (zcB hx e)).1 k (by simp[zN])
             .exact (h.held (zcB hy e2)).1 k (by simp[zN]))]
          | _=>rfl
        | cons _ _=>rfl
       | _=>rfl
    .rfl
   .rfl
  | _=>rfl
theorem zI1 {o:Oper}{id:Nat}(h:Agree st st' o.op.operands.toList):delta C st' o id=delta C st o id:=by
 cases hop:o.op<;>rw [hop]at h<;>simp only [Op.operands]at h
 case move x =>
  simp only[delta,hop];split
  .rfl
  .rfl
  .rw [h.op x (by simp)]
 case assign x =>
  simp only[delta,hop];split
  .rfl
  .rfl
  .rw [h.op x (by simp)]
 case pick c a b=>simp only[delta,hop,h.op a (by simp),h.op b (by simp),h.at (x:=c) (by simp)]
 case alloc T=>simp only[delta,hop]
 case box T x=>simp only[delta,hop,h.op x (by simp)]
 case build T parts =>
  simp only[delta,hop];have e:∀cs,layParts C T st' parts.toList cs=layParts C T st parts.toList cs:=fun cs=>h.layParts parts.toList cs (fun x hx=>by simp;exact ⟨x.1,by simpa using hx⟩)
  simp only[e]
 case load T x=>exact zRT hop (by simp) h
 case store T a x=>exact zQX hop (by simp) (by simp) h
 case nilCheck x=>simp only[delta,hop,h.at (x:=x) (by simp)]
 case binOp op T x y T2=>simp only[delta,hop,h.op x (by simp),h.op y (by simp)]
 case unOp op T x=>simp only[delta,hop,h.at (x:=x) (by simp)]
 case convert a b x=>simp only[delta,hop,h.at (x:=x) (by simp)]
 case makeFunc fn first caps =>
  cases fn with
  | func f =>
   simp only[delta,hop];rw[zhh (g:=fun x=>match st.at x with|some (.lp l 0)=>some l|_=>none) (l:=caps.toList)]
   .rfl
   intro x hx;simp only[h.at (x:=x) (by simp;exact .inr (by simpa using hx))]
   rfl
  | _=>simp only[delta,hop]
 case makeSlice T x y=>simp only[delta,hop,h.at (x:=x) (by simp),h.at (x:=y) (by simp)]
 case slice T x lo hi mx =>
  cases mx with
  | none=>exact zQW hop (by simp) (fun y hy=>by simp[hy]) (fun y hy=>by simp[hy]) h
  | some m=>simp only[delta,hop]
 case fieldAddr T x f=>simp only[delta,hop,h.at (x:=x) (by simp)]
 case field T x f=>simp only[delta,hop,h.op x (by simp)]
 case index T x y =>
  cases x with
  | const v =>
   cases v with
   | string s=>simp only[delta,hop,h.at (x:=y) (by simp)]
   | _=>simp only[delta,hop]
  | _=>simp only[delta,hop]
 case indexAddr T x y =>
  have hx:x ∈ #[x,y].toList:=by simp
  simp only[delta,hop,h.at hx,h.at (x:=y) (by simp)]
  cases e:st.at x with
  | none=>rfl
  | some a =>
   cases a with
   | sl r p =>
    have hn:=h.node (zcB hx e) p;cases e2:st.at y with
    | none=>rfl
    | some b =>
     cases b with
     | i k n=>cases k<;>first|rfl|(simp only [hn])
     | _=>rfl
   | _=>rfl
 case extract x j=>simp only[delta,hop,h.op x (by simp)]
 case call c=>exact c_call hop (fun x hx=>by simp only[Call.operands,Array.toList_append,jL];exact .inr hx) h
 case buildSlice T n parts=>exact zF1 hop (fun x hx=>by simp;exact ⟨x.1,by simpa using hx⟩) h
 all_goals simp only [delta,hop]
end
end
end Go.Proofs.YtnnmbkjhakbicaaGreat.E
