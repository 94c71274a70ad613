/- What is proved here: a part of the proof that the statement of this claim holds (several texts of wip/, laid together). -/
import Derived.Test.YtnnmbkjhakbicaaGreatV2
import Derived.HandedShaped
import Derived.ProofKit
import Derived.KernelRfl
namespace Go.Proofs.YtnnmbkjhakbicaaGreat.E
open Go
set_option linter.unusedVariables false
set_option maxRecDepth 100000
set_option linter.unusedSimpArgs false
set_option linter.unusedSectionVars false
noncomputable section
section
variable {C:Cfg} {w0 w w1:World} {S0:zJ} {U:Nat->Prop} {st st1:St} {E E1:Env} {ts:Array Value} {sv:List (Array Value)}
theorem zMU (t:Ty)(x:t.den):t.ofCells (t.cells x)=some x:=by
 cases t<;>first|rfl|simp[Ty.ofCells,Ty.cells]
theorem zFl:∀(p:List (Int×Nat)) {t:Ty} {l:List t.den} {cv:CV},ze7 t l p=some cv->∀m,zmB t l p cv=some m->m=l
 | [],t,l,cv,h,m,hm=>by
  simp only[ze7,qC]at h;subst h;simpa [zmB] using hm.symm
 | (i,j) :: p,t,l,cv,h,m,hm=>by
  simp only[ze7]at h;simp only[zmB]at hm;split at h
  .rename_i t1 l1 hc;rw[hc]at hm;simp only at hm;split at hm
   .rename_i l2 hl2;have:=zFl p h l2 hl2;subst this;split at hm
    .rename_i x hx;cases hm;have hj:j<(t.cells (ix l i t.dflt)).length:=(qA.1 hc).1;have hs:splice (t.cells (ix l i t.dflt)) j [CV.s t1 l2]=t.cells (ix l i t.dflt):=zxT _ _ _ (by simp;omega) (fun k hk=>by
      have:k=0:=by simpa using hk
      subst this;simpa using hc)
     rw[hs,zMU]at hx;cases hx;unfold up ix;apply kT;intro k;rw[jD];split
     .rename_i hk;subst hk;split
      .rename_i hlt;simp[List.getD,qB hlt]
      .rename_i hlt;rw[List.getElem?_eq_none (by omega)]
     .rfl
    .cases hm
   .cases hm
  .cases h
theorem zP8 {t:Ty}(hf:t.flat=true):∀(q:List (Int×Nat)) (v u:Value),zF w t v q=some u->q=[]
 | [],_,_,_=>rfl
 | (i,j) :: q,v,u,h=>by
  exfalso;cases v with
  | slice a len cap =>
   cases a with
   | none=>simp[zF]at h
   | some a =>
    simp only[zF]at h;split at h
    .split at h
     .rename_i t' hsh;unfold Ty.flat at hf;have:=qS.1 hf _ (qJ hsh);simp at this
     .cases h
    .cases h
  | _=>simp[zF]at h
theorem zS1 (hC:CfgOk C){T:TypeId}{t:Ty}(hT:C.sty T=some t)(hf:t.flat=true){v1 v2:Value}{l1 l2:List t.den}{S1 S2:zJ}(hrep1:Rep true w v1 (.s t l1) S1)(hrep2:Rep false w v2 (.s t l2) S2)(hl2:l2≠[])(hfew:few (ln (ap l1 l2))=true)(oT:TypeId) :
 ∃(v:Value) (w':World) (bv offv cap:Nat),(Builtin.append_ #[T,T] oT #[v1,v2]).run C.P w = .ok v w'/\v = .slice (some ⟨bv,offv,none⟩) (ap l1 l2).length cap/\Rep true w' v (.s t (ap l1 l2)) (fun x=>x=bv) /\
  w'.os=w.os/\w'.tape=w.tape/\w'.output=w.output /\
  ((bv=w.heap.size/\w'.heap.size=w.heap.size+1/\∀x,x<w.heap.size->w'.heap[x]?=w.heap[x]?) \/
    ∃off1 cap1,v1 = .slice (some ⟨bv,off1,none⟩) l1.length cap1/\S1 bv/\w'.heap.size=w.heap.size/\(∀x,x≠bv->w'.heap[x]?=w.heap[x]?)/\Rep true w' v1 (.s t l1) S1):=by
 obtain ⟨e,hE⟩:=hC.sty T t hT;obtain ⟨i,z,hi,hs,hz,hzc,hby⟩:=hE.info;obtain ⟨f0,f1⟩:=zCx hfew;have hlen:l1.length+l2.length<=2147483648:=by simp only[ln,ap,uM] at f1;omega
 have hapl:(ap l1 l2).length=l1.length+l2.length:=by simp[ap]
 cases hrep2 with
 | nil=>exact absurd rfl hl2
 | void=>exact absurd rfl hl2
 | sl _ _ b2 off2 cap2 arr2 e2 fz2 V2 K2 _ hb2 hfz2 hlen2 hcap2 hsz2 hS2 hsub2 hdis2 hvv2 hcc2 =>
 have hm0:0<l2.length:=List.length_pos_iff.2 hl2;have hmul2:l2.length*t.width<=cap2*t.width:=qQ _ hcap2;generalize hnews:(arr2.toList.drop off2).take (l2.length*t.width)=news;have hnl:news.length=l2.length*t.width:=by rw[<- hnews];simp;omega
 have hnat:∀k,k<l2.length*t.width->news[k]?=arr2[off2+k]?:=by
  intro k hk;rw[<- hnews,jE,if_pos hk,jI];simp
 have hnc:∀j u,news[j]?=some u->w.cell? ((⟨b2,off2,none⟩:Addr).add j)=some u:=by
  intro j u hu;have hj:j<l2.length*t.width:=by rw[<- hnl];exact (qA.1 hu).1
  rw[add_lit,cell_of_block hb2,<- hnat j hj];exact hu
 have hrow2:∀i j,i<l2.length->j<t.width->i*t.width+j<l2.length*t.width:=by
  intro i j hi hj;have:(i+1)*t.width<=l2.length*t.width:=qQ _ hi;rw[jF] at this;omega
 have hnv:∀i j,i<l2.length->j<t.width->news[i*t.width+j]?=some (V2 i j):=by
  intro i j hi hj;rw[hnat _ (hrow2 i j hi hj),<- kP];exact hvv2 i j hi hj
 have hwp:=zvM t;have hn1:∀u∈news,u.oneCell'=true:=by
  intro u hu;obtain ⟨k,hk⟩:=qP.1 hu;have hkl:k<l2.length*t.width:=by rw[<- hnl];exact (qA.1 hk).1
  have hki:k / t.width<l2.length:=(Nat.div_lt_iff_lt_mul hwp).2 hkl;have hkj:k % t.width<t.width:=Nat.mod_lt _ hwp;have:=hnv _ _ hki hkj;rw[Nat.mul_comm,Nat.div_add_mod,hk] at this;cases this;have hx:=qB hki;have hcj:(t.cells (l2[k / t.width]'hki))[k % t.width]?=some ((t.cells (l2[k / t.width]'hki))[k % t.width]'(by rw[zb6];exact hkj)):=qB _
  exact (hcc2 _ _ hx _ _ hcj).one
 have hcc2':∀(w1:World) i x,l2[i]?=some x->∀j c,(t.cells x)[j]?=some c->Rep true w1 (V2 i j) c (fun _=>False):=fun w1 i x hx j c hcj=>(hcc2 i x hx j c hcj).flat (zo2 hf hcj);have hrow1:∀i j,i<l1.length->j<t.width->i*t.width+j<l1.length*t.width:=by
  intro i j hi hj;have:(i+1)*t.width<=l1.length*t.width:=qQ _ hi;rw[jF] at this;omega
 have hbytes:(l1.length+l2.length)*i.bytes<=140737488355328:=by
  have:=k8 hlen hby;omega
 have hzsz:z.cells.size=t.width:=by rw[<- kF,hzc];simp[zc9]
 have grown:∀(olds:List Value) (cap':Nat) (V1:Nat->Nat->Value) (zs:Array Value),olds.length=l1.length*t.width->l1.length+l2.length<=cap'->zs.size=(cap'-(l1.length+l2.length))*t.width ->
  (∀i j,i<l1.length->j<t.width->olds[i*t.width+j]?=some (V1 i j)) ->
  (∀i x,l1[i]?=some x->∀j c,(t.cells x)[j]?=some c->∃S,Rep true w (V1 i j) c S) ->
  (Builtin.append_ #[T,T] oT #[v1,.slice (some ⟨b2,off2,none⟩) l2.length cap2]).run C.P w = .ok (.slice (some ⟨w.heap.size,0,none⟩) (l1.length+l2.length) cap') (w.drew.alloc (.cells (olds.toArray++news.toArray++zs) e (0,0))) ->
  ∃(v:Value) (w':World) (bv offv cap:Nat),(Builtin.append_ #[T,T] oT #[v1,.slice (some ⟨b2,off2,none⟩) l2.length cap2]).run C.P w = .ok v w'/\v = .slice (some ⟨bv,offv,none⟩) (ap l1 l2).length cap/\Rep true w' v (.s t (ap l1 l2)) (fun x=>x=bv) /\
  w'.os=w.os/\w'.tape=w.tape/\w'.output=w.output /\
  ((bv=w.heap.size/\w'.heap.size=w.heap.size+1/\∀x,x<w.heap.size->w'.heap[x]?=w.heap[x]?) \/
    ∃off1 cap1,v1 = .slice (some ⟨bv,off1,none⟩) l1.length cap1/\S1 bv/\w'.heap.size=w.heap.size/\(∀x,x≠bv->w'.heap[x]?=w.heap[x]?)/\Rep true w' v1 (.s t l1) S1):=by
  intro olds cap' V1 zs hol hcap' hzs ho1 hc1 hr;generalize hw1:w.drew.alloc (.cells (olds.toArray++news.toArray++zs) e (0,0))=w1 at hr;have hsame:∀x,x<w.heap.size->w1.heap[x]?=w.heap[x]?:=fun x hx=>by rw[<- hw1];exact heap_alloc_old w.drew _ x hx
  have hsize:w1.heap.size=w.heap.size+1:=by rw[<- hw1];simp
  refine ⟨_,w1,w.heap.size,0,cap',hr,by rw[hapl],?_,by rw[<- hw1];rfl,by rw[<- hw1];rfl,by rw[<- hw1];rfl,.inl ⟨rfl,hsize,hsame⟩⟩
  refine Rep.join (arr:=olds.toArray++news.toArray++zs) (e:=e) (V1:=V1) (V2:=V2) (K1:=fun _ _ _=>False) (K2:=fun _ _ _=>False) ?_ (by simp only[big];omega) hcap' ?_ rfl ?_ ?_ ?_ (hcc2' w1) (fun _ _ _ _ _ h=>h.elim) (fun _ _ _ _ _ h=>h.elim) (fun _ _ _ _ _ _ _ _ _ h=>h.elim) (fun _ _ _ _ _ _ _ _ _ h=>h.elim) (fun _ _ _ _ _ _ _ _ _ h=>h.elim)
  .rw [<- hw1];exact heap_alloc_new w.drew _
  .simp only [Array.size_append,jX,hol,hnl,hzs,<- kG];have:l1.length+l2.length+(cap'-(l1.length+l2.length))=cap':=by omega
   rw[this];omega
  .intro i j hi hj;have:=hrow1 i j hi hj;rw[jY,k6,jU (by simp[hol];exact this)]
   simpa using ho1 i j hi hj
  .intro i j hi hj;have:=hrow2 i j hi hj;rw[jY,kG,k6,kA (by simp[hol];omega),jU (by simp[hol,hnl];omega)]
   rw[<- hnv i j hi hj];simp only[jX,hol,jB]
   congr 1
   omega
  .intro i x hx j c hcj;obtain ⟨S,hr⟩:=hc1 i x hx j c hcj;exact hr.flat (zo2 hf hcj)
 cases hrep1 with
 | nil =>
  have hr:=run_append_nil (P:=C.P) w T oT e i z hE.und hi hz ⟨b2,off2,none⟩ l2.length cap2 news (by rw[hs];exact hnl) hnc hm0 (by omega) (by
   have:=k8 (show l2.length<=2147483648 by omega) hby
   omega)
  have hge:=grownCap_ge w l2.length 0 e;refine grown [] (grownCap w l2.length 0 e) (fun _ _=>undef) (Builtin.zeroCells z.cells (grownCap w l2.length 0 e-l2.length)) (by simp) (by simpa using hge) (by simp[size_zeroCells,hzsz]) (fun i j hi=>by simp at hi) (fun i x hx=>by simp at hx) ?_
  rw[hr];simp
 | void _ _ _ ho=>cases ho
 | sl _ _ b off cap arr e1 fz V1 K1 _ hb hfz hlen1 hcap1 hsz1 hS1 hsub1 hdis1 hvv1 hcc1 =>
  have hfz':=hfz rfl;subst hfz';have hmul1:l1.length*t.width<=cap*t.width:=qQ _ hcap1
  by_cases hroom:l1.length+l2.length<=cap
  .have hmulr:(l1.length+l2.length)*t.width<=cap*t.width:=qQ _ hroom;rw[kG]at hmulr;have hr:=run_append_room' (P:=C.P) (w:=w) T oT e i hE.und hi b off l1.length cap arr e1 hb ⟨b2,off2,none⟩ l2.length cap2 news (by rw[hs];exact hnl) hnc hn1 hroom (by rw[hs,hnl];omega)
   rw[hs]at hr;have hbs:off+l1.length*t.width+news.length<=arr.toList.length:=by rw[hnl];simp;omega
   generalize hw1:w.setRow b (splice arr.toList (off+l1.length*t.width) news).toArray=w1 at hr;have hb1:w1.heap[b]?=some (.cells (splice arr.toList (off+l1.length*t.width) news).toArray e1 (0,0)):=by rw[<- hw1];exact setRow_heap w b _ _ e1 _ hb
   have hoth:∀x,x≠b->w1.heap[x]?=w.heap[x]?:=fun x hx=>by rw[<- hw1];exact setRow_other w b x _ hx
   have hasz:(splice arr.toList (off+l1.length*t.width) news).toArray.size=arr.size:=by rw[jX,zfD _ _ _ hbs];simp
   have hkeepr:∀k,k<off+l1.length*t.width->(splice arr.toList (off+l1.length*t.width) news).toArray[k]?=arr[k]?:=by
    intro k hk;rw[jB,zc2 _ _ _ hbs k (.inl hk)];simp
   have hRows:Rows true w t l1 arr off b V1 K1 S1:=⟨hsub1,hdis1,hvv1,hcc1⟩;obtain ⟨k1,_⟩:=Rep.behind (w1:=w1) hlen1 hcap1 hsz1 hS1 hRows hb hb1 hasz hkeepr hoth;refine ⟨_,w1,b,off,cap,hr,by rw[hapl],?_,by rw[<- hw1];rfl,by rw[<- hw1];rfl,by rw[<- hw1];rfl,.inr ⟨off,cap,rfl,hS1,by rw[<- hw1];simp,hoth,k1⟩⟩
   refine Rep.join (arr:=(splice arr.toList (off+l1.length*t.width) news).toArray) (e:=e1) (V1:=V1) (V2:=V2) (K1:=fun _ _ _=>False) (K2:=fun _ _ _=>False) hb1 (by simp only[big];omega) hroom (by rw[hasz];exact hsz1) rfl ?_ ?_ ?_ (hcc2' w1) (fun _ _ _ _ _ h=>h.elim) (fun _ _ _ _ _ h=>h.elim) (fun _ _ _ _ _ _ _ _ _ h=>h.elim) (fun _ _ _ _ _ _ _ _ _ h=>h.elim) (fun _ _ _ _ _ _ _ _ _ h=>h.elim)
   .intro i j hi hj;have:=hrow1 i j hi hj;rw[hkeepr _ (by omega)]
    exact hvv1 i j hi hj
   .intro i j hi hj;have:=hrow2 i j hi hj;rw[jB,kG,zda _ _ _ hbs _ (by omega) (by rw[hnl];omega),<- hnv i j hi hj]
    congr 1
    omega
   .intro i x hx j c hcj;exact (hcc1 i x hx j c hcj).flat (zo2 hf hcj)
  .generalize holds:(arr.toList.drop off).take (l1.length*t.width)=olds;have hol:olds.length=l1.length*t.width:=by rw[<- holds];simp;omega
   have hoat:∀k,k<l1.length*t.width->olds[k]?=arr[off+k]?:=by
    intro k hk;rw[<- holds,jE,if_pos hk,jI];simp
   have hr:=run_append_grow (P:=C.P) w T oT e i z hE.und hi hz ⟨b,off,none⟩ l1.length cap olds (by rw[hs];exact hol) (fun j u hu=>by
    have hj:j<l1.length*t.width:=by rw[<- hol];exact (qA.1 hu).1
    rw[add_lit,cell_of_block hb,<- hoat j hj];exact hu) ⟨b2,off2,none⟩ l2.length cap2 news (by rw[hs];exact hnl) hnc (by omega) (by omega) (growslice_fits (by omega) hbytes)
   have hge:=grownCap_ge w (l1.length+l2.length) cap e;refine grown olds _ V1 _ hol hge (by rw[size_zeroCells,hzsz]) (fun i j hi hj=>?_) (fun i x hx j c hcj=>⟨_,hcc1 i x hx j c hcj⟩) hr
   have:(i+1)*t.width<=l1.length*t.width:=qQ _ hi;rw[jF] at this;rw[hoat _ (by omega),<- kP]
   exact hvv1 i j hi hj
end
section
variable {C:Cfg} {w0 w w1:World} {S0:zJ} {U:Nat->Prop} {st st1 st':St} {E E1:Env} {ts:Array Value} {sv:List (Array Value)}
def Late (w0:World)(st:St)(E:Env)(x:App)(v:Value)(w:World):Prop :=
 ∃(n0 bv offv cap:Nat) (R:Root),w0.heap.size<=n0/\(∀q Q,st.root q=some Q->∀y,E.φ q y->y<n0)/\(∀l cs,zh st.lo l=some cs->E.β l<n0) /\
  v = .slice (some ⟨bv,offv,none⟩) x.l.length cap/\Rep true w v (.s x.t x.l) (fun y=>y=bv)/\st.root x.r=some R /\
  (n0<=bv\/∃off1 len1 cap1,zF w R.t (E.ρ x.r) x.p=some (.slice (some ⟨bv,off1,none⟩) len1 cap1))
theorem Late.states {x:App}{v:Value}(h:Late w0 st E x v w)(hr:∀n,st'.root n=st.root n)(hl:∀n,zh st'.lo n=zh st.lo n):Late w0 st' E x v w:=by
 obtain ⟨n0,bv,offv,cap,R,h1,h2,h3,h4,h5,h6,h7⟩:=h;exact ⟨n0,bv,offv,cap,R,h1,fun q Q hq=>h2 q Q (by rw[<- hr];exact hq),fun l cs hq=>h3 l cs (by rw[<- hl];exact hq),h4,h5,by rw[hr];exact h6,h7⟩
theorem zxU {r:Nat}(a:At):zbT r [] a=a:=by
 cases a<;>simp [zbT,coarse]
theorem zxV {r:Nat}(m:MV):zdT r [] m=m:=by
 have h:zbT r []=id:=funext fun a=>zxU a;have hT:∀x,zij r [] x=x:=fun x=>by cases x<;>simp [zij,h]
 have hT':zij r []=id:=funext hT;cases m<;>simp [zdT,hT,hT']
theorem zOJ (h:Dead st){n:Nat}{R:Root}(hR:st.root n=some R):R.ep=none:=by
 obtain ⟨h1,h2⟩:=zbb hR;rcases h2 with h2|h2
 .exact h2
 .have:=h n R _ h1 h2;omega
theorem zO4 {v:Value}{t:Ty}{l:List t.den}{S:zJ}{b off n cap:Nat}(h:Rep true w v (.s t l) S)(hv:v = .slice (some ⟨b,off,none⟩) n cap):b<w.heap.size/\S b:=by
 cases h with
 | nil=>cases hv
 | void _ _ _ ho=>cases ho
 | sl _ _ b4 _ _ _ _ _ _ _ _ hb4 _ _ _ _ hS4 =>
  cases hv;exact ⟨(qR.1 hb4).1,hS4⟩
theorem zQi (hC:CfgOk C)(hS:Sim w0 S0 U st E ts sv w)(hd:Dead st){o:Oper}{x:App}(h:zlo C st o=some (true,x)) :
 o.guard=none/\o.dst=some x.dst/\∃(v:Value) (w':World),(execOp ({ tmps:=ts,defers:=[] }:Act).eval o).run C.P w = .ok (.value v) w' /\
  Sim w0 S0 U (st.put o.dst (.v (.at .bad))) E (({ tmps:=ts,defers:=[] }:Act).put o.dst v).tmps sv w'/\Late w0 st E x v w':=by
 unfold zlo at h;split at h
 .rename_i c d ho hdst hgu;split at h
  .rename_i hcb;split at h
   .rename_i a0 y0 T T2 hca hct;split at h
    .rename_i hTT;subst hTT;split at h
     .rename_i t r a p r2 p2 hT h1 h2;split at h
      .rename_i R cv1 cv2 hR hn1 hn2;split at h
       .rename_i hcond;simp only[qD,qZ,beq_eq_false_iff_ne]at hcond;obtain ⟨⟨hown,hfl⟩,hne⟩:=hcond;split at h
        .rename_i m t2 y2 l2' hm;simp only[qC,jJ]at h;obtain ⟨hfew,rfl⟩:=h;refine ⟨hgu,hdst,?_⟩;obtain ⟨l1,l2,e1,e2,rfl⟩:=zsP hm;subst e1;have hl2:l2≠[]:=by
          intro e;subst e;cases e2
         rw[e2]at hn2
         clear e2
         generalize hp0:a :: p=pp at h1 hn1;have hM:=hS.mem;obtain ⟨hx,_⟩:=zbf hS h1;obtain ⟨hy,_⟩:=zbf hS h2;have hh:=hx.2 R hR;have hrepR:=hM.rep r R hR;rw[hown]at hrepR;obtain ⟨t',l0,S1,f1,f2,f3,f4,f5⟩:=Rep.focus pp hrepR hh;have hg1:ze7 R.t R.l pp=some (.s t l1):=by
          obtain ⟨R',hR',hg'⟩:=zeG hn1;rw[hR]at hR';cases hR';exact hg'
         rw[hg1] at f1;cases f1;obtain ⟨R2,S2,hR2,g1,g2,g3,g4⟩:=zoN hS hy hn2;obtain ⟨v,w',bv,offv,cap,hrun,hv,hrep,hos,htp,hout,hcase⟩:=zS1 hC hT hfl f3 g3.ro hl2 hfew o.type;have hca':c.args = #[a0,y0]:=by rw[<- hca]
         have hct':c.argTypes = #[T2,T2]:=by rw[<- hct]
         have hexec:(execOp ({ tmps:=ts,defers:=[] }:Act).eval o).run C.P w = .ok (.value v) w':=by
          simp[execOp,ho,resolve,hcb,invoke,builtin,hca',hct',hrun]
         have hβ:∀l cs,zh st.lo l=some cs->E.β l<w.heap.size:=by
          intro l cs h;obtain ⟨_,vals,e,h2,_⟩:=hM.loc l cs h;exact (qR.1 h2).1
         rcases hcase with ⟨hbv,hsz,hsame⟩|⟨off1,cap1,hv1,hS1b,hsz,hoth,hrep1⟩
         .obtain ⟨hM',hT'⟩:=hM.addRoots hS.ids.mem (dro:=[]) (w1:=w') (E1:=E) hos htp hout (by omega) hsame (fun q Q hq=>by cases hq) (fun q Q _ _ hq=>by cases hq) (fun _ _=>⟨rfl,rfl,rfl⟩)
          refine ⟨v,w',hexec,Sim.next hS (st1:=st) hM' hT' rfl rfl (fun _ h=>h) hS.ids.ro hS.ids.lo trivial (fun n hn=>by simp[MV.ids,zbd,zA,At.ids,zS,zX]at hn),?_⟩
          exact ⟨w.heap.size,bv,offv,cap,R,hM.size,fun q Q hq y hy=>hM.rlt q Q hq y hy,hβ,hv,hrep,hR,.inl (by omega)⟩
         .obtain ⟨m,hm1,hrm,hh1,hh2⟩:=f5 w' l1 S1 (fun z _ hnz=>hoth z (fun e=>hnz (e ▸ hS1b))) (fun _ h _=>h) hrep1;have hmR:=zFl pp hg1 m hm1;subst hmR;obtain ⟨_,_,_,_,fwp⟩:=f5 w l1 S1 (fun _ _ _=>rfl) (fun _ h _=>h) f3;have hhdr:∀q u,zF w R.t (E.ρ r) q=some u->zF w' R.t (E.ρ r) q=some u:=by
           intro q u hq;refine hh1 q u hq (fun q' he=>?_);subst he;rw[fwp]at hq;exact zP8 hfl q' _ _ hq
          have hsim:=zxl (w1:=w') (m:=R.l) (js:=[]) (S3:=E.φ r) hS hR hown hos htp hout (by omega) (fun z hz hnz=>hoth z (fun e=>hnz (f4 z (e ▸ hS1b)))) (fun z hz=>⟨.inl hz,by have:=hM.rlt r R hR z hz;omega⟩) (hrm.weak fun z hz=>by
           rcases hz with ⟨h,_⟩|h
           .exact h
           .exact f4 z h) (fun q u hq _=>hhdr q u hq)
          have hE:({ E with φ:=fun n=>if n=r then E.φ r else E.φ n }:Env)=E:=by
           have:(fun n=>if n=r then E.φ r else E.φ n)=E.φ:=by
            funext n
            split
            .rename_i e;rw[e]
            .rfl
           rw[this]
          rw[hE]at hsim;have hS':Sim w0 S0 U st E ts sv w':=by
           refine hsim.fewer (fun t=>?_) (fun n=>?_) ?_ (fun n Q hQ=>?_) (fun n Q hQ=>?_) (fun n Q e hQ he=>hM.epo n Q e hQ he)
           .simp only [zfN,qM];cases st.tm[t]? <;> simp [zxV]
           .simp only [zfN];rw[zg7];have:zbT r []=id:=funext fun a=>zxU a;cases zh st.lo n<;>simp [this]
           .simp only [zfN];have:zdT r []=id:=funext fun a=>zxV a;simp[this]
           .have he:=zOJ hd hQ;obtain ⟨q1,_⟩:=zbb hQ;refine zf4 ?_ (.inl he);simp only[zfN,zh];split
            .rename_i hb;simp only[qI]at hb;subst hb;rw[hR]at hQ;cases hQ;rfl
            .exact q1
           .simp only [zfN,zh];split
            .exact ⟨_,rfl⟩
            .exact ⟨Q,hQ⟩
          refine ⟨v,w',hexec,hS'.putV trivial (fun n hn=>by simp[MV.ids,zbd,zA,At.ids,zS,zX]at hn),?_⟩
          refine ⟨w.heap.size,bv,offv,cap,R,hM.size,fun q Q hq y hy=>hM.rlt q Q hq y hy,hβ,hv,hrep,hR,.inr ⟨off1,l1.length,cap1,?_⟩⟩;refine hhdr pp _ ?_;rw[hh,hv1]
        .cases h
       .cases h
      .cases h
     .cases h
    .cases h
   .cases h
  .cases h
 .cases h
theorem zMI (hC:CfgOk C)(hS:Sim w0 S0 U st E ts sv w){o:Oper}{id:Nat}{x:App}{v:Value}{st2:St}(hL:Late w0 st E x v w)(hv0:ts[x.dst]?=some v)(h:zux C st o x=some (true,st2)) :
 o.guard=none/\Goes C w0 S0 U st ts sv w o id (fun _=>st2.put o.dst .und)/\st2.nid=st.nid:=by
 unfold zux at h;split at h
 .rename_i T a d ho hgu;split at h
  .rename_i t1 r p i off hT ha;split at h
   .rename_i R t l c hRr hn hsp;split at h
    .rename_i hcond;simp only[qD,qX,Nat.beq_eq_true_eq]at hcond;obtain ⟨⟨⟨hown,hdd⟩,hrr⟩,hfit⟩:=hcond;have hdd:=jO hdd;have hrr:=jO hrr;subst hdd hrr;split at h
     .rename_i l' hset;split at h
      .rename_i m hput;simp only[qC,jJ]at h;obtain ⟨rfl,rfl⟩:=h;refine ⟨hgu,?_,rfl⟩;have hpp:=zmO hsp;obtain ⟨n0,bv,offv,capv,R',hn0,hrn,hln,hve,hvrep,hR',hwhere⟩:=hL;rw[hRr]at hR';cases hR';obtain ⟨hav,hai⟩:=zbf hS ha;obtain ⟨b,o2,len,cap,t1',e1,e2,e3,e4,e5⟩:=hav.2 R hRr;have hM:=hS.mem;have hrep:=hM.rep _ R hRr;rw[hown]at hrep;obtain ⟨t',l0,S1,f1,f2,f3,f4,f5⟩:=Rep.focus p hrep e1;have hg1:ze7 R.t R.l p=some (.s t l):=by
        obtain ⟨R',hR',hg'⟩:=zeG hn;rw[hRr]at hR';cases hR';exact hg'
       rw[hg1] at f1;cases f1;rw[e2] at f2;cases f2;obtain ⟨_,_,_,_,fwp⟩:=f5 w l S1 (fun _ _ _=>rfl) (fun _ h _=>h) f3;cases f3 with
       | void _ _ _ ho=>cases ho
       | sl _ _ _ _ _ arr e' fz V K _ hb hfz hlen1 hcap hsz hS' hsub hdis hvv hcc =>
       have hfz':=hfz rfl;subst hfz';have hRows:Rows true w t l arr o2 b V K S1:=⟨hsub,hdis,hvv,hcc⟩;have hone:v.oneCell'=true:=by rw[hve];rfl
       have hcells:v.cells = #[v]:=cells_one hone;have hfit':off+[v].length<=t.width:=by simp;omega
       have hrow:(i.toNat+1)*t.width<=cap*t.width:=qQ _ (by omega)
       rw[jF]at hrow;have hrun:=zoD (w:=w) (v:=v) (off:=o2+i.toNat*t.width+off) (hC.cty T false [.s t1] hT) hb (by rw[hcells];rfl) (by simp;omega) (by rw[hcells];intro u hu;simp at hu;rw[hu];exact hone)
       rw[hcells]at hrun;have hl1:(#[v]:Array Value).toList=[v]:=rfl;rw[hl1]at hrun;generalize hw1:w.setRow b (splice arr.toList (o2+i.toNat*t.width+off) [v]).toArray=w1 at hrun;have hb1:w1.heap[b]?=some (.cells (splice arr.toList (o2+i.toNat*t.width+off) [v]).toArray e' (0,0)):=by rw[<- hw1];exact setRow_heap w b _ _ e' _ hb
       have hoth:∀y,y≠b->w1.heap[y]?=w.heap[y]?:=fun y hy=>by rw[<- hw1];exact setRow_other w b y _ hy
       have hrb:E.φ x.r b:=f4 b hS';have hbn:b<n0:=hrn _ R hRr b hrb;have hold:∀i' j,i'<l.length->j<t.width->¬ Hit i.toNat off [v].length i' j->∀y,K i' j y->w1.heap[y]?=w.heap[y]?:=fun i' j hi' hj _ y hy=>hoth y ((hsub i' j y hi' hj hy).2 rfl)
       have hbv:n0<=bv\/K i.toNat off bv:=by
        rcases hwhere with h|⟨off1,len1,cap1,h⟩
        .exact .inl h
        .right
         rw[<- hpp,fwp]at h;simp only[zF]at h;rw[if_pos ⟨e3,e4⟩]at h;split at h
         .rename_i t3 hsh;rw[cell_of_block hb,hvv i.toNat off e4 hfit]at h;simp only[qC]at h;obtain ⟨c,hc,hct⟩:=zss (x:=ix l i t.dflt) hsh;obtain ⟨l3,rfl⟩:=zhT hct;have hr3:=hcc i.toNat _ (zh8 e4) off _ hc;rw[h]at hr3;cases hr3 with
          | void _ _ _ ho=>cases ho
          | sl _ _ _ _ _ _ _ _ _ _ _ _ _ _ _ _ hS3=>exact hS3
         .cases h
       have hbvb:bv≠b:=by
        rcases hbv with h|h
        .omega
        .exact (hsub _ _ bv e4 hfit h).2 rfl
       have hset1:=Rep.setCells (w:=w) (w1:=w1) (us:=[v]) (Kn:=fun _ y=>y=bv) hlen1 hcap hsz hRows e4 rfl hfit' hset hb1 (fun k c u hc hu=>by
        cases k with
        | zero =>
         simp only[qF,qC]at hc hu;subst hc hu;exact hvrep.frame (fun y hy=>hoth y (by rw[hy];exact hbvb))
        | succ k=>simp at hc)
        hold
        (fun k y _ hy=>by rw[hy];exact hbvb)
        (fun k k' y hk hk' _ _=>by simp at hk hk';omega)
        (fun k y i' j hk hy hi' hj hnh hy'=>by
         subst hy;rcases hbv with h|h
         .have:=hrn _ R hRr y (f4 y (hsub i' j y hi' hj hy').1);omega
         .have:=hdis rfl _ _ _ _ y e4 hfit hi' hj h hy';exact hnh ⟨this.1.symm,by omega,by simp;omega⟩)
       have hS2:∀y,(y=b\/(∃i' j,i'<l.length/\j<t.width/\¬ Hit i.toNat off [v].length i' j/\K i' j y)\/∃k,k<[v].length/\y=bv)->S1 y\/(n0<=y/\y=bv):=by
        intro y hy;rcases hy with rfl|⟨i',j,hi',hj,_,hk⟩|⟨k,hk,rfl⟩
        .exact .inl hS'
        .exact .inl (hsub i' j y hi' hj hk).1
        .rcases hbv with h|h
         .exact .inr ⟨h,rfl⟩
         .exact .inl (hsub _ _ _ e4 hfit h).1
       obtain ⟨m',hm',hrm,hh1,hh2⟩:=f5 w1 l' _ (fun y hy hny=>hoth y (fun e=>hny (e ▸ hS'))) (fun y hy hy'=>by
        rcases hS2 y hy with h|⟨h,_⟩
        .exact h
        .have:=hrn _ R hRr y hy';omega) hset1
       rw[hput]at hm';cases hm';have hsz1:w1.heap.size=w.heap.size:=by rw[<- hw1];simp
       have hbvlt:bv<w.heap.size:=(zO4 hvrep hve).1;have hsim:=zus (w1:=w1) (m:=m) (js:=[cols p++[off]]) hn0 hrn hln hS hRr hown (by rw[<- hw1];rfl) (by rw[<- hw1];rfl) (by rw[<- hw1];rfl) (by omega) (fun y _ hny=>hoth y (fun e=>hny (e ▸ hrb))) (fun y hy=>by
        rcases hy with ⟨hy,_⟩|hy
        .exact ⟨.inl hy,by have:=hM.rlt _ R hRr y hy;omega⟩
        .rcases hS2 y hy with h|⟨h,rfl⟩
         .exact ⟨.inl (f4 y h),by have:=hM.rlt _ R hRr y (f4 y h);omega⟩
         .exact ⟨.inr h,by omega⟩) hrm (fun q u hq hns=>by
        rcases zr9 p q with ⟨q',rfl⟩|hnp
        .rw [hh2 q'];rw[fwp q']at hq;refine zn7 (us:=[v]) hcap hsz hRows hb e4 rfl hfit' hset hb1 hold q' (fun i' j q'' he k c hj hck=>?_) hoth hq;subst he hj;cases k with
         | succ k=>simp at hck
         | zero =>
          exfalso;have h9:=kM.1 hns (cols p++[off]) (by simp)
          exact absurd (zpK p i' off q'') h9
        .exact hh1 q u hq (fun q' he=>absurd ⟨q',he⟩ hnp))
       have hput2:=hsim.putV (dst:=o.dst) (m:=.und) (v:=undef) rfl (fun n hn=>by simp[MV.ids,zbd]at hn)
       refine zt8 (w':=w1) ?_ ⟨hput2.mem,⟨fun n R hn=>.inl (hput2.ids.ro n R hn),fun n cs hn=>⟨.inl (hput2.ids.lo n cs hn).1,fun a ha m hm=>.inl ((hput2.ids.lo n cs hn).2 a ha m hm)⟩,fun m hm n hn=>.inl (hput2.ids.tm m hm n hn),fun f hf m hm n hn=>.inl (hput2.ids.stk f hf m hm n hn)⟩,hput2.tm,hput2.stk⟩;have hev:({ tmps:=ts,defers:=[] }:Act).eval (.tmp x.dst)=v:=by simp[Act.eval,hv0]
       simp[execOp,ho,Instr.storeAt,e5,Instr.sureAddr,hev,hrun]
      .cases h
     .cases h
    .cases h
   .cases h
  .cases h
 .cases h
end
section
variable {C:Cfg} {w0 w w1:World} {S0:zJ} {U:Nat->Prop} {st st1:St} {E E1:Env} {ts:Array Value} {sv:List (Array Value)}
variable {ops:Array Oper} {b:Bool} {base:Nat} {cl:List (List Nat)} {ss:List Step} {st0:St}
theorem zAL {w w':World}(h:w'.heap=w.heap):∀(p:List (Int×Nat)) (t:Ty) (v:Value),zF w' t v p=zF w t v p
 | [],t,v=>by simp only[zF]
 | (i,j) :: p,t,v=>by
  have hc:∀a,w'.cell? a=w.cell? a:=fun a=>by simp only[World.cell?,h]
  have ih:=zAL h p;cases v with
  | slice a len cap=>cases a<;>simp only [zF,hc,ih]
  | _=>simp only[zF]
theorem Sim.heap (hS:Sim w0 S0 U st E ts sv w){w':World}(h1:w'.heap=w.heap)(h2:w'.os=w.os)(h3:w'.tape=w.tape)(h4:w'.output=w.output):Sim w0 S0 U st E ts sv w':=by
 have T:Trans st E w st E w' (fun _=>True):=⟨fun r _ R h=>⟨R,h,rfl,fun p u hu=>by rw[zAL h1];exact hu⟩,fun l _ cs h=>⟨⟨cs,h⟩,rfl⟩,rfl⟩
 have hM:=hS.mem;refine ⟨⟨by rw[h2];exact hM.os,by rw[h3];exact hM.tape,by rw[h4];exact hM.output,by rw[h1];exact hM.size,fun b hb hn=>by rw[h1];exact hM.keep b hb hn,
  fun r R h=>(hM.rep r R h).frame (fun x _=>by rw[h1]),fun r R h x hx=>by rw[h1];exact hM.rlt r R h x hx,hM.mine,hM.apart,fun l cs hl=>?_,hM.linj,hM.lro,hM.epo,hM.κ⟩,hS.ids,
  Slots.tr T (fun _ _ _ _=>trivial) hS.tm,Stack.tr T (fun _ _ _ _ _ _=>trivial) hS.stk⟩
 obtain ⟨g1,vals,e,g2,g3,g4⟩:=hM.loc l cs hl;exact ⟨g1,vals,e,by rw[h1];exact g2,g3,fun j c u hc hu=>⟨(g4 j c u hc hu).1,VA.tr T (fun _ _=>trivial) (g4 j c u hc hu).2⟩⟩
theorem Sim.blind (hS:Sim w0 S0 U st E ts sv w)(c:Bool)(n:Nat):Sim w0 S0 U { st with nid:=n,ep:=if c then st.ep+1 else st.ep } E ts sv w:=by
 have h:=hS.nid n;cases c with
 | false=>exact h
 | true =>
  refine h.fewer (fun _=>rfl) (fun _=>rfl) rfl (fun r R hR=>?_) (fun r R hR=>⟨R,hR⟩) (fun r R e hR he=>?_)
  .obtain ⟨g1,g2⟩:=zbb hR;have hn:R.ep=none:=by
    rcases g2 with g2|g2
    .exact g2
    .have:=hS.mem.epo r R _ g1 g2;simp only[if_true] at this;omega
   show St.root { st with nid:=n } r=some R
   unfold St.root;have g3:zh ({ st with nid:=n }:St).ro r=some R:=g1;rw[g3];simp only[hn]
  .have:=hS.mem.epo r R e hR he
   show e<=st.ep+1
   omega
theorem cnt_lt {p q:Nat->Bool}:∀(l:List Nat),(∀x∈l,q x=true->p x=true)->(∃x∈l,p x=true/\q x=false)->l.countP q<l.countP p
 | [],_,h=>by obtain ⟨x,hx,_⟩:=h;cases hx
 | a :: l,h1,h2=>by
  have hle:∀(m:List Nat),(∀x∈m,q x=true->p x=true)->m.countP q<=m.countP p:=fun m hm=>List.countP_mono_left hm;have hm:=hle l (fun x hx=>h1 x (by simp[hx]))
  simp only[List.countP_cons];cases hq:q a with
  | true =>
   rw[h1 a (by simp) hq]
   have:l.countP q<l.countP p:=cnt_lt l (fun x hx=>h1 x (by simp[hx])) (by
    obtain ⟨x,hx,g1,g2⟩:=h2;rcases qH.1 hx with rfl|hx
    .rw [hq] at g2;cases g2
    .exact ⟨x,hx,g1,g2⟩)
   simp only[if_true];omega
  | false =>
   cases hp:p a with
   | true=>simp;omega
   | false =>
    have:l.countP q<l.countP p:=cnt_lt l (fun x hx=>h1 x (by simp[hx])) (by
     obtain ⟨x,hx,g1,g2⟩:=h2;rcases qH.1 hx with rfl|hx
     .rw [hp] at g1;cases g1
     .exact ⟨x,hx,g1,g2⟩)
    simp;omega
def left (n:Nat)(listed:Array Bool):Nat:=(List.range n).countP fun i=>!listed.getD i true
theorem zy7 {listed:Array Bool}{n i:Nat}(hi:i<n)(hl:listed.getD i true=false):left n (listed.setIfInBounds i true)<left n listed:=by
 unfold left;have hlt:i<listed.size:=by
  rcases uG i listed.size with h|h
  .exact h
  .simp [uB h]at hl
 refine cnt_lt _ (fun x _ hx=>?_) ⟨i,j8.2 hi,by rw[hl];rfl,by simp[hlt]⟩
 by_cases hxi:i=x
 .subst hxi;simp[hlt]at hx
 .rwa [getD_set_ne true hxi]at hx
theorem zxb {C:Cfg}{st:St}{o:Oper}{id:Nat}{d:Dl}(hp:zgE o=true)(h:zhe C st o id=some d):delta C st o id=some d:=by
 unfold zhe at h;cases hd:delta C st o id with
 | some d'=>rw[hd]at h;exact h
 | none =>
  rw[hd]at h;exfalso;have h:ziN C st o id=some d:=h;have hn:zi4 C o=none:=by
   unfold zgE at hp;unfold zi4;cases hop:o.op with
   | call c=>rw[hop]at hp;simp at hp
   | _=>rfl
  unfold ziN at h;rw[hn]at h;cases h
structure Waits (md:Region.Mode) (ops:Array Oper) (cl:List (List Nat)):Prop where
 at':∀i,i<ops.size->cl.getD i []=waits ops (cl.take i) i
 lt:∀i,i<ops.size->∀j∈cl.getD i [],j<i
 sub:∀e,Region.binds .any e=true->Region.binds md e=true
 rk:∃rk:Nat->Nat,∀(i:Nat) (o:Oper),ops[i]?=some o->∀e∈o.after,Region.binds md e=true->e.on<ops.size/\rk e.on<rk i
variable {md:Region.Mode}
theorem zSD (hat:∀i,i<ops.size->cl.getD i []=waits ops (cl.take i) i){i:Nat}{o:Oper}(ho:ops[i]?=some o){e:Edge}(he:e∈o.after)(hb:Region.binds .any e=true):e.on∈cl.getD i []:=by
 have hi:=(qR.1 ho).1;rw[hat i hi];simp only[waits,ho];exact zCk (by simpa using he) hb
theorem zGu {l:List (List Nat)}{i j k:Nat}(h:k∈(l.take i).getD j []):k∈l.getD j []:=by
 rw[kB,jE]at h;rw[kB];split at h
 .exact h
 .simp at h
theorem Waits.inv (W:Waits md ops cl){i j:Nat}{o:Oper}(ho:ops[i]?=some o)(hj:j∈cl.getD i []):∃e∈o.after,Region.binds .any e=true/\(j=e.on\/j∈cl.getD e.on []):=by
 have hi:=(qR.1 ho).1;rw[W.at' i hi]at hj;simp only[waits,ho]at hj;obtain ⟨e,he,hb,h⟩:=zCl hj;exact ⟨e,by simpa using he,hb,h.imp id zGu⟩
def XL (listed:Array Bool)(k:Nat):Bool:=listed.getD k false
theorem zxt (W:Waits md ops cl){listed:Array Bool}(hX:ze9 cl (XL listed)){i:Nat}(hi:i∈Region.ready md ops listed):∀j∈cl.getD i [],XL listed j=true:=by
 obtain ⟨_,o,ho,hall⟩:=mem_ready.1 hi;intro j hj;obtain ⟨e,he,hb,h|h⟩:=W.inv ho hj
 .subst h;exact hall e he (W.sub e hb)
 .exact hX _ (hall e he (W.sub e hb)) j h
theorem least {p:Nat->Prop}:∀n,p n->∃m,m<=n/\p m/\∀j,j<m->¬ p j:=by
 intro n
 induction n using Nat.strongRecOn with
 | _ n ih =>
  intro hp
  by_cases h:∃j,j<n/\p j
  .obtain ⟨j,h1,h2⟩:=h;obtain ⟨m,g1,g2,g3⟩:=ih j h1 h2;exact ⟨m,by omega,g2,g3⟩
  .exact ⟨n,qV _,hp,fun j hj hpj=>h ⟨j,hj,hpj⟩⟩
theorem zBP (W:Waits md ops cl){listed:Array Bool}(hsz:listed.size=ops.size){i0:Nat}(hi0:i0<ops.size)(hl0:listed.getD i0 true=false):∃i,i∈Region.ready md ops listed:=by
 obtain ⟨rk,hrk⟩:=W.rk;obtain ⟨n,_,⟨i,hi,hl,hn⟩,hmin⟩:=least (p:=fun n=>∃i,i<ops.size/\listed.getD i true=false/\rk i=n) (rk i0) ⟨i0,hi0,hl0,rfl⟩;refine ⟨i,mem_ready.2 ⟨hl,ops[i],by simp[hi],fun e he hb=>?_⟩⟩
 obtain ⟨h1,h2⟩:=hrk i ops[i] (by simp[hi]) e he hb
 cases h:listed.getD e.on false with
 | true=>rfl
 | false =>
  exfalso;refine hmin (rk e.on) (by omega) ⟨e.on,h1,?_,rfl⟩
  have hlt:e.on<listed.size:=by omega
  simp only[Array.getD,hlt,dif_pos]at h ⊢;exact h
theorem zm1 {listed:Array Bool}{i:Nat}(hi:i<listed.size):XL listed i=listed.getD i true:=by
 simp[XL,hi]
theorem zAm {listed:Array Bool}{i:Nat}(hi:i<listed.size)(k:Nat):XL (listed.setIfInBounds i true) k=(XL listed k||k==i):=by
 unfold XL
 by_cases h:i=k
 .subst h;simp[hi]
 .rw [getD_set_ne false h];have:(k==i)=false:=by simp;omega
  rw[this,k0]
theorem zNx {P:Program}{Q Q':Exit->Act->World->Prop}(hQ:∀e,e≠.normal->∀a w,Q' e a w->Q e a w){i:Nat}{K:Act->World->Prop}{a:Act}{w:World}(h:wpOp P ops Q' i K a w):wpOp P ops Q i K a w:=by
 have hlo:LetsOut Q'->LetsOut Q:=by
  rintro ⟨a,w,h⟩
  exact ⟨a,w,hQ _ (by simp) a w h⟩
 unfold wpOp at h ⊢;split
 .rename_i hn;rw[hn]at h;exact h
 .rename_i o ho;simp only[ho]at h;split
  .rename_i hw;rw[if_pos hw]at h;rcases h with h|⟨h1,h2⟩
   .left
    unfold Oper.wp at *;generalize (execOp a.eval o).run P w=r at *;cases r with
    | ok n w' =>
     cases n<;>simp only [Oper.upon]at h ⊢ <;>
      first
       | exact h
       | exact h.mono (fun e w'' he=>by
        cases e with
        | returned v=>exact he
        | panicked c=>exact hQ _ (by simp) _ _ he
        | outgrown=>exact hlo he)
    | halt x w' =>
     cases x<;>simp only [Oper.upon]at h ⊢ <;> first|exact hQ _ (by simp) _ _ h|exact h
   .exact .inr ⟨h1,hlo h2⟩
  .rename_i hw;rw[if_neg hw]at h;exact h
theorem zi2 (W:Waits md ops cl){listed:Array Bool}{m:Nat}(hsz:listed.size=ops.size)(hl:∀i,i<ops.size->listed.getD i true=decide (i<m)):ze9 cl (XL listed):=by
 intro k hk j hj;have hks:k<ops.size:=by
  rcases uG k listed.size with h|h
  .omega
  .simp [XL,uB h]at hk
 rw[zm1 (by omega),hl k hks]at hk
 simp at hk;have:=W.lt k hks j hj;rw[zm1 (by omega),hl j (by omega)]
 simp;omega
theorem zQp {P:Program}{Q:Exit->Act->World->Prop}{fuel:Nat}{listed:Array Bool}{a:Act}{w:World}(hl:∀i,i<ops.size->listed.getD i true=true)(h:Q .normal a w):wpAny P md ops Q fuel listed a w:=by
 have hr:Region.ready md ops listed=[]:=by
  refine List.eq_nil_iff_forall_not_mem.2 (fun i hi=>?_);obtain ⟨h0,o,ho,_⟩:=mem_ready.1 hi;have hi:=(qR.1 ho).1;rw[hl i hi]at h0;cases h0
 cases fuel with
 | zero=>exact ⟨hr,h⟩
 | succ fuel=>exact ⟨fun _=>h,fun i hi=>by rw[hr]at hi;cases hi⟩
theorem zLO (W:Waits md ops cl){P:Program}{Q:Exit->Act->World->Prop}{fuel m:Nat}{listed:Array Bool}{a:Act}{w:World}(hsz:listed.size=ops.size)(hm:m<ops.size)(hp:Pinned ops.size cl m)(hl:∀i,i<ops.size->listed.getD i true=decide (i<m))(hf:left ops.size listed<=fuel)(h:∀fl l',l'.size=ops.size->(∀i,i<ops.size->l'.getD i true=decide (i<m+1))->left ops.size l'<=fl->fuel=fl+1->l'=listed.setIfInBounds m true->wpOp P ops Q m (wpAny P md ops Q fl l') a w):wpAny P md ops Q fuel listed a w:=by
 have hu:listed.getD m true=false:=by rw[hl m hm];simp
 obtain ⟨i1,hmr⟩:=zBP W hsz hm hu;have hlt:=zy7 (listed:=listed) (n:=ops.size) (i:=m) hm hu;obtain ⟨fuel,rfl⟩:∃f,fuel=f+1:=⟨fuel-1,by omega⟩
 refine ⟨fun h=>(by rw[h]at hmr;cases hmr),fun i hi=>?_⟩
 obtain ⟨h0,o,ho,_⟩:=mem_ready.1 hi;have his:=(qR.1 ho).1;rw[hl i his]at h0;simp only[decide_eq_false_iff_not,Nat.not_lt]at h0;have hieq:i=m:=by
  by_cases hne:i=m
  .exact hne
  .exfalso;have:=zxt W (zi2 W hsz hl) hi m (hp.wait i (by omega) his)
   rw[zm1 (by omega),hu] at this
   cases this
 subst hieq;refine h fuel _ (by simp[hsz]) (fun k hk=>?_) (by omega) rfl rfl
 by_cases hik:i=k
 .subst hik;simp[hsz,his]
 .rw [getD_set_ne true hik,hl k hk]
  congr 1
  simp only[eq_iff_iff];omega
theorem zAn {a T:Nat}(W:Waits md ops cl)(hTs:T<=ops.size)(hpin:T<ops.size->Pinned ops.size cl T){P:Program}{Q:Exit->Act->World->Prop}{J:(Nat->Bool)->Env->Array Value->World->Prop}(hcongr:∀X Y E ts w,(∀k,a<=k->k<T->X k=Y k)->J X E ts w->J Y E ts w)(hstep:∀X Y i,ze9 cl X->a<=i->i<T->X i=false->(∀j∈cl.getD i [],X j=true)->(∀k,Y k=(X k||k==i))->∀E ts w,J X E ts w->∀K:Act->World->Prop,(∀E' ts' w',J Y E' ts' w'->K { tmps:=ts',defers:=[] } w')->wpOp P ops Q i K { tmps:=ts,defers:=[] } w)(htail:∀(fl:Nat) (l':Array Bool) (E':Env) (ts':Array Value) (w':World),l'.size=ops.size->(∀i,i<ops.size->l'.getD i true=decide (i<T))->left ops.size l'<=fl->J (fun _=>true) E' ts' w'->wpAny P md ops Q fl l' { tmps:=ts',defers:=[] } w') :
 ∀(fuel:Nat) (listed:Array Bool) (E:Env) (ts:Array Value) (w:World),listed.size=ops.size->ze9 cl (XL listed)->(∀i,i<a->XL listed i=true)->(∀m,T<=m->m<ops.size->XL listed m=false)->left ops.size listed<=fuel ->
  J (XL listed) E ts w->wpAny P md ops Q fuel listed { tmps:=ts,defers:=[] } w
 | fuel,listed,E,ts,w,hsz,hX,hbel,hlow,hf,hS=>by
  by_cases hall:∀i,i<T->XL listed i=true
  .have hl:∀i,i<ops.size->listed.getD i true=decide (i<T):=by
    intro i hi;rw[<- zm1 (by omega)]
    by_cases h:i<T
    .rw [hall i h];simp[h]
    .rw [hlow i (by omega) hi];simp[h]
   exact htail fuel listed E ts w hsz hl hf (hcongr _ _ E ts w (fun k _ hk=>hall k hk) hS)
  .have hex:∃i,i<T/\XL listed i=false:=by
    refine Classical.byContradiction (fun hn=>hall (fun i hi=>?_));cases h:XL listed i with
    | true=>rfl
    | false=>exact absurd ⟨i,hi,h⟩ hn
   obtain ⟨i0,hi0,hi0X⟩:=hex;have hu0:listed.getD i0 true=false:=by rw[<- zm1 (by omega)];exact hi0X
   obtain ⟨i1,hmr⟩:=zBP W hsz (by omega) hu0
   have hpos:0<left ops.size listed:=by
    have:=zy7 (listed:=listed) (n:=ops.size) (i:=i0) (by omega) hu0
    omega
   obtain ⟨fuel,rfl⟩:∃f,fuel=f+1:=⟨fuel-1,by omega⟩
   refine ⟨fun h=>(by rw[h]at hmr;cases hmr),fun i hi=>?_⟩
   obtain ⟨h0,o,ho,_⟩:=mem_ready.1 hi;have his:=(qR.1 ho).1;have hiX:XL listed i=false:=by rw[zm1 (by omega)];exact h0
   have hw:=zxt W hX hi;have hia:a<=i:=by
    refine Classical.byContradiction (fun hn=>?_);rw[hbel i (by omega)]at hiX
    cases hiX
   have hiT:i<T:=by
    refine Classical.byContradiction (fun hn=>?_);have hp:=hpin (by omega)
    by_cases hiT:i=T
    .subst hiT;have:=hw i0 (hp.full i0 hi0);rw[hi0X] at this;cases this
    .have:=hw T (hp.wait i (by omega) his)
     rw[hlow T (qV _) (by omega)] at this
     cases this
   refine hstep _ (XL (listed.setIfInBounds i true)) i hX hia hiT hiX hw (zAm (by omega)) E ts w hS _ (fun E' ts' w' hS'=>?_)
   refine zAn W hTs hpin hcongr hstep htail fuel (listed.setIfInBounds i true) E' ts' w' (by simp[hsz]) ?_ ?_ ?_ ?_ hS'
   .intro k hk j hj;rw[zAm (by omega)]at hk ⊢
    by_cases hki:k=i
    .subst hki;rw[hw j hj];rfl
    .have:(k==i)=false:=by simp[hki]
     rw[this,k0]at hk;rw[hX k hk j hj];rfl
   .intro k hk;rw[zAm (by omega),hbel k hk];rfl
   .intro m hm hms;rw[zAm (by omega),hlow m hm hms]
    simp;omega
   .have:=zy7 (listed:=listed) (n:=ops.size) his h0;omega
theorem zP9 (hC:CfgOk C)(hH:CtrOk C)(hG:GraftOk C){a T:Nat}(W:Waits md ops cl)(hT:a+ss.length=T)(hTs:T<=ops.size)(hpin:T<ops.size->Pinned ops.size cl T)(F:Free C ops cl b base a ss st0)(hb:b=false->∀k,a<=k->k<T->zgm C ops k=false)(hd:b=true->Dead st0/\0<st0.ep)(hM:∀k,a<=k->k<T->∀n,Mine (base+32*k) n->¬ U n){Q:Exit->Act->World->Prop}(htail:∀(fl:Nat) (l':Array Bool) (E':Env) (ts':Array Value) (w':World),l'.size=ops.size->(∀i,i<ops.size->l'.getD i true=decide (i<T))->left ops.size l'<=fl ->
 Sim w0 S0 (UX U base a T (fun _=>true)) (zO ops b (fun _=>true) a ss st0) E' ts' sv w'->wpAny C.P md ops Q fl l' { tmps:=ts',defers:=[] } w') :
 ∀(fuel:Nat) (listed:Array Bool) (E:Env) (ts:Array Value) (w:World),listed.size=ops.size->ze9 cl (XL listed)->(∀i,i<a->XL listed i=true)->(∀m,T<=m->m<ops.size->XL listed m=false)->left ops.size listed<=fuel ->
  Sim w0 S0 (UX U base a T (XL listed)) (zO ops b (XL listed) a ss st0) E ts sv w->wpAny C.P md ops Q fuel listed { tmps:=ts,defers:=[] } w :=
 zAn (J:=fun X E ts w=>Sim w0 S0 (UX U base a T X) (zO ops b X a ss st0) E ts sv w) W hTs hpin
  (fun X Y E ts w h hS=>by
   rw[zfJ ss a st0 (fun k h1 h2=>h k h1 (by omega))]at hS
   refine hS.uses ?_
   rintro n (h1|⟨k,h0,h1,h2,h3⟩)
   .exact .inl h1
   .exact .inr ⟨k,h0,h1,by rw[<- h k h0 h1];exact h2,h3⟩)
  (fun X Y i hX hia hi hXi hr hY E ts w hS K hK=>zt5 hC hH hG hT F hX hia hi hXi hr hb hd hM hY hS hK) htail
theorem get_put {st:St}{d:Nat}{m:MV}{κ:Key}(h:κ≠.tm d):(st.put (some d) m).get κ=st.get κ:=by
 cases κ with
 | tm t =>
  have:d≠t:=fun e=>h (by rw[e])
  simp[St.get,St.put,jD,this]
 | ro n=>rfl
 | lo n=>rfl
theorem zPo {st st':St}{o:Oper}(hep:st'.ep=st.ep)(htm:∀t∈zeZ o,st'.get (.tm t)=st.get (.tm t))(hro:∀n∈(zni st o).flatMap zS,st'.get (.ro n)=st.get (.ro n))(hlo:∀n∈(zni st o).flatMap zX,st'.get (.lo n)=st.get (.lo n)):Agree st st' o.op.operands.toList:=by
 refine ⟨hep,fun x hx=>?_,fun x hx m hm a ha=>?_⟩
 .cases x with
  | tmp t =>
   have ht:t∈zeZ o:=by
    unfold zeZ;exact kS.2 ⟨_,hx,rfl⟩
   simp only[St.opnd,zAH (htm t ht)]
  | _=>rfl
 .have hA:a∈zni st o:=by
   unfold zni;exact qN.2 ⟨m,kS.2 ⟨x,hx,hm⟩,ha⟩
  exact ⟨fun n hn=>zt6 (hro n (qN.2 ⟨a,hA,hn⟩)),fun n hn=>zAG (hlo n (qN.2 ⟨a,hA,hn⟩))⟩
theorem zKh {st st':St}{o:Oper}(h:Agree st st' o.op.operands.toList):zlo C st' o=zlo C st o:=by
 cases hop:o.op with
 | call c =>
  rw[hop]at h;have hp:∀x∈c.args.toList,x∈(Op.call c).operands.toList:=fun x hx=>by simp only[Op.operands,Call.operands,Array.toList_append,jQ];exact .inr hx
  simp only[zlo,hop];cases hd:o.dst with
  | none=>rfl
  | some d =>
   cases hg:o.guard with
   | some g=>rfl
   | none =>
    simp only;cases hcb:c.callee with
    | builtin b =>
     cases b with
     | append =>
      simp only;split
      .rename_i x y T T2 hca hct;have hx:=hp x (by rw[hca];simp)
       have hy:=hp y (by rw[hca];simp)
       rw[h.at hx,h.at hy];split
       .cases hT:C.sty T with
        | none=>rfl
        | some t =>
         cases e:st.at x with
         | none=>rfl
         | some a =>
          cases a with
          | sl r p =>
           cases p with
           | nil=>rfl
           | cons ij p =>
            cases e2:st.at y with
            | none=>rfl
            | some b =>
             cases b with
             | sl r2 p2=>simp only[h.root (zcE hx e),h.node (zcE hx e),h.node (zcE hy e2)]
             | _=>rfl
          | _=>rfl
       .rfl
      .rfl
     | _=>rfl
    | _=>rfl
 | _=>simp only[zlo,hop]
theorem znj (hC:CfgOk C)(hS:Sim w0 S0 U st E ts sv w){o:Oper}{id:Nat}{d:Dl}(hp:zgE o=true)(h:delta C st o id=some d)(hc:d.c=true):o.guard=none/\zm0 C U st E ts w o d:=by
 unfold zgE at hp;simp only[qD,j4]at hp;obtain ⟨hg,hp⟩:=hp;refine ⟨hg,?_⟩;cases hop:o.op
 case move x =>
  rw[hop]at hp;cases x with
  | tmp t =>
   simp only[delta,hop]at h;split at h
   .rename_i v hv;cases h;exact zOX hS (.inl hop) hv
   .cases h
  | _=>simp at hp
 case load T x=>exact zOW hC hS hop h
 case fieldAddr T x f=>exact zxq hC hS hop h
 case indexAddr T x y=>exact zxr hC hS hop h hc
 case nilCheck x=>exact zBN hS hop h
 all_goals (rw [hop]at hp;simp at hp)
theorem pure_run {o:Oper}{i:Nat}{d:Dl}{v:Value}{Q:Exit->Act->World->Prop}{K:Act->World->Prop}(ho:ops[i]?=some o)(hg:o.guard=none)(hr:(execOp ({ tmps:=ts,defers:=[] }:Act).eval o).run C.P w = .ok (.value v) w1)(h:K { tmps:=(({ tmps:=ts,defers:=[] }:Act).put o.dst v).tmps,defers:=[] } w1):wpOp C.P ops Q i K { tmps:=ts,defers:=[] } w:=by
 unfold wpOp;simp only[ho];rw[if_pos (by simp[Region.wanted,hg])]
 left
 unfold Oper.wp;rw[hr,Oper.upon_value,zfa];exact h
theorem zJo {d t:Nat}{v u:Value}(h:ts[t]?=some u)(hne:d≠t):(({ tmps:=ts,defers:=[] }:Act).put (some d) v).tmps[t]?=some u:=by
 simp[Act.put,uF hne,h]
theorem zQg (hC:CfgOk C)(hH:CtrOk C)(hG:GraftOk C){a A:Nat}(W:Waits md ops cl)(hA:a+ss.length=A)(hTs:A+1<=ops.size)(hpin:A+1<ops.size->Pinned ops.size cl (A+1))(F:Free C ops cl b base a ss st0)(hb:b=false->∀k,a<=k->k<A->zgm C ops k=false)(hbt:b=true)(hd:b=true->Dead st0/\0<st0.ep)(hM:∀k,a<=k->k<A->∀n,Mine (base+32*k) n->¬ U n){oA:Oper}{x:App}(hoA:ops[A]?=some oA)(hap:zlo C (zO ops b (fun _=>true) a ss st0) oA=some (true,x))(hlo:zqF ops cl a A=true)(hlen:x.dst<(zO ops b (fun _=>true) a ss st0).tm.length)(hfoot:∀i s o f,ss[i]?=some s->ops[a+i]?=some o->At1 C ops base (a+i) o (zO ops b (fun j=>decide (j<a+i)) a ss st0) f s->a+i∉cl.getD A []->f.apart (zeX (zO ops b (fun _=>true) a ss st0) ops oA zvQ)=true){Q:Exit->Act->World->Prop}(htail:∀(fl:Nat) (l':Array Bool) (E':Env) (ts':Array Value) (w':World) (v:Value),l'.size=ops.size->(∀i,i<ops.size->l'.getD i true=decide (i<A+1))->left ops.size l'<=fl->ts'[x.dst]?=some v ->
 Sim w0 S0 (UX U base a A (fun _=>true)) ((zO ops b (fun _=>true) a ss st0).put oA.dst (.v (.at .bad))) E' ts' sv w'->Late w0 ((zO ops b (fun _=>true) a ss st0).put oA.dst (.v (.at .bad))) E' x v w'->wpAny C.P md ops Q fl l' { tmps:=ts',defers:=[] } w')(fuel:Nat)(listed:Array Bool)(E:Env)(ts:Array Value)(w:World)(hsz:listed.size=ops.size)(hX:ze9 cl (XL listed))(hbel:∀i,i<a->XL listed i=true)(hlow:∀m,A<=m->m<ops.size->XL listed m=false)(hf:left ops.size listed<=fuel)(hS:Sim w0 S0 (UX U base a A (XL listed)) (zO ops b (XL listed) a ss st0) E ts sv w):wpAny C.P md ops Q fuel listed { tmps:=ts,defers:=[] } w:=by
 have hdst:oA.dst=some x.dst/\oA.guard=none:=by
  unfold zlo at hap;split at hap
  .rename_i c d ho hdst hgu;refine ⟨?_,hgu⟩;rw[hdst]
   congr 1
   repeat' (first|(split at hap)|(cases hap))
   all_goals first|rfl|(simp only [qC,jJ]at hap;obtain ⟨_,rfl⟩:=hap;rfl)
  .cases hap
 have huses:∀{X Y:Nat->Bool} {i:Nat},(∀k,Y k=(X k||k==i))->∀n,UX U base a A X n->UX U base a A Y n:=by
  intro X Y i hY n h;rcases h with h|⟨k,h0,h1,h2,h3⟩
  .exact .inl h
  .exact .inr ⟨k,h0,h1,by rw[hY,h2];rfl,h3⟩
 have hfA:∀{X:Nat->Bool} (κ:Key),(∀j∈cl.getD A [],X j=true)->(zeX (zO ops b (fun _=>true) a ss st0) ops oA zvQ).reads κ->(zO ops b X a ss st0).get κ=(zO ops b (fun _=>true) a ss st0).get κ:=by
  intro X κ hr hκ;refine zls ss a st0 st0 rfl rfl (fun k s' o' hk ho' hne hw=>?_);obtain ⟨o2,f',ho2,h2⟩:=F.at1 k s' hk;rw[ho']at ho2;cases ho2;have hXk:X (a+k)=false:=by
   cases h:X (a+k) with
   | false=>rfl
   | true=>exact absurd h hne
  have hn:a+k∉cl.getD A []:=fun h=>by rw[hr _ h]at hXk;cases hXk
  exact ((apart_spec (hfoot k s' o' f' hk ho' h2 hn)).1 κ ((ztU h2 κ).1 hw)).1 hκ
 refine zAn (T:=A+1) (J:=fun X E ts w=>(X A=false->Sim w0 S0 (UX U base a A X) (zO ops b X a ss st0) E ts sv w) /\
  (X A=true->∃v,ts[x.dst]?=some v/\Sim w0 S0 (UX U base a A X) ((zO ops b X a ss st0).put oA.dst (.v (.at .bad))) E ts sv w/\Late w0 (zO ops b X a ss st0) E x v w)) W hTs hpin ?_ ?_ ?_
  fuel listed E ts w hsz hX hbel (fun m h1 h2=>hlow m (by omega) h2) hf ⟨fun _=>hS,fun h=>(by rw[hlow A (qV _) (by omega)]at h;cases h)⟩
 .intro X Y E ts w h hJ;have hXA:X A=Y A:=h A (by omega) (by omega)
  have e:=zfJ (ops:=ops) (b:=b) ss a st0 (X:=X) (Y:=Y) (fun k h1 h2=>h k h1 (by omega))
  have hu:∀n,UX U base a A X n->UX U base a A Y n:=by
   rintro n (h1|⟨k,h0,h1,h2,h3⟩)
   .exact .inl h1
   .exact .inr ⟨k,h0,h1,by rw[<- h k h0 (by omega)];exact h2,h3⟩
  refine ⟨fun hYA=>?_,fun hYA=>?_⟩
  .have:=hJ.1 (hXA.trans hYA);rw[e] at this;exact this.uses hu
  .obtain ⟨v,h1,h2,h3⟩:=hJ.2 (hXA.trans hYA);rw[e]at h2 h3;exact ⟨v,h1,h2.uses hu,h3⟩
 .intro X Y i hX hia hi hXi hr hY E ts w hJ K hK
  by_cases hiA:i=A
  .subst hiA;have hSX:=hJ.1 hXi;have hYX:zO ops b Y a ss st0=zO ops b X a ss st0:=zfJ ss a st0 (fun k h1 h2=>by
    rw[hY];have:(k==i)=false:=by simp;omega
    rw[this,k0])
   have hag:Agree (zO ops b (fun _=>true) a ss st0) (zO ops b X a ss st0) oA.op.operands.toList :=
    zPo (by rw[zdN,zdN]) (fun t ht=>hfA (.tm t) hr (by simp only[Foot.reads,zeX];exact jV _ ht)) (fun n hn=>hfA (.ro n) hr hn) (fun n hn=>hfA (.lo n) hr hn)
   have hapX:=zKh (C:=C) hag;rw[hap]at hapX;have hdX:Dead (zO ops b X a ss st0):=by
    subst hbt;exact zrD ss a st0 (hd rfl).1 (hd rfl).2
   obtain ⟨hg,hdA,v,w',hrun,hS',hL⟩:=zQi hC hSX hdX hapX;refine pure_run (d:=zvQ) hoA hg hrun (hK E _ w' ⟨fun h=>(by rw[hY]at h;simp at h),fun _=>⟨v,?_,?_,?_⟩⟩)
   .rw [hdA];have hlt:x.dst<ts.size:=by
     rw[hSX.tm.1,zjy];rw[zjy]at hlen;exact hlen
    simp[Act.put,hlt]
   .rw [hYX];exact hS'.uses (huses hY)
   .rw [hYX];exact hL
  .have hiA':i<A:=by omega
   have hYA:Y A=X A:=by
    rw[hY];have:(A==i)=false:=by simp;omega
    rw[this,k0]
   cases hXA:X A with
   | false =>
    refine zt5 hC hH hG hA F hX hia hiA' hXi hr hb hd hM hY (hJ.1 hXA) (fun E' ts' w' hS'=>hK E' ts' w' ⟨fun _=>hS',fun h=>(by rw[hYA,hXA]at h;cases h)⟩)
   | true =>
    obtain ⟨v,hv,hSX,hL⟩:=hJ.2 hXA;obtain ⟨j,rfl⟩:∃j,i=a+j:=⟨i-a,by omega⟩
    obtain ⟨s,hs⟩:∃s,ss[j]?=some s:=⟨_,qB (by omega)⟩
    obtain ⟨o,f,ho,h1,h2⟩:=zAF F hX hs hXi hr;have hnA:a+j∉cl.getD A []:=fun h=>by rw[hX A hXA _ h]at hXi;cases hXi
    have hpo:zgE o=true:=by
     have:=qS.1 hlo (a+j) (by simp;omega)
     simp only[ho,jS,jA,qX] at this;rcases this with h|h
     .exact absurd h hnA
     .exact h
    have hapf:=apart_spec (hfoot j s o f hs ho h1 hnA);have hwA:(zeX (zO ops b (fun _=>true) a ss st0) ops oA zvQ).writes (.tm x.dst):=by simp only[Foot.writes,zeX];exact hdst.1
    have hne:∀κ,f.reads κ->κ≠.tm x.dst:=fun κ hκ e=>hapf.2 (.tm x.dst) hwA (e ▸ hκ);have hdne:o.dst≠some x.dst:=fun e=>(hapf.1 (.tm x.dst) ((ztU h1 (.tm x.dst)).1 (by cases s<;>exact e))).2 hwA
    have hep:∀Z,(zO ops b Z a ss st0).ep=st0.ep:=fun Z=>zdN ss a st0;have hdoes:=zHa (S':=(zO ops b X a ss st0).put oA.dst (.v (.at .bad))) h1 (by rw[hep,hdst.1];exact hep X) (fun κ hκ=>by rw[hdst.1,get_put (hne κ hκ)];exact h2 κ hκ)
    have hg0:o.guard=none:=by
     unfold zgE at hpo;simp only[qD,j4]at hpo;exact hpo.1
    cases s with
    | none =>
     exfalso;have:zbV ops o ((zO ops b X a ss st0).put oA.dst (.v (.at .bad)))=some false:=hdoes;simp[zbV,hg0] at this
    | some d =>
     obtain ⟨_,d2,d3⟩:=hdoes;obtain ⟨_,v2,hrun,hvm,hids,e1,e2,e3⟩:=znj hC hSX hpo (zxb hpo d2) d3;have hput:∀κ,(zO ops b Y a ss st0).get κ=((zO ops b X a ss st0).put o.dst d.v).get κ:=by
      intro κ;rw[zym F hX hs ho hXi hY κ];simp only[St.step,St.effD,e1,e2,List.map_nil,jL]
     have hS2:Sim w0 S0 (UX U base a A X) (((zO ops b X a ss st0).put oA.dst (.v (.at .bad))).put o.dst d.v) E (({ tmps:=ts,defers:=[] }:Act).put o.dst v2).tmps sv w:=hSX.putV hvm hids;refine pure_run (d:=d) ho hg0 hrun (hK E _ w ⟨fun h=>(by rw[hYA,hXA]at h;cases h),fun _=>⟨v,?_,?_,?_⟩⟩)
     .cases hod:o.dst with
      | none=>exact hv
      | some t=>exact zJo hv (fun e=>hdne (by rw[hod,e]))
     .refine (hS2.same (fun κ=>?_) ?_ ?_).uses (huses hY)
      .rw [hdst.1];cases κ with
       | tm t =>
        have hk:=hput (.tm t);have hl1:(zO ops b Y a ss st0).tm.length=(zO ops b X a ss st0).tm.length:=by rw[zjy,zjy]
        by_cases ht:t=x.dst
        .subst ht;cases hod:o.dst with
         | none=>simp[St.get,St.put,jD,hl1]
         | some t' =>
          have:t'≠x.dst:=fun e=>hdne (by rw[hod,e])
          simp[St.get,St.put,jD,hl1,this]
        .have hne':x.dst≠t:=fun e=>ht e.symm;rw[get_put (by simpa using ht),hk]
         cases hod:o.dst with
         | none=>simp[St.get,St.put,jD,hne']
         | some t' =>
          simp only[St.get,St.put,jD,List.length_set];split
          .rfl
          .first|rfl|rw[if_neg hne']
       | ro n =>
        have hk:=hput (.ro n);rw[get_put (by simp),hk]
        cases o.dst<;>rfl
       | lo n =>
        have hk:=hput (.lo n);rw[get_put (by simp),hk]
        cases o.dst<;>rfl
      .rw [hdst.1];have h1:(zO ops b Y a ss st0).stk=(zO ops b X a ss st0).stk:=by rw[zhg,zhg]
       cases o.dst<;>exact h1
      .rw [hdst.1];have h1:(zO ops b Y a ss st0).ep=(zO ops b X a ss st0).ep:=by rw[zdN,zdN]
       cases o.dst<;>exact h1
     .have hro:∀n,zh (zO ops b Y a ss st0).ro n=zh (zO ops b X a ss st0).ro n:=fun n=>by
       rw[zt6 (hput (.ro n))];cases o.dst<;>rfl
      have hlo':∀n,zh (zO ops b Y a ss st0).lo n=zh (zO ops b X a ss st0).lo n:=fun n=>by
       rw[zAG (hput (.lo n))];cases o.dst<;>rfl
      exact hL.states (fun n=>by
       unfold St.root;rw[hro n,hep Y,hep X]) hlo'
 .intro fl l' E' ts' w' hsz' hl' hf' hJ;obtain ⟨v,h1,h2,h3⟩:=hJ.2 rfl;refine htail fl l' E' ts' w' v hsz' hl' hf' h1 h2 (h3.states (fun n=>?_) (fun n=>?_))
  .rw [hdst.1];rfl
  .rw [hdst.1];rfl
theorem zFt {a b:At}(h:sameAt a b=true):a=b:=by
 cases a<;>cases b<;>simp only [sameAt]at h<;>try cases h
 case i.i k n k' n' =>
  by_cases hk:k=k'
  .subst hk;simp only[decide_true,cond_true,ieq,qI]at h;rw[h]
  .simp [hk]at h
 case b.b x y=>simp only[zml,qI]at h;rw[h]
 case sl.sl r p r' p' =>
  cases hr:Nat.beq r r' with
  | false=>rw[hr]at h;cases h
  | true =>
   rw[hr,cond_true]at h;rw[jO hr,zlQ h]
 case lp.lp l o l' o' =>
  simp only[qD]at h;rw[jO h.1,jO h.2]
 case ep.ep r p i o r' p' i' o' =>
  cases hr:(Nat.beq r r'&&Nat.beq o o') with
  | false=>rw[hr]at h;cases h
  | true =>
   rw[hr,cond_true]at h;simp only[qD]at hr h;simp only[ieq,qI]at h;rw[jO hr.1,jO hr.2,h.1,zlQ h.2]
 case fn.fn f c f' c' =>
  simp only[qD,qI]at h;rw[jO h.1,h.2]
theorem zBX:∀{l m:List At},zwd l m=true->l=m
 | [],[],_=>rfl
 | a :: l,b :: m,h=>by
  simp only[zwd,qD]at h;rw[zFt h.1,zBX h.2]
 | [],_ :: _,h=>by cases h
 | _ :: _,[],h=>by cases h
theorem zPb {x y:MV}(h:zBY x y=true):x=y:=by
 unfold zBY at h;split at h
 .rw [zFt h]
 .rw [zBX h]
 .cases h
theorem zmu {k:St->Option Ans}{ans:Ans}:∀{js:List Nat},zjk C ops base k js st=some ans ->
 k st=some ans/\∀j∈js,∃o d t,ops[j]?=some o/\delta C st o (base+32*j)=some d/\d.c=true/\o.dst=some t/\st.tm[t]?=some d.v
 | [],h=>⟨h,fun _ h=>by cases h⟩
 | j :: r,h=>by
  unfold zjk at h;split at h
  .rename_i o ho;split at h
   .rename_i d t hd ht;split at h
    .rename_i m hm;cases hc:(d.c&&zBY d.v m) with
     | false=>rw[hc]at h;cases h
     | true =>
      rw[hc,cond_true]at h;obtain ⟨h1,h2⟩:=zmu h;simp only[qD]at hc;refine ⟨h1,fun i hi=>?_⟩;rcases qH.1 hi with rfl|hi
      .exact ⟨o,d,t,ho,hd,hc.1,ht,by rw[hm,zPb hc.2]⟩
      .exact h2 i hi
    .cases h
   .cases h
  .cases h
theorem zAA {ts ts1:Array Value}{x:Operand}(h:∀t,x = .tmp t->ts[t]?=ts1[t]?):({ tmps:=ts,defers:=[] }:Act).eval x=({ tmps:=ts1,defers:=[] }:Act).eval x:=by
 cases x with
 | tmp t=>simp only[Act.eval,Array.getD_eq_getD_getElem?,h t rfl]
 | _=>rfl
theorem zBE {o:Oper}{x:Operand}{t:Nat}(hx:x∈o.op.operands.toList)(ht:x = .tmp t):t∈zeZ o:=by
 subst ht;exact kS.2 ⟨_,hx,rfl⟩
theorem zM9 {o:Oper}(hp:zgE o=true){ts ts1:Array Value}(h:∀t∈zeZ o,ts[t]?=ts1[t]?):execOp ({ tmps:=ts,defers:=[] }:Act).eval o=execOp ({ tmps:=ts1,defers:=[] }:Act).eval o:=by
 have he:∀x∈o.op.operands.toList,({ tmps:=ts,defers:=[] }:Act).eval x=({ tmps:=ts1,defers:=[] }:Act).eval x:=fun x hx=>zAA fun t ht=>h t (zBE hx ht);unfold zgE at hp;simp only[qD]at hp;obtain ⟨_,hp⟩:=hp;cases hop:o.op
 case move x=>simp only[execOp,hop,he x (by rw[hop];simp[Op.operands])]
 case load T x=>simp only[execOp,hop,he x (by rw[hop];simp[Op.operands])]
 case fieldAddr T x f=>simp only[execOp,hop,he x (by rw[hop];simp[Op.operands])]
 case indexAddr T x y=>simp only[execOp,hop,he x (by rw[hop];simp[Op.operands]),he y (by rw[hop];simp[Op.operands])]
 case nilCheck x=>simp only[execOp,hop,he x (by rw[hop];simp[Op.operands])]
 all_goals (rw [hop]at hp;simp at hp)
theorem zut {o:Oper}(h:zkX o=true):o.guard=none/\∃c x,o.op = .call c/\c.callee = .value x:=by
 unfold zkX at h;simp only[qD,j4]at h;refine ⟨h.1.1,?_⟩;have h2:=h.2;split at h2
 .rename_i c hc;split at h2
  .rename_i x hx;exact ⟨c,x,hc,hx⟩
  .cases h2
 .cases h2
theorem zMd {o:Oper}(hc:zkX o=true){ts ts1:Array Value}(h:∀t∈zeZ o,ts[t]?=ts1[t]?):execOp ({ tmps:=ts,defers:=[] }:Act).eval o=execOp ({ tmps:=ts1,defers:=[] }:Act).eval o:=by
 have he:∀x∈o.op.operands.toList,({ tmps:=ts,defers:=[] }:Act).eval x=({ tmps:=ts1,defers:=[] }:Act).eval x:=fun x hx=>zAA fun t ht=>h t (zBE hx ht);obtain ⟨_,c,x,hop,hcb⟩:=zut hc;have hx:=he x (by rw[hop];simp[Op.operands,Call.operands,hcb])
 have ha:c.args.map ({ tmps:=ts,defers:=[] }:Act).eval=c.args.map ({ tmps:=ts1,defers:=[] }:Act).eval:=by
  apply Array.map_congr_left;intro y hy;exact he y (by rw[hop];simp[Op.operands,Call.operands,hcb,hy])
 simp only[execOp,hop,resolve,hcb,hx,ha]
theorem zNy {P:Program}{o:Oper}{i:Nat}(ho:ops[i]?=some o)(hc:zkX o=true){ts ts1:Array Value}(h:∀t∈zeZ o,ts[t]?=ts1[t]?){K1 K:Act->World->Prop}{Q1 Q:Exit->Act->World->Prop}(hQ:∀e a w,Q1 e a w->e = .normal)(hK:∀a' w',K1 a' w'->a'.defers=[])(hKK:∀v w',K1 (({ tmps:=ts1,defers:=[] }:Act).put o.dst v) w'->K (({ tmps:=ts,defers:=[] }:Act).put o.dst v) w')(hw:wpOp P ops Q1 i K1 { tmps:=ts1,defers:=[] } w):wpOp P ops Q i K { tmps:=ts,defers:=[] } w:=by
 obtain ⟨hg,_⟩:=zut hc;unfold wpOp at hw ⊢;simp only[ho]at hw ⊢;rw[if_pos (by simp[Region.wanted,hg])]at hw ⊢
 rcases hw with hw|⟨_,a,w,hl⟩
 .refine .inl ?_;unfold Oper.wp at hw ⊢;rw[zMd hc h];generalize (execOp ({ tmps:=ts1,defers:=[] }:Act).eval o).run P w=r at hw;cases r with
  | ok n w' =>
   cases n with
   | value v=>exact hKK v w' hw
   | skip=>exact hKK undef w' hw
   | defer d =>
    exfalso;have:=hK _ _ hw;cases hd:o.dst<;>simp [Act.put,hd] at this
   | enter f args =>
    refine Calls.mono hw ?_;intro e w2 he;cases e with
    | returned v=>exact hKK v w2 he
    | panicked chain=>exact absurd (hQ _ _ _ he) (by simp)
    | outgrown =>
     obtain ⟨a,w3,hl⟩:=he;exact absurd (hQ _ _ _ hl) (by simp)
   | row row args=>exact Rows.mono hw fun v w2 he=>hKK v w2 he
   | _=>exact hw.elim
  | halt hh w' =>
   cases hh with
   | panic v=>exact absurd (hQ _ _ _ hw) (by simp)
   | _=>exact hw.elim
 .exact absurd (hQ _ _ _ hl) (by simp)
theorem zlZ {m a j:Nat}:j∈zh9 cl m a↔(m<=j/\j<m+(a-m))/\j∉cl.getD a []:=by
 unfold zh9;rw[List.mem_filter];simp
def VV (U:Nat->Prop)(base size m n:Nat):Prop:=U n\/(base<=n/\n<base+32*m)\/base+32*size<=n
theorem zPt (hC:CfgOk C)(hH:CtrOk C)(hG:GraftOk C)(hN:NameOk C){call:zd3}(hcall:zlN C call){a A:Nat}(W:Waits md ops cl)(haA:a<=A)(hA:a+ss.length=A)(hTs:A+1<=ops.size)(hpin:A+1<ops.size->Pinned ops.size cl (A+1))(F:Free C ops cl b base a ss st0)(hb:b=false->∀k,a<=k->k<A->zgm C ops k=false)(hd:b=true->Dead st0/\0<st0.ep)(hM:∀k,a<=k->k<A->∀n,Mine (base+32*k) n->¬ U n){oA:Oper}(hoA:ops[A]?=some oA)(hcv:zkX oA=true)(hlo:zqF ops cl a A=true)(hlr:zyX ops cl (zh9 cl a A) oA=true){V:Nat->Prop}(hVV:∀n,UX U base a A (fun _=>true) n->VV V base ops.size A n)(hVb:∀n,base<=n->¬ V n)(hnid:base+32*ops.size<=st0.nid)(hF:∀n,st0.nid<=n->¬ UX U base a A (fun _=>true) n){k:St->Option Ans}{ans:Ans}(hden:ziz C call ops base (zjk C ops base k (zh9 cl a A)) [A] (zO ops b (fun _=>true) a ss st0)=some ans){Q:Exit->Act->World->Prop}(htail:∀(fl:Nat) (l':Array Bool) (U':Nat->Prop) (st':St) (E':Env) (ts':Array Value) (w':World),l'.size=ops.size->(∀i,i<ops.size->l'.getD i true=decide (i<A+1))->left ops.size l'<=fl ->
 Sim w0 S0 U' st' E' ts' sv w'->(∀n,U' n->VV V base ops.size (A+1) n)->base+32*ops.size<=st'.nid->(∀n,st'.nid<=n->¬ U' n)->k st'=some ans->wpAny C.P md ops Q fl l' { tmps:=ts',defers:=[] } w')(fuel:Nat)(listed:Array Bool)(E:Env)(ts:Array Value)(w:World)(hsz:listed.size=ops.size)(hX:ze9 cl (XL listed))(hbel:∀i,i<a->XL listed i=true)(hlow:∀m,A<=m->m<ops.size->XL listed m=false)(hf:left ops.size listed<=fuel)(hS:Sim w0 S0 (UX U base a A (XL listed)) (zO ops b (XL listed) a ss st0) E ts sv w):wpAny C.P md ops Q fuel listed { tmps:=ts,defers:=[] } w:=by
 have huses:∀{X Y:Nat->Bool},(∀k,X k=true->Y k=true)->∀n,UX U base a A X n->UX U base a A Y n:=by
  intro X Y hXY n h;rcases h with h|⟨k,h0,h1,h2,h3⟩
  .exact .inl h
  .exact .inr ⟨k,h0,h1,hXY k h2,h3⟩
 have hlate:∀j∈zh9 cl a A,∃p t,ops[j]?=some p/\p.dst=some t/\zgE p=true/\t∉zeZ oA/\∀i∈zh9 cl a A,∀q,ops[i]?=some q->(t∈zeZ q->j∈cl.getD i [])/\(i=j\/q.dst≠some t):=by
  intro j hj;have h1:=qS.1 hlr j hj;split at h1
  .rename_i p hp;split at h1
   .rename_i t ht;simp only[qD,qZ,qS]at h1;have h2:=qS.1 hlo j (by obtain ⟨⟨g1,g2⟩,_⟩:=zlZ.1 hj;simp;omega)
    simp only[hp,jS,jA,qX]at h2;refine ⟨p,t,hp,ht,h2.resolve_left (zlZ.1 hj).2,by simpa using h1.1,fun i hi q hq=>?_⟩
    have h3:=h1.2 i hi;simp only[hq,qD,jS,qZ,qI,jA,qX,decide_eq_false_iff_not]at h3;refine ⟨fun hm=>h3.1.resolve_left (fun hn=>hn hm),?_⟩;rcases h3.2 with h|h
    .exact .inl h
    .exact .inr (by simpa using h)
   .cases h1
  .cases h1
 have late_of:∀{X:Nat->Bool} {i:Nat},a<=i->i<A->X i=false->(∀j∈cl.getD A [],X j=true)->i∈zh9 cl a A:=by
  intro X i h1 h2 h3 h4;exact zlZ.2 ⟨⟨h1,by omega⟩,fun h=>by rw[h4 i h]at h3;cases h3⟩
 let Ag:(Nat->Bool)->Array Value->Array Value->Prop:=fun X ts ts1=>ts.size=ts1.size/\∀t,(∀j∈zh9 cl a A,X j=false->∀o,ops[j]?=some o->o.dst≠some t)->ts[t]?=ts1[t]?
 refine zAn (T:=A+1) (J:=fun X E ts w=>(X A=false->Sim w0 S0 (UX U base a A X) (zO ops b X a ss st0) E ts sv w) /\
  (X A=true->∃(U1:Nat->Prop) (st1:St) (ts1:Array Value),Sim w0 S0 U1 st1 E ts1 sv w/\(∀n,U1 n->VV V base ops.size (A+1) n)/\base+32*ops.size<=st1.nid/\(∀n,st1.nid<=n->¬ U1 n)/\zjk C ops base k (zh9 cl a A) st1=some ans/\Ag X ts ts1)) W hTs hpin ?_ ?_ ?_
  fuel listed E ts w hsz hX hbel (fun m h1 h2=>hlow m (by omega) h2) hf ⟨fun _=>hS,fun h=>(by rw[hlow A (qV _) (by omega)]at h;cases h)⟩
 .intro X Y E ts w h hJ;have hXA:X A=Y A:=h A (by omega) (by omega)
  have e:=zfJ (ops:=ops) (b:=b) ss a st0 (X:=X) (Y:=Y) (fun k h1 h2=>h k h1 (by omega))
  refine ⟨fun hYA=>?_,fun hYA=>?_⟩
  .have:=hJ.1 (hXA.trans hYA);rw[e] at this;refine this.uses ?_
   rintro n (h1|⟨k,h0,h1,h2,h3⟩)
   .exact .inl h1
   .exact .inr ⟨k,h0,h1,by rw[<- h k h0 (by omega)];exact h2,h3⟩
  .obtain ⟨U1,st1,ts1,h1,h2,h3,h4,h5,h6,h7⟩:=hJ.2 (hXA.trans hYA);refine ⟨U1,st1,ts1,h1,h2,h3,h4,h5,h6,fun t ht=>h7 t (fun j hj hXj=>ht j hj ?_)⟩;have:=zlZ.1 hj;rw[<- h j this.1.1 (by omega)]
   exact hXj
 .intro X Y i hX hia hi hXi hr hY E ts w hJ K hK
  by_cases hiA:i=A
  .subst hiA;have hSX:=hJ.1 hXi
   have ghost:∀n,a<=n->n<=i->∃ts1,Sim w0 S0 (UX U base a i (fun k=>X k||decide (k<n))) (zO ops b (fun k=>X k||decide (k<n)) a ss st0) E ts1 sv w/\Ag X ts ts1:=by
    intro n
    induction n with
    | zero =>
     intro h0 _;have e:(fun k=>X k||decide (k<0))=X:=by funext k;simp
     rw[e];exact ⟨ts,hSX,rfl,fun _ _=>rfl⟩
    | succ n ih =>
     intro h1 h2
     by_cases han:a=n+1
     .have e:zO ops b (fun k=>X k||decide (k<n+1)) a ss st0=zO ops b X a ss st0:=zfJ ss a st0 (fun k g1 g2=>by
       have:¬ k<n+1:=by omega
       simp[this])
      rw[e];refine ⟨ts,hSX.uses (huses fun k hk=>by simp[hk]),rfl,fun _ _=>rfl⟩
     .obtain ⟨ts1,hS1,hA1⟩:=ih (by omega) (by omega)
      have hset:∀k,(X k||decide (k<n+1))=((X k||decide (k<n))||k==n):=fun k=>by
       by_cases hk:k<n
       .have:k<n+1:=by omega
        simp[hk,this]
       .by_cases hk2:k=n
        .subst hk2;simp
        .have:¬ k<n+1:=by omega
         simp[hk,hk2,this]
      cases hXn:X n with
      | true =>
       have e:(fun k=>X k||decide (k<n+1))=fun k=>X k||decide (k<n):=by
        funext k
        rw[hset k]
        by_cases hk:k=n
        .subst hk;simp[hXn]
        .simp [hk]
       rw[e];exact ⟨ts1,hS1,hA1⟩
      | false =>
       have hln:=late_of (by omega) (by omega) hXn hr
       obtain ⟨p,t,hp,ht,hpo,_⟩:=hlate n hln;have hcX:ze9 cl (fun k=>X k||decide (k<n)):=by
        intro k hk j hj;simp only[jS,qX]at hk ⊢;rcases hk with hk|hk
        .exact .inl (hX k hk j hj)
        .have:=W.lt k (by omega) j hj
         exact .inr (by omega)
       obtain ⟨q,rfl⟩:∃q,n=a+q:=⟨n-a,by omega⟩
       obtain ⟨s,hs⟩:∃s,ss[q]?=some s:=⟨_,qB (by omega)⟩
       have hXn2:(X (a+q)||decide (a+q<a+q))=false:=by simp[hXn]
       obtain ⟨o,ho,hdo⟩:=zE9 F hcX hs hXn2 (fun j hj=>by
        have:=W.lt (a+q) (by omega) j hj
        simp[this])
       rw[hp]at ho;cases ho;have hg0:p.guard=none:=by
        unfold zgE at hpo;simp only[qD,j4]at hpo;exact hpo.1
       cases s with
       | none =>
        exfalso;have:zbV ops p (zO ops b (fun k=>X k||decide (k<a+q)) a ss st0)=some false:=hdo;simp[zbV,hg0] at this
       | some d =>
        obtain ⟨_,d2,d3⟩:=hdo;obtain ⟨_,v2,hrun,hvm,hids,e1,e2,e3⟩:=znj hC hS1 hpo (zxb hpo d2) d3;have hput:∀κ,(zO ops b (fun k=>X k||decide (k<a+q+1)) a ss st0).get κ=((zO ops b (fun k=>X k||decide (k<a+q)) a ss st0).put p.dst d.v).get κ:=by
         intro κ;rw[zym F hcX hs hp hXn2 (fun k=>hset k) κ];simp only[St.step,St.effD,e1,e2,List.map_nil,jL]
        have hS2:=hS1.putV (dst:=p.dst) hvm hids;refine ⟨(({ tmps:=ts1,defers:=[] }:Act).put p.dst v2).tmps,(hS2.same hput ?_ ?_).uses (huses fun k hk=>?_),?_,?_⟩
        .rw [zhg,zEj,zhg]
        .rw [zdN,zJn,zdN]
        .simp only [jS,qX]at hk ⊢;rcases hk with hk|hk
         .exact .inl hk
         .exact .inr (by omega)
        .rw [ht];simp[Act.put,hA1.1]
        .intro t' ht';rw[hA1.2 t' ht',ht];have hne:t≠t':=fun e=>ht' _ hln hXn p hp (by rw[ht,e])
         simp[Act.put,uF hne]
   obtain ⟨ts1,hS1,hA1⟩:=ghost i haA (qV _);have e:=zfJ (ops:=ops) (b:=b) ss a st0 (X:=fun k=>X k||decide (k<i)) (Y:=fun _=>true) (fun k h1 h2=>by
    have:k<i:=by omega
    simp[this])
   rw[e]at hS1;have hS1:=hS1.uses (huses (Y:=fun _=>true) fun _ _=>rfl)
   let Q1:Exit->Act->World->Prop:=fun e a' w'=>e = .normal/\a'.defers=[]/\∃(U1:Nat->Prop) (st1:St) (E1:Env),Sim w0 S0 U1 st1 E1 a'.tmps sv w'/\(∀n,U1 n->VV V base ops.size (i+1) n)/\base+32*ops.size<=st1.nid/\(∀n,st1.nid<=n->¬ U1 n)/\zjk C ops base k (zh9 cl a i) st1=some ans
   have hnidf:(zO ops b (fun _=>true) a ss st0).nid=st0.nid:=zo3 ss a st0;have key:=zhf (Q:=Q1) hC hH hG hN hcall (ops:=ops) (base:=base) (V:=VV V base ops.size (i+1)) (nid0:=base+32*ops.size) (fun n hn'=>.inr (.inr hn'))
    (fun U' st' E' ts' w' hS' hU' hn' hF' h'=>⟨rfl,rfl,U',st',E',hS',hU',hn',hF',h'⟩)
    [i] _ _ E ts1 w hS1 ?_ (by rw[hnidf];exact hF) ?_ (by simp) (by rw[hnidf];exact hnid) ?_ hden
   .rw [wpOps_cons] at key;refine zNy hoA hcv (fun t ht=>hA1.2 t (fun j hj hXj o ho hdt=>?_)) (fun e a w h=>h.1) (fun a' w' h=>h.2.1) (fun v w' h=>?_) key
    .obtain ⟨p,t',hp,hpt,_,hn,_⟩:=hlate j hj;rw[hp]at ho;cases ho;rw[hpt]at hdt;cases hdt;exact hn ht
    .obtain ⟨_,_,U1,st1,E1,g1,g2,g3,g4,g5⟩:=h;rw[zfa];refine hK E1 _ w' ⟨fun h=>(by rw[hY]at h;simp at h),fun _=>⟨U1,st1,_,g1,g2,g3,g4,g5,?_,?_⟩⟩
     .cases oA.dst<;>simp [Act.put,hA1.1]
     .intro t ht;have h0:ts[t]?=ts1[t]?:=hA1.2 t (fun j hj hXj=>ht j hj (by
       have:=zlZ.1 hj;rw[hY,hXj];simp;omega))
      cases hdst:oA.dst with
      | none=>simpa [Act.put,hdst] using h0
      | some d =>
       simp only[Act.put,hdst,kV,hA1.1];split
       .rfl
       .exact h0
   .rintro n hn'
    rcases hVV n hn' with h|⟨h1,h2⟩|h
    .exact .inl h
    .exact .inr (.inl ⟨h1,by omega⟩)
    .exact .inr (.inr h)
   .intro j hj n hmn;simp only[qE]at hj;subst hj;obtain ⟨g1,g2⟩:=hmn;refine ⟨fun hn'=>?_,.inr (.inl ⟨by omega,by omega⟩)⟩
    rcases hVV n hn' with h|⟨h1,h2⟩|h
    .exact hVb n (by omega) h
    .omega
    .omega
   .intro j hj;simp only[qE]at hj;subst hj;rw[hnidf];omega
  .have hiA':i<A:=by omega
   have hYA:Y A=X A:=by
    rw[hY];have:(A==i)=false:=by simp;omega
    rw[this,k0]
   cases hXA:X A with
   | false =>
    refine zt5 hC hH hG hA F hX hia hiA' hXi hr hb hd hM hY (hJ.1 hXA) (fun E' ts' w' hS'=>hK E' ts' w' ⟨fun _=>hS',fun h=>(by rw[hYA,hXA]at h;cases h)⟩)
   | true =>
    obtain ⟨U1,st1,ts1,g1,g2,g3,g4,g5,g6,g7⟩:=hJ.2 hXA;have hli:=late_of hia hiA' hXi (fun j hj=>hX A hXA j hj);obtain ⟨p,t,hp,ht,hpo,_,hap⟩:=hlate i hli;obtain ⟨o,d,t2,ho,hdl,hdc,ht2,htm⟩:=(zmu g5).2 i hli;rw[hp]at ho;cases ho;rw[ht]at ht2;cases ht2;obtain ⟨hg0,v2,hrun,hvm,hids,_,_,_⟩:=znj hC g1 hpo hdl hdc;have hag:execOp ({ tmps:=ts,defers:=[] }:Act).eval p=execOp ({ tmps:=ts1,defers:=[] }:Act).eval p:=zM9 hpo (fun t' ht'=>g7 t' (fun j hj hXj o ho hdt=>by
     obtain ⟨p2,t3,hp2,hpt2,_,_,hap2⟩:=hlate j hj;rw[hp2]at ho;cases ho;rw[hpt2]at hdt;cases hdt;have:=hr j ((hap2 i hli p hp).1 ht');rw[this]at hXj;cases hXj))
    rw[<- hag]at hrun;refine pure_run (d:=d) hp hg0 hrun (hK E _ w ⟨fun h=>(by rw[hYA,hXA]at h;cases h),fun _=>⟨U1,st1,(({ tmps:=ts1,defers:=[] }:Act).put p.dst v2).tmps,?_,g2,g3,g4,g5,?_,?_⟩⟩)
    .have:=g1.putV (dst:=p.dst) hvm hids;rw[ht,zze htm] at this;rw[ht];exact this
    .rw [ht];simp[Act.put,g6]
    .intro t' ht';rw[ht];simp only[Act.put,kV,g6];split
     .rfl
     .rename_i hne;refine g7 t' (fun j hj hXj o ho hdt=>?_)
      by_cases hji:j=i
      .subst hji;rw[hp]at ho;cases ho;rw[ht]at hdt;cases hdt;exact hne rfl
      .refine ht' j hj ?_ o ho hdt;rw[hY,hXj];simp[hji]
 .intro fl l' E' ts' w' hsz' hl' hf' hJ;obtain ⟨U1,st1,ts1,g1,g2,g3,g4,g5,g6,g7⟩:=hJ.2 rfl;have:ts'=ts1:=Array.ext_getElem? fun t=>g7 t (fun j _ h=>by cases h)
  subst this;exact htail fl l' U1 st1 E' ts' w' hsz' hl' hf' g1 g2 g3 g4 (zmu g5).1
theorem zqG (hC:CfgOk C)(W:Waits md ops cl){x:App}{kk:Nat->List Bool->St->Option Ans}{ans:Ans}{Q:Exit->Act->World->Prop}(hkk:∀(m':Nat) (r':List Bool) (U':Nat->Prop) (st':St) (E':Env) (ts':Array Value) (w':World) (fl:Nat) (l':Array Bool),r'=(ze1 ops.size cl).drop m'->m'<=ops.size->l'.size=ops.size->(∀i,i<ops.size->l'.getD i true=decide (i<m'))->left ops.size l'<=fl ->
 Sim w0 S0 U' st' E' ts' sv w'->(∀n,U' n->VV U base ops.size m' n)->(∀n,st'.nid<=n->¬ U' n)->base+32*ops.size<=st'.nid->kk m' r' st'=some ans->wpAny C.P md ops Q fl l' { tmps:=ts',defers:=[] } w') :
 ∀(pins:List Bool) (m:Nat) (V:Nat->Prop) (st:St) (E:Env) (ts:Array Value) (w:World) (fuel:Nat) (listed:Array Bool) (v:Value),pins=(ze1 ops.size cl).drop m->m<=ops.size->listed.size=ops.size->(∀i,i<ops.size->listed.getD i true=decide (i<m))->left ops.size listed<=fuel ->
  Sim w0 S0 V st E ts sv w->(∀n,V n->VV U base ops.size m n)->(∀n,st.nid<=n->¬ V n)->base+32*ops.size<=st.nid->ts[x.dst]?=some v->Late w0 st E x v w->zkY C ops base x kk pins m st=some ans->wpAny C.P md ops Q fuel listed { tmps:=ts,defers:=[] } w
 | [],m,V,st,E,ts,w,fuel,listed,v,_,_,_,_,_,_,_,_,_,_,_,h=>by simp[zkY]at h
 | false :: r,m,V,st,E,ts,w,fuel,listed,v,_,_,_,_,_,_,_,_,_,_,_,h=>by simp[zkY]at h
 | true :: r,m,V,st,E,ts,w,fuel,listed,v,hp,hm,hsz,hl,hf,hS,hV,hF,hn,hv,hL,h=>by
  simp only[zkY]at h;obtain ⟨hms,hpin,hr⟩:=zl0 hp;have hV1:∀n,V n->VV U base ops.size (m+1) n:=by
   rintro n hn'
   rcases hV n hn' with h|⟨h1,h2⟩|h
   .exact .inl h
   .exact .inr (.inl ⟨h1,by omega⟩)
   .exact .inr (.inr h)
  refine zLO W hsz hms (zpV hpin.symm) hl hf (fun fl l' hsz' hl' hf' _ _=>?_);split at h
  .cases h
  .rename_i o ho;split at h
   .rename_i c st2 hst;cases hc:c with
    | false=>rw[hc]at h;cases h
    | true =>
     rw[hc]at h hst;simp only[cond_true,zvE]at h;obtain ⟨hg,hgo,hnid⟩:=zMI (id:=base+32*m) hC hS hL hv hst;unfold wpOp;simp only[ho];rw[if_pos (by simp[Region.wanted,hg])]
     refine .inl (hgo _ _ (fun E' v' w' hS'=>?_));rw[zfa];refine hkk (m+1) r _ _ E' _ w' fl l' hr (by omega) hsz' hl' hf' hS' ?_ ?_ (by rw[zdA];omega) h
     .rintro n (h|⟨h1,h2⟩)
      .exact hV1 n h
      .exact .inr (.inl ⟨by omega,by omega⟩)
     .rintro n hn' (h|⟨h1,h2⟩)
      .exact hF n (by rw[zdA]at hn';omega) h
      .rw [zdA]at hn';omega
   .split at h
    .rename_i hcond;simp only[qD,qZ,beq_eq_false_iff_ne]at hcond;split at h
     .rename_i d hd;cases hc:d.c with
      | false=>rw[hc]at h;cases h
      | true =>
       rw[hc]at h;simp only[cond_true]at h;obtain ⟨hg,v2,hrun,hvm,hids,e1,e2,e3⟩:=znj hC hS hcond.1 hd hc;have he:st.apply o.dst d=st.put o.dst d.v:=by simp[St.apply,e1,e2,e3]
       rw[he]at h;refine pure_run (d:=d) ho hg hrun ?_;refine zqG hC W hkk r (m+1) V _ E _ w fl l' v hr (by omega) hsz' hl' hf' (hS.putV hvm hids) hV1 (by rw[zdA];exact hF) (by rw[zdA];exact hn) ?_ (hL.states (fun n=>?_) (fun n=>?_)) h
       .cases hod:o.dst with
        | none=>exact hv
        | some t=>exact zJo hv (fun e=>hcond.2 (by rw[hod,e]))
       .cases o.dst<;>rfl
       .cases o.dst<;>rfl
     .cases h
    .cases h
theorem zgx (hC:CfgOk C)(hH:CtrOk C)(hG:GraftOk C)(hN:NameOk C){call:zd3}(hcall:zlN C call)(W:Waits md ops cl){k:St->Option Ans}{ans:Ans}{Q:Exit->Act->World->Prop}(hU0:∀n,base<=n->¬ U n)(hk:∀(U':Nat->Prop) (st':St) (E':Env) (ts':Array Value) (w':World),Sim w0 S0 U' st' E' ts' sv w'->(∀n,U' n->VV U base ops.size ops.size n)->base+32*ops.size<=st'.nid->(∀n,st'.nid<=n->¬ U' n)->k st'=some ans->Q .normal { tmps:=ts',defers:=[] } w') :
 ∀(fs m:Nat) (pins:List Bool) (V:Nat->Prop) (st:St) (E:Env) (ts:Array Value) (w:World) (fuel:Nat) (listed:Array Bool),pins=(ze1 ops.size cl).drop m->m<=ops.size->listed.size=ops.size->(∀i,i<ops.size->listed.getD i true=decide (i<m))->left ops.size listed<=fuel ->
  Sim w0 S0 V st E ts sv w->(∀n,V n->VV U base ops.size m n)->(∀n,st.nid<=n->¬ V n)->base+32*ops.size<=st.nid->zgN C call ops cl base k fs m pins st=some ans->wpAny C.P md ops Q fuel listed { tmps:=ts,defers:=[] } w
 | 0,m,pins,V,st,E,ts,w,fuel,listed,_,_,_,_,_,_,_,_,_,h=>by simp[zgN]at h
 | fs+1,m,[],V,st,E,ts,w,fuel,listed,hp,hm,hsz,hl,hf,hS,hV,hF,hn,h=>by
  simp only[zgN]at h;have hms:=zJk hp;have e:m=ops.size:=by omega
  subst e;exact zQp (fun i hi=>by rw[hl i hi];simp[hi]) (hk V st E ts w hS hV hn hF h)
 | fs+1,m,true :: r,V,st,E,ts,w,fuel,listed,hp,hm,hsz,hl,hf,hS,hV,hF,hn,h=>by
  simp only[zgN]at h;obtain ⟨hms,hpin,hr⟩:=zl0 hp;refine zLO W hsz hms (zpV hpin.symm) hl hf (fun fl l' hsz' hl' hf' _ _=>?_)
  let Q':Exit->Act->World->Prop:=fun e a w=>match e with
   | .normal=>wpAny C.P md ops Q fl l' a w
   | e=>Q e a w
  have hQ:∀e,e≠Exit.normal->∀a w,Q' e a w->Q e a w:=by
   intro e he a w h;cases e<;>first|exact absurd rfl he|exact h
  refine zNx hQ ?_;have key:=zhf (Q:=Q') hC hH hG hN hcall (ops:=ops) (base:=base) (V:=VV U base ops.size (m+1)) (nid0:=base+32*ops.size) (fun n hn'=>.inr (.inr hn'))
   (fun U' st' E' ts' w' hS' hU' hn' hF' h'=>zgx hC hH hG hN hcall W hU0 hk fs (m+1) r U' st' E' ts' w' fl l' hr (by omega) hsz' hl' hf' hS' hU' hF' hn' h')
   [m] V st E ts w hS ?_ hF ?_ (by simp) hn ?_ h
  .rw [wpOps_cons] at key;exact wpOp_mono (fun a w h=>h) key
  .rintro n hn'
   rcases hV n hn' with h|⟨h1,h2⟩|h
   .exact .inl h
   .exact .inr (.inl ⟨h1,by omega⟩)
   .exact .inr (.inr h)
  .intro j hj n hmn;simp only[qE]at hj;subst hj;obtain ⟨g1,g2⟩:=hmn;refine ⟨fun hn'=>?_,.inr (.inl ⟨by omega,by omega⟩)⟩
   rcases hV n hn' with h|⟨h1,h2⟩|h
   .exact hU0 n (by omega) h
   .omega
   .omega
  .intro j hj;simp only[qE]at hj;subst hj;omega
 | fs+1,m,false :: r,V,st,E,ts,w,fuel,listed,hp,hm,hsz,hl,hf,hS,hV,hF,hn,h=>by
  simp only[zgN]at h;obtain ⟨hms,_,hr⟩:=zl0 hp;obtain ⟨hfr1,hfr2,hfr3⟩:=zFk r (m+1) (by omega) hr
  generalize hb0:(List.range' m (zbr r+1)).any (zgm C ops)=b at h;have hS0':Sim w0 S0 V { st with ep:=if b then st.ep+1 else st.ep } E ts sv w:=hS.blind b st.nid
  have hnid0:({ st with ep:=if b then st.ep+1 else st.ep }:St).nid=st.nid:=rfl
  have hd':b=true->Dead ({ st with ep:=if b then st.ep+1 else st.ep }:St)/\0<({ st with ep:=if b then st.ep+1 else st.ep }:St).ep:=by
   intro hb;subst hb;refine ⟨fun n R e hR he=>?_,by simp⟩
   have:=hS.mem.epo n R e hR he;simp only[if_true];omega
  have hb':b=false->∀k,m<=k->k<m+1+zbr r->zgm C ops k=false:=by
   intro hb k hk1 hk2;rw[hb]at hb0;have:=kM.1 hb0 k (by simp;omega)
   simpa using this
  have hM:∀k,m<=k->k<m+1+zbr r->∀n,Mine (base+32*k) n->¬ V n:=by
   intro k h1 h2 n hn' hv;have g1:=hn'.1;have g2:=hn'.2;rcases hV n hv with h|⟨h3,h4⟩|h
   .exact hU0 n (by omega) h
   .omega
   .omega
  have hoff:∀(ss:List Step) (st0:St),zO ops b (XL listed) m ss st0=st0:=fun ss st0=>zo4 ss m st0 (fun k hk=>by
   rcases uG k ops.size with h|h
   .rw [zm1 (by omega),hl k h];simp;omega
   .simp [XL,uB (show listed.size<=k by omega)])
  have hVX:∀{T:Nat},T<=m+(zbr r+1)->∀n,UX V base m T (fun _=>true) n->VV U base ops.size (m+(zbr r+1)) n:=by
   rintro T hT n (h|⟨k,h0,h1,_,h3⟩)
   .rcases hV n h with h|⟨h1,h2⟩|h
    .exact .inl h
    .exact .inr (.inl ⟨h1,by omega⟩)
    .exact .inr (.inr h)
   .have g1:=h3.1;have g2:=h3.2;exact .inr (.inl ⟨by omega,by omega⟩)
  have hFX:∀{T:Nat},T<=m+(zbr r+1)->∀n,st.nid<=n->¬ UX V base m T (fun _=>true) n:=by
   rintro T hT n hn' (h|⟨k,h0,h1,_,h3⟩)
   .exact hF n (by omega) h
   .have:=h3.2;omega
  have hmk:∀{gs:List (Nat×Foot)} {ss:List Step} {st0 st':St},(∀x∈gs,∀y∈gs,(¬ x.1<y.1\/x.1∈cl.getD y.1 [])\/x.2.apart y.2=true)->Trace C ops b base m ss gs st0 st'->Free C ops cl b base m ss st0:=by
   intro gs ss st0 st' hok htr;have hat:=zJ7 htr;refine ⟨fun i s hs=>?_,fun i k s s' o o' f f' hs hs' ho ho' h1 h2 hik hni=>?_⟩
   .obtain ⟨o,f,g1,g2,g3⟩:=hat i s hs;exact ⟨o,f,g1,g3⟩
   .obtain ⟨o1,f1,g1,g2,g3⟩:=hat i s hs;obtain ⟨o2,f2,e1,e2,e3⟩:=hat k s' hs';rw[ho] at g1;cases g1;rw[ho'] at e1;cases e1;have hf1:=zx4 h1 g3;have hf2:=zx4 h2 e3;subst hf1 hf2;rcases hok _ g2 _ e2 with (h|h)|h
    .exact absurd (by show m+i<m+k;omega) h
    .exact absurd h hni
    .exact h
  have hbelow:∀i,i<m->XL listed i=true:=fun i hi=>by rw[zm1 (by omega),hl i (by omega)];simp[hi]
  have habove:∀k,m<=k->k<ops.size->XL listed k=false:=fun k h1 h2=>by rw[zm1 (by omega),hl k h2];simp;omega
  rcases zmn (zbr r+1) m [] _ h with ⟨ss,gs,st',hlen,htr,hok,hden⟩|⟨ss,gs,st',oA,x,hlen,htr,hoA,hap,hbt,hlo,hxl,hok,hden⟩|⟨ss,gs,st',oA,hlen,htr,hoA,hcv,hlo,hlr,hok,hden⟩
  .rw [qY]at hok;unfold zhR at hok;simp only[qZ,qS,jS,decide_eq_false_iff_not,jA,qX,uQ]at hok;generalize hst0:({ st with ep:=if b then st.ep+1 else st.ep }:St)=st0 at htr hS0' hnid0 hd'
   have hfin:st'=zO ops b (fun _=>true) m ss st0:=zvL htr;refine zP9 (w0:=w0) (S0:=S0) (sv:=sv) hC hH hG W (T:=m+1+zbr r) (by omega) hfr1 hfr3 (hmk hok htr) hb' hd' hM (fun fl l' E' ts' w' hsz' hl' hf' hS'=>?_) fuel listed E ts w hsz (zi2 W hsz hl) hbelow (fun k h1 h2=>habove k (by omega) h2) hf ?_
   .rw [<- hfin]at hS';have hnid':st'.nid=st.nid:=by rw[hfin,zo3,hnid0]
    exact zgx hC hH hG hN hcall W hU0 hk fs (m+(zbr r+1)) (r.drop (zbr r)) _ st' E' ts' w' fl l' (by rw[hfr2];congr 1;omega) (by omega) hsz' (fun i hi=>by rw[hl' i hi];congr 1;simp only[eq_iff_iff];omega) hf' hS' (hVX (by omega)) (by rw[hnid'];exact hFX (by omega)) (by omega) hden
   .rw [hoff];exact hS0'.uses (fun n h=>.inl h)
  .rw [qY]at hok;unfold zhR at hok;simp only[qZ,qS,jS,decide_eq_false_iff_not,jA,qX,qH,uQ]at hok;generalize hst0:({ st with ep:=if b then st.ep+1 else st.ep }:St)=st0 at htr hS0' hnid0 hd'
   have hfin:st'=zO ops b (fun _=>true) m ss st0:=zvL htr;subst hfin;have hA:m+ss.length=m+zbr r:=by omega
   rw[hA]at hoA hlo hok;have hat:=zJ7 htr;refine zQg (w0:=w0) (S0:=S0) (sv:=sv) hC hH hG W hA (by omega) (fun h=>by
    have e:m+zbr r+1=m+1+zbr r:=by omega
    rw[e]at h ⊢;exact hfr3 h) (hmk (fun x hx y hy=>hok x (.inr hx) y (.inr hy)) htr) (fun hb k h1 h2=>hb' hb k h1 (by omega)) hbt hd' (fun k h1 h2=>hM k h1 (by omega)) hoA hap hlo hxl (fun i s o f hs ho h1 hni=>?_)
    (fun fl l' E' ts' w' v hsz' hl' hf' hv hS' hL=>?_) fuel listed E ts w hsz (zi2 W hsz hl) hbelow (fun k h1 h2=>habove k (by omega) h2) hf ?_
   .obtain ⟨o1,f1,g1,g2,g3⟩:=hat i s hs;rw[ho] at g1;cases g1;have hf1:=zx4 h1 g3;subst hf1;have hi:i<ss.length:=(qA.1 hs).1;rcases hok _ (.inr g2) _ (.inl rfl) with (h|h)|h
    .exact absurd (by show m+i<m+zbr r;omega) h
    .exact absurd h hni
    .exact h
   .have hnid':((zO ops b (fun _=>true) m ss st0).put oA.dst (.v (.at .bad))).nid=st.nid:=by rw[zdA,zo3,hnid0]
    exact zqG hC W (fun m' r' U' st'' E'' ts'' w'' fl' l'' h1 h2 h3 h4 h5 h6 h7 h8 h9 h10=>zgx hC hH hG hN hcall W hU0 hk fs m' r' U' st'' E'' ts'' w'' fl' l'' h1 h2 h3 h4 h5 h6 h7 h8 h9 h10)
     (r.drop (zbr r)) (m+(zbr r+1)) _ _ E' ts' w' fl l' v (by rw[hfr2];congr 1;omega) (by omega) hsz' (fun i hi=>by rw[hl' i hi];congr 1) hf' hS' (hVX (by omega)) (by rw[hnid'];exact hFX (by omega)) (by omega) hv hL hden
   .rw [hoff];exact hS0'.uses (fun n h=>.inl h)
  .rw [qY]at hok;unfold zhR at hok;simp only[qZ,qS,jS,decide_eq_false_iff_not,jA,qX,uQ]at hok;generalize hst0:({ st with ep:=if b then st.ep+1 else st.ep }:St)=st0 at htr hS0' hnid0 hd'
   have hfin:st'=zO ops b (fun _=>true) m ss st0:=zvL htr;subst hfin;have hA:m+ss.length=m+zbr r:=by omega
   rw[hA]at hoA hlo hlr hden;refine zPt (w0:=w0) (S0:=S0) (sv:=sv) (V:=U) hC hH hG hN hcall W (by omega) hA (by omega) (fun h=>by
    have e:m+zbr r+1=m+1+zbr r:=by omega
    rw[e]at h ⊢;exact hfr3 h) (hmk hok htr) (fun hb k h1 h2=>hb' hb k h1 (by omega)) hd' (fun k h1 h2=>hM k h1 (by omega)) hoA hcv hlo hlr ?_ hU0 (by omega) (fun n hn'=>by rw[hnid0]at hn';exact hFX (by omega) n hn') hden
    (fun fl l' U' st'' E' ts' w' hsz' hl' hf' g1 g2 g3 g4 g5=>zgx hC hH hG hN hcall W hU0 hk fs (m+(zbr r+1)) (r.drop (zbr r)) U' st'' E' ts' w' fl l' (by rw[hfr2];congr 1;omega) (by omega) hsz' (fun i hi=>by rw[hl' i hi];congr 1) hf' g1 g2 g4 g3 g5)
    fuel listed E ts w hsz (zi2 W hsz hl) hbelow (fun k h1 h2=>habove k (by omega) h2) hf ?_
   .rintro n (h|⟨k,h0,h1,_,h3⟩)
    .rcases hV n h with h|⟨h1,h2⟩|h
     .exact .inl h
     .exact .inr (.inl ⟨h1,by omega⟩)
     .exact .inr (.inr h)
    .have g1:=h3.1;have g2:=h3.2;exact .inr (.inl ⟨by omega,by omega⟩)
   .rw [hoff];exact hS0'.uses (fun n h=>.inl h)
theorem zSB (hC:CfgOk C)(hH:CtrOk C)(hG:GraftOk C)(hN:NameOk C):DrawOk C:=by
 refine ⟨fun call hcall ops k ans Q w0 S0 sv U0 nid0 U st E ts w hk hS hU hF hn h t=>?_⟩;unfold zyk at h;simp only at h;generalize hcl:zfo ops (List.range ops.size) []=cl at h;split at h
 case isFalse=>cases h
 rename_i hok;unfold zOk at hok;simp only[qD,qS,j8,qX]at hok;obtain ⟨hdep,hlt⟩:=hok;have hatc:∀i,i<ops.size->cl.getD i []=waits ops (cl.take i) i:=fun i hi=>by rw[<- hcl];exact zMe hi
 have hord:∀(md:Region.Mode) (rk:Nat->Nat),zEd md ops rk=true->∃rk:Nat->Nat,∀(i:Nat) (o:Oper),ops[i]?=some o->∀e∈o.after,Region.binds md e=true->e.on<ops.size/\rk e.on<rk i:=by
  intro md rk h;refine ⟨rk,fun i o ho e he hb=>?_⟩;have:=qS.1 h i (j8.2 (qR.1 ho).1);rw[ho] at this;have:=qS.1 this e (by simpa using he)
  simpa [hb] using this
 have mkW:∀(md:Region.Mode),(∀e,Region.binds .any e=true->Region.binds md e=true)->(∃rk:Nat->Nat,∀(i:Nat) (o:Oper),ops[i]?=some o->∀e∈o.after,Region.binds md e=true->e.on<ops.size/\rk e.on<rk i)->Waits md ops cl :=
  fun md h1 h2=>⟨hatc,hlt,h1,h2⟩
 have hsubT:∀e,Region.binds .any e=true->Region.binds .text e=true:=fun e h=>by
  unfold Region.binds at *;cases hg:e.ground<;>rw [hg]at h<;>simp at h ⊢
 have hsubG:∀e,Region.binds .any e=true->Region.binds .gc e=true:=fun e h=>by
  unfold Region.binds at *;cases hg:e.ground<;>rw [hg]at h<;>simp at h ⊢
 have hmodes:∃md t',Region.schedule (C.P.follows .mixedOrders) ops t=Region.linearise md ops t'/\Waits md ops cl:=by
  have anyW:Waits .any ops cl:=mkW .any (fun _ h=>h) ⟨fun i=>i,fun i o ho e he hb=>by
   have h1:=zSD hatc ho he hb;have hi:=(qR.1 ho).1;have h2:=hlt i hi _ h1;exact ⟨by omega,h2⟩⟩
  unfold Region.schedule
  by_cases hm:(C.P.follows .mixedOrders || !Region.departs ops)=true
  .rw [if_pos hm];exact ⟨.any,t,rfl,anyW⟩
  .rw [if_neg hm];have hd:Region.departs ops=true:=by
    cases h:Region.departs ops with
    | true=>rfl
    | false=>rw[h]at hm;simp at hm
   rw[hd,cond_true,qD]at hdep
   by_cases ht:(t % 2==0)=true
   .rw [if_pos ht];exact ⟨.text,t / 2,rfl,mkW .text hsubT (hord .text _ hdep.1)⟩
   .rw [if_neg ht];exact ⟨.gc,t / 2,rfl,mkW .gc hsubG (hord .gc _ hdep.2)⟩
 obtain ⟨md,t',hsch,W⟩:=hmodes;rw[hsch];refine wpAny_sound ops.size t' _ _ _ ?_;have hS1:Sim w0 S0 U { st with nid:=st.nid+32*ops.size } E ts sv { w with drawn:=w.drawn+1 }:=(hS.nid _).heap (w':={ w with drawn:=w.drawn+1 }) rfl rfl rfl rfl;refine zgx hC hH hG hN hcall W hF (fun U' st' E' ts' w' hS' hU' hn' hF' h'=>hk U' st' E' ts' w' hS' ?_ (by omega) hF' h') (ops.size+1) 0 (ze1 ops.size cl) U _ E ts _ ops.size _ rfl (by omega) (by simp) (fun i hi=>by simp[hi]) ?_ hS1 (fun n h=>.inl h) ?_ (qV _) h
 .intro n h;rcases hU' n h with h|⟨h1,_⟩|h
  .exact hU n h
  .exact .inr (by omega)
  .exact .inr (by omega)
 .unfold left;exact jC (List.countP_le_length) (by simp)
 .intro n hn' h;exact hF n (jC (kO _ _) hn') h
end
section
variable {P:Program}
def zKd:Value->CTy->Bool
 | .int k n,.i k'=>k==k'&&n==0
 | .bool b,.b=>!b
 | .slice none 0 0,.s _=>true
 | _,_=>false
def zsw:List Value->List CTy->Bool
 | [],[]=>true
 | v :: vs,t :: ts=>zKd v t&&zsw vs ts
 | _,_=>false
theorem zPl {v:Value}{t:CTy}(h:zKd v t=true):v=zeroV t:=by
 unfold zKd at h;split at h
 .simp only [qD,qI]at h;obtain ⟨rfl,rfl⟩:=h;rfl
 .simp only [qZ]at h;subst h;rfl
 .rfl
 .cases h
theorem zx0:∀{vs:List Value} {ts:List CTy},zsw vs ts=true->vs=ts.map zeroV
 | [],[],_=>rfl
 | v :: vs,t :: ts,h=>by
  simp only[zsw,qD]at h;rw[jG,zPl h.1,zx0 h.2]
 | [],_ :: _,h=>by cases h
 | _ :: _,[],h=>by cases h
def zuq (P:Program)(T:TypeId)(tys:List CTy):Bool :=
 match P.info? T with
 | some i=>i.size==tys.length&&(match i.zero with
  | some z=>zsw z.cells.toList tys
  | none=>false)
 | none=>false
theorem zur {T:TypeId}{tys:List CTy}(h:zuq P T tys=true):∃i z,P.info? T=some i/\i.size=tys.length/\i.zero=some z/\z.cells.toList=tys.map zeroV:=by
 unfold zuq at h;split at h
 .rename_i i hi;simp only[qD,qI]at h;obtain ⟨h1,h2⟩:=h;split at h2
  .rename_i z hz;exact ⟨i,z,hi,h1,hz,zx0 h2⟩
  .cases h2
 .cases h
def zjP (P:Program)(T:TypeId):Bool :=
 (match zbE P 4 T with
  | some (agg,tys)=>zuq P T tys&&(!agg||(match P.underlying T with
   | some (.struct fs)=>(fs.toList.mapM (fun f=>(P.info? f.type).map fun i=>(f.offset,i.size))).isSome
   | _=>false))
  | none=>true) &&
 (match P.underlying T with
  | some (.slice e)=>match zh zGW e with
   | some t=>zuq P e t.shape&&(match P.info? e with
    | some i=>decide (i.bytes<=1024)
    | none=>false)&&(match zbE P 4 e with
    | some (_,tys)=>decide (tys=t.shape)
    | none=>false)
   | none=>true
  | _=>true)
def zo1 (P:Program):List Field->Nat->List CTy->Bool
 | [],_,[]=>true
 | f :: fs,off,ty :: tys=>f.name != "_" && f.offset==off&&(match P.underlying f.type,ty with
  | some (.int k),.i k'=>k==k'
  | some .bool,.b=>true
  | _,_=>false)&&zo1 P fs (off+1) tys
 | _,_,_=>false
def zGF (P:Program)(T:TypeId):Bool :=
 match zbE P 4 T with
 | some (true,tys)=>!P.stoodInHeld T && !P.eqGuardType P.depth T&&(match P.underlying T with
  | some (.struct fs)=>zo1 P fs.toList 0 tys
  | _=>false)
 | _=>true
theorem zGE {n:Nat}{T:TypeId}{agg:Bool}{tys:List CTy}(h:zbE P n T=some (agg,tys)) :
 (∃d,P.underlying T=some d/\zHU d=agg/\(∀k,tys=[.i k]->agg=false->d = .int k)/\(tys=[.b]->agg=false->d = .bool))/\(agg=false->tys.length=1):=by
 cases n with
 | zero=>cases h
 | succ n =>
  simp only[zbE]at h;split at h
  .rename_i k hu;cases h;exact ⟨⟨_,hu,rfl,fun k' h _=>by simp only[List.cons.injEq,CTy.i.injEq,and_true]at h;rw[h],fun h=>by simp at h⟩,fun _=>rfl⟩
  .rename_i hu;cases h;exact ⟨⟨_,hu,rfl,fun k' h=>by simp at h,fun _ _=>rfl⟩,fun _=>rfl⟩
  .rename_i e hu;split at h
   .cases h;exact ⟨⟨_,hu,rfl,fun k' h=>by simp at h,fun h=>by simp at h⟩,fun _=>rfl⟩
   .cases h
  .rename_i fs hu;split at h
   .cases h;exact ⟨⟨_,hu,rfl,fun k' _ h=>(by cases h),fun _ h=>(by cases h)⟩,fun h=>by cases h⟩
   .cases h
  .cases h
theorem zAp {α:Type}{T:Nat}{x:Option α}{y:α}(h:below T x=some y):T<zd2/\x=some y:=by
 unfold below at h;cases hb:Nat.blt T zd2 with
 | false=>rw[hb]at h;cases h
 | true =>
  rw[hb]at h;exact ⟨by rwa [uN]at hb,h⟩
theorem mapM_at {α β:Type}{g:α->Option β}:∀{l:List α} {m:List β},l.mapM g=some m->∀{k:Nat} {x:α},l[k]?=some x->m[k]?=g x
 | [],m,h,k,x,hx=>by simp at hx
 | a :: l,m,h,k,x,hx=>by
  simp only[uK,Option.bind_eq_bind,k9,Option.pure_def,qC]at h;obtain ⟨b,hb,m',hm',rfl⟩:=h;cases k with
  | zero =>
   simp only[qF,qC]at hx;subst hx;rw[hb];rfl
  | succ k=>exact mapM_at hm' (by simpa using hx)
theorem zeH {α β:Type}{f:α->Option β}{a:α}{l:List α}{bs:List β}(h:zbz f (a :: l)=some bs):∃b bs',f a=some b/\zbz f l=some bs'/\bs=b :: bs':=by
 simp only[zbz]at h;split at h
 .rename_i b hb;split at h
  .rename_i bs' hbs;cases h;exact ⟨b,bs',hb,hbs,rfl⟩
  .cases h
 .cases h
theorem zxd (w:World)(d:Nat)(xs ys:Array Value):∀(fs:List Field) (off:Nat) (tys:List CTy) (l m:List At) (e:Bool),zo1 P fs off tys=true->zbz zjN l=some tys->zbz zjN m=some tys->zoY l m=some e ->
 xs.size=off+l.length->ys.size=off+m.length->(∀(j:Nat) (a:At) (u:Value),l[j]?=some a->xs[off+j]?=some u->VS a u)->(∀(j:Nat) (a:At) (u:Value),m[j]?=some a->ys[off+j]?=some u->VS a u) ->
 (Op.eqFields (d+1) xs ys fs).run P w = .ok e w
 | [],off,tys,l,m,e,hf,hl,hm,he,_,_,_,_=>by
  cases tys with
  | cons t ts=>cases hf
  | nil =>
   cases l with
   | cons a l=>obtain ⟨_,_,_,_,h⟩:=zeH hl;cases h
   | nil =>
    cases m with
    | cons a m=>obtain ⟨_,_,_,_,h⟩:=zeH hm;cases h
    | nil=>cases he;simp[Op.eqFields]
 | f :: fs,off,tys,l,m,e,hf,hl,hm,he,hsx,hsy,hx,hy=>by
  cases tys with
  | nil=>cases hf
  | cons ty tys =>
   cases l with
   | nil=>cases hl
   | cons a l =>
    cases m with
    | nil=>cases hm
    | cons c m =>
     obtain ⟨ta,tys',ha,hl',h⟩:=zeH hl;cases h;obtain ⟨tc,tys'',hc,hm',h⟩:=zeH hm;cases h;simp only[zo1,qD,bne_iff_ne,ne_eq,qI]at hf;obtain ⟨⟨⟨hn,hoff⟩,hk⟩,hrest⟩:=hf;have hxo:xs[off]?=some (xs[off]'(by simp only[qW]at hsx;omega)):=by simp
     have hyo:ys[off]?=some (ys[off]'(by simp only[qW]at hsy;omega)):=by simp
     have hvx:=hx 0 a _ rfl hxo;have hvy:=hy 0 c _ rfl hyo;have hstep:∃e0,zHb a c=some e0/\(part f.type xs f.offset).run P w = .ok (xs[off]'(by simp only[qW]at hsx;omega)) w/\(part f.type ys f.offset).run P w = .ok (ys[off]'(by simp only[qW]at hsy;omega)) w /\
      (Op.equalIn (d+1) f.type (xs[off]'(by simp only[qW]at hsx;omega)) (ys[off]'(by simp only[qW]at hsy;omega))).run P w = .ok e0 w:=by
      rw[hoff];cases a with
      | i k n =>
       simp only[zjN,qC]at ha;subst ha;cases c with
       | i k' n' =>
        simp only[zjN,qC,CTy.i.injEq]at hc;subst hc;cases hu:P.underlying f.type with
        | none=>rw[hu]at hk;cases hk
        | some D =>
         rw[hu]at hk;cases D<;>first|(cases hk;done)|skip
         refine ⟨ieq n n',by simp[zHb],by simp[part,isAgg,run_underlying hu,hxo],by simp[part,isAgg,run_underlying hu,hyo],?_⟩
         rw[show xs[off]'(by simp only[qW]at hsx;omega) = .int k' n from hvx,show ys[off]'(by simp only[qW]at hsy;omega) = .int k' n' from hvy]
         exact run_equalIn_int w d f.type k' _ n n' hu
       | b _=>simp[zjN]at hc
       | _=>simp[zjN]at hc
      | b x =>
       simp only[zjN,qC]at ha;subst ha;cases c with
       | b x' =>
        cases hu:P.underlying f.type with
        | none=>rw[hu]at hk;cases hk
        | some D =>
         rw[hu]at hk;cases D<;>first|(cases hk;done)|skip
         refine ⟨zml x x',by simp[zHb],by simp[part,isAgg,run_underlying hu,hxo],by simp[part,isAgg,run_underlying hu,hyo],?_⟩
         rw[show xs[off]'(by simp only[qW]at hsx;omega) = .bool x from hvx,show ys[off]'(by simp only[qW]at hsy;omega) = .bool x' from hvy]
         exact run_equalIn_bool' w d f.type x x' hu
       | i _ _=>simp[zjN]at hc
       | _=>simp[zjN]at hc
      | _=>simp[zjN]at ha
     obtain ⟨e0,he0,hp1,hp2,heq⟩:=hstep;have hcomb:∃e1,zoY l m=some e1/\e=(e0&&e1):=by
      cases l with
      | nil =>
       cases hl';cases m with
       | nil =>
        simp only[zoY,he0,qC]at he;exact ⟨true,rfl,by rw[<- he];simp⟩
       | cons c2 m=>obtain ⟨_,_,_,_,h⟩:=zeH hm';cases h
      | cons a2 l =>
       cases m with
       | nil=>cases hm';obtain ⟨_,_,_,_,h⟩:=zeH hl';cases h
       | cons c2 m =>
        simp only[zoY,he0]at he;split at he
        .rename_i x y h1 h2;cases h1;cases he;exact ⟨y,by simpa [zoY] using h2,rfl⟩
        .cases he
     obtain ⟨e1,he1,rfl⟩:=hcomb;have ih:=zxd w d xs ys fs (off+1) tys l m e1 hrest hl' hm' he1 (by simp only[qW]at hsx;omega) (by simp only[qW]at hsy;omega)
      (fun j a' u h1 h2=>hx (j+1) a' u (by simpa using h1) (by rw[<- h2];congr 1;omega)) (fun j a' u h1 h2=>hy (j+1) a' u (by simpa using h1) (by rw[<- h2];congr 1;omega))
     simp only[Op.eqFields,ne_eq,hn,not_false_eq_true,if_true,Sem.run_bind,hp1,hp2,Result.andThen_ok,heq,Sem.run_ite,ih];cases e0<;>simp
theorem zPu {C:Cfg}(hP:C.P=P)(hs:∀T,C.sty T=below T (zpy P T))(hc:∀T,C.cty T=below T (zbE P 4 T))(hf:∀T f,C.fof T f=zn5 P T f)(hchk:(List.range zd2).all (zjP P)=true)(heq:∀T,C.eqt T=true->T<zd2->zGF P T=true):CfgOk C:=by
 subst hP;have chk:∀T,T<zd2->zjP C.P T=true:=fun T hT=>qS.1 hchk T (j8.2 hT);have hcty:∀T agg tys,C.cty T=some (agg,tys)->T<zd2/\zbE C.P 4 T=some (agg,tys):=fun T agg tys h=>zAp (by rw[<- hc];exact h)
 refine ⟨fun T agg tys h=>?_,fun T t h=>?_,fun T f off n h=>?_,fun T tys h=>?_,fun T tys he h l m e xs ys w x y op hl hm hq hxs hys=>?_⟩
 .obtain ⟨hT,h⟩:=hcty T agg tys h;obtain ⟨h1,h2⟩:=zGE h;have:=chk T hT;unfold zjP at this;rw[h] at this;simp only[qD] at this;exact ⟨h1,zur this.1.1,h2⟩
 .rw [hs]at h;obtain ⟨hT,h⟩:=zAp h;unfold zpy at h;split at h
  .rename_i e hu;have:=chk T hT;unfold zjP at this;rw[hu] at this;simp only[h,qD] at this;obtain ⟨_,⟨h1,h2⟩,_⟩:=this;obtain ⟨i,z,g1,g2,g3,g4⟩:=zur h1;rw[g1]at h2;exact ⟨e,hu,i,z,g1,by rw[g2,zc9],g3,g4,by simpa using h2⟩
  .cases h
 .rw [hf]at h;unfold zn5 at h;split at h
  .rename_i fs hu;split at h
   .rename_i x hx;split at h
    .rename_i i hi;split at h
     .cases h
     .rename_i hne;cases h;exact ⟨fs,x,i,hu,hx,rfl,hi,rfl,hne⟩
    .cases h
   .cases h
  .cases h
 .obtain ⟨hT,h⟩:=hcty T true tys h;have:=chk T hT;unfold zjP at this;rw[h] at this;simp only[qD,jS,uC,kI,false_or] at this;obtain ⟨⟨_,h2⟩,_⟩:=this;split at h2
  .rename_i fs hu;obtain ⟨places,hp⟩:=k7.1 h2;refine ⟨fs,places,hu,hp,fun f off n hfo=>?_⟩;rw[hf]at hfo;unfold zn5 at hfo;rw[hu]at hfo;simp only at hfo;split at hfo
   .rename_i x hx;split at hfo
    .rename_i i hi;split at hfo
     .cases hfo
     .cases hfo;rw[mapM_at hp (by simpa using hx),hi]
      rfl
    .cases hfo
   .cases hfo
  .cases h2
 .obtain ⟨hT,h⟩:=hcty T true tys h;have:=heq T he hT;unfold zGF at this;rw[h] at this;simp only[qD,qZ] at this;obtain ⟨⟨h1,h2⟩,h3⟩:=this;split at h3
  .rename_i fs hu;have hfe:C.P.fieldsOf T=fs:=by simp[Program.fieldsOf,hu]
   refine ⟨run_eqGuard_agg w op T x y xs ys h2,?_⟩
   show (Op.equalIn (9999+1) T (.agg xs) (.agg ys)).run C.P w=_
   rw[run_equalIn_struct w 9999 T xs ys (by rw[hfe];exact hu) h1,hfe]
   exact zxd w 9998 xs ys fs.toList 0 tys l m e h3 hl hm hq (by rw[hxs.1];omega) (by rw[hys.1];omega) (fun j a u h1 h2=>hxs.2 j a u h1 (by simpa using h2)) (fun j a u h1 h2=>hys.2 j a u h1 (by simpa using h2))
  .cases h3
end
inductive CVOk:CV->Prop
 | i (k:IntKind) (n:Int) (h:k.min<=n/\n<=k.max):CVOk (.i k n)
 | b (x:Bool):CVOk (.b x)
 | s (t:Ty) (l:List t.den) (hl:l.length<=big) (h:∀(i:Nat) (x:t.den),l[i]?=some x->∀(j:Nat) (c:CV),(t.cells x)[j]?=some c->CVOk c):CVOk (.s t l)
section
variable {P:Program}
def zqK (P:Program)(tot:Nat):List Field->Nat->Bool
 | [],off=>off==tot
 | f :: fs,off=>f.offset==off&&Nat.blt f.type zd2&&zqK P tot fs (off+P.cellsOf f.type)
def zrr (P:Program)(T:TypeId):Bool :=
 match P.underlying T with
 | some (.struct fs)=>match zbE P 4 T with
  | some _=>zqK P (P.cellsOf T) fs.toList 0
  | none=>true
 | some (.slice e)=>match zh zGW e with
  | some _=>Nat.blt e zd2&&Nat.ble 1 (P.bytesOf e)
  | none=>true
 | _=>true
theorem zxo {α β:Type}{f g:α->Option β}(hfg:∀x y,f x=some y->g x=some y):∀{l:List α} {bs:List β},zbz f l=some bs->zbz g l=some bs
 | [],_,h=>h
 | a :: l,bs,h=>by
  obtain ⟨b,bs',h1,h2,rfl⟩:=zeH h;simp only[zbz,hfg a b h1,zxo hfg h2]
theorem zrh:∀{n:Nat} {T:TypeId} {x:Bool×List CTy},zbE P n T=some x->zbE P (n+1) T=some x
 | 0,_,_,h=>by cases h
 | n+1,T,x,h=>by
  rw[zbE]at h;rw[zbE];split at h
  .exact h
  .exact h
  .exact h
  .rename_i fs hu;split at h
   .rename_i l hl;rw[zxo (f:=_) (g:=_) ?_ hl]
    .exact h
    .intro f y hy;split at hy
     .rename_i z hz;cases hy;rw[zrh hz]
     .cases hy
   .cases h
  .cases h
theorem zKk {T:TypeId}{tys:List CTy}(h:zuq P T tys=true):P.cellsOf T=tys.length:=by
 obtain ⟨i,z,h1,h2,_⟩:=zur h;simp[Program.cellsOf,h1,h2]
theorem zQN {k:IntKind}{n:Int}(h:(Lit.int k n).wf=true):k.min<=n/\n<=k.max:=by
 simpa [Lit.wf] using h
theorem all_append {l m:List Nat}(h:(l++m).all (·<=reachBytes)=true):l.all (·<=reachBytes)=true/\m.all (·<=reachBytes)=true:=by
 simpa [List.all_append] using h
theorem zth {H:Type}{e:TypeId}:∀{l:List (DataW H)},(DataW.weightsAll P e l).all (·<=reachBytes)=true->∀{i:Nat} {d:DataW H},l[i]?=some d->(d.weights P e).all (·<=reachBytes)=true
 | [],_,i,d,h=>by simp at h
 | x :: l,hw,i,d,h=>by
  simp only[DataW.weightsAll]at hw;obtain ⟨h1,h2⟩:=all_append hw;cases i with
  | zero=>simp at h;subst h;exact h1
  | succ i=>exact zth h2 (by simpa using h)
def Opened (W:World)(cs:List Value)(tys:List CTy):Prop :=
 ∃cvs:List CV,cvs.map CV.ty=tys/\cs.length=cvs.length/\∀(j:Nat) (c:CV) (u:Value),cvs[j]?=some c->cs[j]?=some u->Rep false W u c (fun b=>b<W.heap.size)/\CVOk c
theorem Opened.append {W:World}{cs ds:List Value}{t1 t2:List CTy}(h1:Opened W cs t1)(h2:Opened W ds t2):Opened W (cs++ds) (t1++t2):=by
 obtain ⟨c1,a1,b1,d1⟩:=h1;obtain ⟨c2,a2,b2,d2⟩:=h2;refine ⟨c1++c2,by simp[a1,a2],by simp[b1,b2],fun j c u hc hu=>?_⟩
 by_cases hj:j<c1.length
 .rw [qT hj]at hc;rw[qT (by omega)]at hu
  exact d1 j c u hc hu
 .rw [qO (by omega)]at hc
  rw[qO (by omega)]at hu
  exact d2 _ c u hc (by rw[<- b1];exact hu)
theorem zAs {α:Type}:∀(n:Nat) (p:Nat->α->Prop),(∀i,i<n->∃x,p i x)->∃l:List α,l.length=n/\∀i x,l[i]?=some x->p i x
 | 0,p,_=>⟨[],rfl,fun i x h=>by simp at h⟩
 | n+1,p,h=>by
  obtain ⟨x,hx⟩:=h 0 (by omega)
  obtain ⟨l,h1,h2⟩:=zAs n (fun i=>p (i+1)) (fun i hi=>h (i+1) (by omega))
  refine ⟨x :: l,by simp[h1],fun i y hy=>?_⟩
  cases i with
  | zero=>simp at hy;subst hy;exact hx
  | succ i=>exact h2 i y (by simpa using hy)
theorem cells?_get {W:World}{a:Addr}{n:Nat}{cs:List Value}(h:W.cells? 0 a n=some cs):cs.length=n/\∀i,i<n->W.cell? (a.add i)=cs[i]?:=by
 unfold World.cells? at h;rw[if_pos (jZ _)]at h;refine ⟨by simpa using mapM_some_length h,fun i hi=>mapM_some_get h i i (by simp[hi])⟩
theorem addr_add (a:Addr)(h:a.spot=none)(n m:Nat):(a.add n).add m=⟨a.block,a.off+n+m,none⟩:=by
 obtain ⟨b,o,s⟩:=a;simp only at h;subst h;rw[add_lit,add_lit]
theorem zMV (hchk:∀T,T<zd2->zjP P T=true/\zrr P T=true){H:Type}{enc:TypeId×Value->H}{W:World} :
 ∀(fuel:Nat) (T:TypeId) (cs:List Value) (x:DataW H×List MemPlace),T<zd2->∀(agg:Bool) (tys:List CTy),zbE P 4 T=some (agg,tys) ->
  DataW.trod enc P W 0 (fun _=>true) true fuel T cs=some x->(x.1.weights P T).all (·<=reachBytes)=true->Opened W cs tys:=by
 intro fuel
 induction fuel using Nat.strongRecOn with
 | _ fuel ih =>
  intro T cs x hT agg tys hty hx hw;obtain ⟨hc1,hc2⟩:=hchk T hT;have hty0:=hty;rw[zbE]at hty;split at hty
  .rename_i k hu;cases hty;obtain ⟨n,rfl,rfl,hwf⟩:=DataW.trod_int hu hx;refine ⟨[.i k n],rfl,rfl,fun j c u hc hu'=>?_⟩;cases j with
   | zero=>simp at hc hu';subst hc hu';exact ⟨.i k n _,.i k n (zQN hwf)⟩
   | succ j=>simp at hc
  .rename_i hu;cases hty;obtain ⟨b,rfl,rfl⟩:=DataW.trod_bool hu hx;refine ⟨[.b b],rfl,rfl,fun j c u hc hu'=>?_⟩;cases j with
   | zero=>simp at hc hu';subst hc hu';exact ⟨.b b _,.b b⟩
   | succ j=>simp at hc
  .rename_i e hu;split at hty
   .rename_i t het;cases hty;have fin:∀(v:Value) (l:List t.den),Rep false W v (.s t l) (fun b=>b<W.heap.size)->CVOk (.s t l)->Opened W [v] [.s t]:=by
     intro v l h1 h2;refine ⟨[.s t l],rfl,rfl,fun j c u hc hu'=>?_⟩;cases j with
     | zero=>simp at hc hu';subst hc hu';exact ⟨h1,h2⟩
     | succ j=>simp at hc
    have empty:CVOk (.s t []):=.s t [] (jZ _) (fun i x h=>by simp at h)
    rcases DataW.trod_slice hu hx with ⟨rfl,rfl⟩|⟨a,len,cap,elems,rest,n,rfl,rfl,rfl,_,hlc,hcm,hel,hget,hsp,_⟩
    .exact fin _ [] (.nil t _) empty
    .obtain ⟨hrl,hrget⟩:=hsp rfl
     by_cases hcap:cap=0
     .subst hcap;have hl0:len=0:=by omega
      subst hl0;exact fin _ [] (.void t a _ rfl) empty
     .unfold zjP at hc1;rw[hu]at hc1;simp only[het,qD]at hc1;obtain ⟨_,⟨hinfo,_⟩,hec⟩:=hc1;unfold zrr at hc2;rw[hu]at hc2;simp only[het,qD,uN,Nat.ble_eq]at hc2;obtain ⟨he,hby⟩:=hc2;have hce:P.cellsOf e=t.width:=by rw[zKk hinfo,zc9]
      have hwpos:0<t.width:=by cases t<;>simp [Ty.width]
      rw[hce]at hget hrget
      have helem:∀i,i<cap->∃cs',W.cells? 0 (a.add (i*t.width)) t.width=some cs'/\(i<len->∃y,DataW.trod enc P W 0 (fun _=>true) true n e cs'=some y/\elems[i]?=some y):=by
       intro i hi
       by_cases hil:i<len
       .have h1:=hget i hil;rw[qB (by omega)]at h1
        obtain ⟨cs',h2,h3⟩:=k9.1 h1;exact ⟨cs',h2,fun _=>⟨_,h3,qB (by omega)⟩⟩
       .have h1:=hrget (i-len) (by omega)
        rw[qB (by omega)]at h1
        obtain ⟨cs',h2,h3⟩:=k9.1 h1;have e1:len+(i-len)=i:=by omega
        rw[e1]at h2;exact ⟨cs',h2,fun h=>absurd h hil⟩
      have hcell:∀i j,i<cap->j<t.width->∃v,W.cell? ((a.add (i*t.width)).add j)=some v:=by
       intro i j hi hj;obtain ⟨cs',h1,_⟩:=helem i hi;obtain ⟨h2,h3⟩:=cells?_get h1;exact ⟨_,(h3 j hj).trans (qB (by omega))⟩
      obtain ⟨v0,hv0⟩:=hcell 0 0 (by omega) hwpos
      have hadd0:(a.add (0*t.width)).add 0=a:=by simp[Addr.add]
      rw[hadd0]at hv0;obtain ⟨arr,et,fz,hb,hspot⟩:∃arr et fz,W.heap[a.block]?=some (.cells arr et fz)/\a.spot=none:=by
       unfold World.cell? at hv0;split at hv0
       .rename_i c et fz hb;split at hv0
        .cases hv0
        .rename_i hs;exact ⟨c,et,fz,hb,by simpa using hs⟩
       .cases hv0
      have hcarr:∀i j,W.cell? ((a.add (i*t.width)).add j)=arr[a.off+i*t.width+j]?:=by
       intro i j;rw[addr_add a hspot,cell_of_block hb]
      have hsize:a.off+cap*t.width<=arr.size:=by
       obtain ⟨v,hv⟩:=hcell (cap-1) (t.width-1) (by omega) (by omega)
       rw[hcarr]at hv;have:=(qR.1 hv).1;have h1:(cap-1)*t.width+t.width=cap*t.width:=by
        rw[<- jF];congr 1;omega
       omega
      have hwl:((DataW.slice (elems.map (·.1)) (rest.map (·.1))).weights P T).all (·<=reachBytes)=true:=hw;simp only[DataW.weights,hu,kQ,qD,qX,uI]at hwl;obtain ⟨hbytes,hwe⟩:=hwl;obtain ⟨hwe,_⟩:=all_append hwe;have hlen:len<=big:=by
       have h1:(elems.length+rest.length)*1<=(elems.length+rest.length)*P.bytesOf e:=Nat.mul_le_mul_left _ hby;have:reachBytes<=big:=by decide
       omega
      split at hec
      .rename_i agg' tys' hte;simp only[qX]at hec;subst hec
       have hex:∀i,i<len->∃y:t.den,∀(j:Nat) (c:CV) (u:Value),(t.cells y)[j]?=some c->arr[a.off+i*t.width+j]?=some u->Rep false W u c (fun b=>b<W.heap.size)/\CVOk c:=by
        intro i hi;obtain ⟨cs',h1,h2⟩:=helem i (by omega)
        obtain ⟨y,h3,h4⟩:=h2 hi;obtain ⟨cvs,g1,g2,g3⟩:=ih n (by omega) e cs' y he agg' t.shape hte h3 (zth hwe (by rw[qM,h4];rfl))
        obtain ⟨z,hz⟩:=zBK g1;refine ⟨z,fun j c u hc hu'=>g3 j c u ?_ ?_⟩
        .rw [<- zgD hz];exact hc
        .obtain ⟨k1,k2⟩:=cells?_get h1;have hj:j<t.width:=by have:=(qA.1 hc).1;rwa [zb6] at this
         rw[<- k2 j hj,hcarr];exact hu'
       obtain ⟨l,hl1,hl2⟩:=zAs len _ hex;have hvv:∀i j,i<l.length->j<t.width->arr[a.off+i*t.width+j]?=some ((arr[a.off+i*t.width+j]?).getD undef):=by
        intro i j hi hj;have h1:(i+1)*t.width<=cap*t.width:=qQ _ (by omega)
        rw[jF]at h1;have:a.off+i*t.width+j<arr.size:=by omega
        simp[this]
       have hrep:Rep false W (.slice (some ⟨a.block,a.off,none⟩) l.length cap) (.s t l) (fun b=>b<W.heap.size):=by
        refine .sl t l a.block a.off cap arr et fz (fun i j=>(arr[a.off+i*t.width+j]?).getD undef) (fun _ _ b=>b<W.heap.size) _ hb (fun h=>by cases h) (by omega) (by omega) hsize ?_ (fun i j x _ _ hx=>⟨hx,fun h=>by cases h⟩) (fun h=>by cases h) hvv ?_
        .exact (qR.1 hb).1
        .intro i z hz j c hc;have hi:i<l.length:=(qA.1 hz).1;have hj:j<t.width:=by have:=(qA.1 hc).1;rwa [zb6] at this
         exact (hl2 i z hz j c _ hc (hvv i j hi hj)).1
       have ha:a=⟨a.block,a.off,none⟩:=by
        obtain ⟨b,o,s⟩:=a;simp only at hspot;subst hspot;rfl
       rw[hl1,<- ha]at hrep;refine fin _ l hrep (.s t l (by omega) (fun i z hz j c hc=>?_))
       have hi:i<l.length:=(qA.1 hz).1;have hj:j<t.width:=by have:=(qA.1 hc).1;rwa [zb6] at this
       exact (hl2 i z hz j c _ hc (hvv i j hi hj)).2
      .cases hec
   .cases hty
  .rename_i fs hu;split at hty
   .rename_i l hl;cases hty;obtain ⟨xs,n,rfl,rfl,hcl,hxl,hfld⟩:=DataW.trod_struct hu hx;unfold zrr at hc2;rw[hu,hty0]at hc2;simp only at hc2;have hww:(DataW.weightsEach P (fs.toList.map (·.type)) (xs.map (·.1))).all (·<=reachBytes)=true:=by
     have:((DataW.agg (xs.map (·.1))).weights P T).all (·<=reachBytes)=true:=hw;simpa only [DataW.weights,hu] using this
    have key:∀(gs:List Field) (ys:List (DataW H×List MemPlace)) (ls:List (List CTy)) (off:Nat),zqK P (P.cellsOf T) gs off=true->gs.length=ys.length ->
     (∀(i:Nat) (f:Field),gs[i]?=some f->DataW.trod enc P W 0 (fun _=>true) true n f.type ((cs.drop f.offset).take (P.cellsOf f.type))=ys[i]?) ->
     zbz (fun (f:Field)=>match zbE P 3 f.type with|some x=>some x.2|none=>none) gs=some ls->(DataW.weightsEach P (gs.map (·.type)) (ys.map (·.1))).all (·<=reachBytes)=true ->
     off<=P.cellsOf T/\Opened W (cs.drop off) ls.flatten:=by
     intro gs
     induction gs with
     | nil =>
      intro ys ls off ho _ _ hls _;cases hls;simp only[zqK,qI]at ho;subst ho;refine ⟨qV _,[],rfl,by simp[hcl],fun j c u h=>by simp at h⟩
     | cons f gs ihg =>
      intro ys ls off ho hlen hf hls hwt;obtain ⟨b,ls',hb1,hb2,rfl⟩:=zeH hls;cases ys with
      | nil=>simp at hlen
      | cons y ys =>
       simp only[zqK,qD,qI,uN]at ho;obtain ⟨⟨ho1,ho2⟩,ho3⟩:=ho;split at hb1
       .rename_i z hz;cases hb1;obtain ⟨agg',tys'⟩:=z;have hy:=hf 0 f rfl;simp only[qF]at hy;simp only[jG,DataW.weightsEach]at hwt;obtain ⟨hw1,hw2⟩:=all_append hwt;have h4:=zrh hz;obtain ⟨g1,g2⟩:=ihg ys ls' (off+P.cellsOf f.type) ho3 (by simpa using hlen) (fun i g hg=>by simpa using hf (i+1) g (by simpa using hg)) hb2 hw2
        have o1:=ih n (by omega) f.type _ y ho2 agg' tys' h4 hy hw1
        rw[ho1] at o1;refine ⟨by omega,?_⟩
        have e1:cs.drop off=(cs.drop off).take (P.cellsOf f.type)++cs.drop (off+P.cellsOf f.type):=by
         rw[<- List.drop_drop,List.take_append_drop]
        rw[e1];exact Opened.append o1 g2
       .cases hb1
    have:=(key fs.toList xs l 0 hc2 (by simp[hxl]) (fun i f hf=>hfld i f (by simpa using hf)) hl hww).2
    simpa using this
   .cases hty
  .cases hty
end
theorem zLt:(List.range zd2).all (zjP Tryz.prog)=true:=by kernel_rfl
theorem zTk:zvU.all (fun T=>!Nat.blt T zd2||zGF Tryz.prog T)=true:=by kernel_rfl
theorem zPx:Tryz.prog.funcs.toList.all (fun fn=>!(fn.name == "runtime.NumGoroutine"))=true:=by kernel_rfl
theorem zSn (T:TypeId)(h0:zvU.contains T=true)(hT:T<zd2):zGF Tryz.prog T=true:=by
 have h1:T∈zvU:=by
  revert h0
  generalize zvU=l;intro h0;simpa using h0
 have hb:Nat.blt T zd2=true:=by rw[uN];exact hT
 have h2:=qS.1 zTk T h1;rw[hb,uC,Bool.false_or]at h2;exact h2
theorem zTj (ctr:FuncId->Option (List AV->Option (Bool×List AV)))(mct:FuncId->Option (CV->Int->Option (Bool×CV×Int)))(pct:FuncId->Option (List Bool×(List CV->List AV->Option (Bool×List CV×List AV))))(tct:FuncId->Option (List Bool×Option (Nat×Nat×List (List Nat))×(List AV->Option (Bool×List AV)))):CfgOk (zio ctr mct pct tct):=by
 have h1:(zio ctr mct pct tct).P=Tryz.prog:=by simp only[zio]
 have h2:∀T,(zio ctr mct pct tct).sty T=below T (zpy Tryz.prog T):=fun _=>by simp only[zio]
 have h3:∀T,(zio ctr mct pct tct).cty T=below T (zbE Tryz.prog 4 T):=fun _=>by simp only[zio]
 have h4:∀T f,(zio ctr mct pct tct).fof T f=zn5 Tryz.prog T f:=fun _ _=>by simp only[zio]
 have h5:∀T,(zio ctr mct pct tct).eqt T=zvU.contains T:=fun _=>by simp only[zio]
 refine zPu h1 h2 h3 h4 zLt ?_;intro T h hT;rw[h5]at h;exact zSn T h hT
theorem zSV (ctr:FuncId->Option (List AV->Option (Bool×List AV)))(mct:FuncId->Option (CV->Int->Option (Bool×CV×Int)))(pct:FuncId->Option (List Bool×(List CV->List AV->Option (Bool×List CV×List AV))))(tct:FuncId->Option (List Bool×Option (Nat×Nat×List (List Nat))×(List AV->Option (Bool×List AV)))):NameOk (zio ctr mct pct tct):=by
 refine ⟨fun f fn hf=>?_⟩;have:=qS.1 zPx fn (by
  have:Tryz.prog.funcs[f]?=some fn:=hf;rw[<- kJ] at this;exact qJ this)
 simpa using this
theorem zb7 {ctr:FuncId->Option (List AV->Option (Bool×List AV))}{mct:FuncId->Option (CV->Int->Option (Bool×CV×Int))}{pct:FuncId->Option (List Bool×(List CV->List AV->Option (Bool×List CV×List AV)))}{tct:FuncId->Option (List Bool×Option (Nat×Nat×List (List Nat))×(List AV->Option (Bool×List AV)))}(h:∀f run,ctr f=some run->Holds Tryz.prog f run)(hm:∀f run,mct f=some run->zAl Tryz.prog f run)(hp:∀f own run,pct f=some (own,run)->zcD Tryz.prog f own run)(ht:∀f own inp run,tct f=some (own,inp,run)->zcP Tryz.prog f own inp run):EngOk (zio ctr mct pct tct):=by
 have hC:=zTj ctr mct pct tct;have hH:CtrOk (zio ctr mct pct tct):=⟨h,fun f inp run hf=>ht f [] inp run hf⟩;have hG:=zQa hC ⟨hm⟩ ⟨hp⟩ ⟨ht⟩;have hN:=zSV ctr mct pct tct;exact ⟨hC,hH,hG,hN,zSB hC hH hG hN⟩
section
open Go Go.ChangeShapes Go.WideShapes Go.ChangeAt
def AV.sh:AV->Bool×List CTy
 | .one c=>(false,[c.ty])
 | .agg l=>(true,l.map CV.ty)
section
variable {P:Program}
theorem zEB {T:TypeId}{agg:Bool}{tys:List CTy}(h:zbE P 4 T=some (agg,tys)) :
 (agg=true/\∃fs,P.underlying T=some (.struct fs))\/(agg=false/\tys.length=1/\((∃k,P.underlying T=some (.int k))\/P.underlying T=some .bool\/∃e,P.underlying T=some (.slice e))):=by
 rw[zbE]at h;split at h
 .rename_i k hu;cases h;exact .inr ⟨rfl,rfl,.inl ⟨k,hu⟩⟩
 .rename_i hu;cases h;exact .inr ⟨rfl,rfl,.inr (.inl hu)⟩
 .rename_i e hu;split at h
  .cases h;exact .inr ⟨rfl,rfl,.inr (.inr ⟨e,hu⟩)⟩
  .cases h
 .rename_i fs hu;split at h
  .cases h;exact .inl ⟨rfl,fs,hu⟩
  .cases h
 .cases h
theorem zOT {W:World}{T:TypeId}{v:Value}{base:Nat}(hu:(∃k,P.underlying T=some (.int k))\/P.underlying T=some .bool\/∃e,P.underlying T=some (.slice e))(h:Value.okWide P W .any base T v):v.cells = #[v]:=by
 cases v with
 | agg cs =>
  exfalso;rcases hu with ⟨k,hu⟩|hu|⟨e,hu⟩<;>simp [Value.okWide,hu,Cell.okWide,Cell.ok]at h
 | _=>rfl
theorem zFh (hchk:∀T,T<zd2->zjP P T=true/\zrr P T=true){H:Type}{enc:TypeId×Value->H}{W:World}{base:Nat} :
 ∀(ts:List TypeId) (vs:List Value) (ds:List (DataW H)) (p:List MemPlace),DataW.TrodAll enc P W 0 (fun _=>true) true ts vs ds p ->
  (∀(j:Nat) (t:TypeId) (v:Value),ts[j]?=some t->vs[j]?=some v->Value.okWide P W .any base t v)->(∀t∈ts,t<zd2/\(zbE P 4 t).isSome=true) ->
  (DataW.weightsEach P ts ds).all (·<=reachBytes)=true ->
  ∃(avs:List AV) (xs:List Value),avs.map (fun a=>some a.sh)=ts.map (zbE P 4)/\zcb false W (zk avs) xs (fun _ b=>b<W.heap.size)/\zbm avs xs=vs/\∀c∈zk avs,CVOk c
 | [],vs,ds,p,h,_,_,_=>by
  obtain ⟨rfl,rfl,rfl⟩:=trodAll_nil h;exact ⟨[],[],rfl,⟨rfl,fun i c x h=>by simp[zk]at h⟩,rfl,fun c h=>by simp[zk]at h⟩
 | T :: ts,vs,ds,p,h,hv,ht,hw=>by
  obtain ⟨v,vs',d,ds',p1,q,rfl,rfl,rfl,h1,h2⟩:=trodAll_cons h;simp only[DataW.weightsEach]at hw;obtain ⟨hw1,hw2⟩:=all_append hw;obtain ⟨avs,xs,g1,g2,g3,g4⟩:=zFh hchk ts vs' ds' q h2 (fun j t v h1 h2=>hv (j+1) t v (by simpa using h1) (by simpa using h2)) (fun t h=>ht t (by simp[h])) hw2
  obtain ⟨hT,hsome⟩:=ht T (by simp)
  obtain ⟨⟨agg,tys⟩,htc⟩:=k7.1 hsome;obtain ⟨fuel,hf⟩:=h1;obtain ⟨cvs,e1,e2,e3⟩:=zMV hchk fuel T _ _ hT agg tys htc hf hw1;have hv0:=hv 0 T v rfl rfl;have app:∀a:AV,a.cvs=cvs->zcb false W (zk (a :: avs)) (v.cells.toList++xs) (fun _ b=>b<W.heap.size)/\∀c∈zk (a :: avs),CVOk c:=by
   intro a ha;have e:zk (a :: avs)=cvs++zk avs:=by simp[zk,ha]
   rw[e];refine ⟨zcb.append ⟨e2,fun i c x hc hx=>(e3 i c x hc hx).1⟩ g2,fun c hc=>?_⟩;rcases jQ.1 hc with hc|hc
   .obtain ⟨i,hi⟩:=qP.1 hc;have hlt:i<v.cells.toList.length:=by rw[e2];exact (qA.1 hi).1
    exact (e3 i c _ hi (qB hlt)).2
   .exact g4 c hc
  rcases zEB htc with ⟨rfl,fs,hu⟩|⟨rfl,hl1,hu⟩
  .obtain ⟨cs,rfl,_⟩:∃cs,v = .agg cs/\True:=by
    simp only[Value.okWide,hu]at hv0;obtain ⟨cs,h,_⟩:=hv0;exact ⟨cs,h,trivial⟩
   obtain ⟨a1,a2⟩:=app (.agg cvs) rfl;refine ⟨.agg cvs :: avs,_,?_,a1,?_,a2⟩
   .rw [jG,jG,g1,htc];simp only[AV.sh,e1]
   .simp only [Value.cells] at e2;simp only[zbm,Value.cells,<- e2,kK,kR,g3,jK]
  .have hcells:=zOT hu hv0;rw[<- e1]at hl1;obtain ⟨c,rfl⟩:∃c,cvs=[c]:=by
    match cvs,hl1 with
    | [c],_=>exact ⟨c,rfl⟩
   obtain ⟨a1,a2⟩:=app (.one c) rfl;refine ⟨.one c :: avs,_,?_,a1,?_,a2⟩
   .rw [jG,jG,g1,htc,<- e1];rfl
   .rw [hcells];simp only[zbm];simp[g3]
theorem ztg (hl:laidOutB P=true){H:Type}{enc:TypeId×Value->H}{W W':World}(hb:Go.RowKit.Below W.heap.size W W'){sp:Nat->Bool}:∀(ts:List TypeId) (vs:List Value) (ds:List (DataW H)) (ps:List MemPlace),(∀t∈ts,P.readableRec t=true/\t<P.types.size) ->
 DataW.TrodAll enc P W 0 (fun _=>true) true ts vs ds ps->(∀x∈ps,x.block<W.heap.size/\sp x.block=true)->DataW.TrodAll enc P W' 0 sp true ts vs ds ps
 | [],vs,ds,ps,_,h,_=>by
  obtain ⟨rfl,rfl,rfl⟩:=trodAll_nil h;exact rfl
 | T :: ts,vs,ds,ps,ht,h,hlt=>by
  obtain ⟨v,vs',d,ds',p,q,rfl,rfl,rfl,h1,h2⟩:=trodAll_cons h;obtain ⟨hr,hrow⟩:=ht T (by simp)
  exact ⟨p,q,WideElems.Trod_stays hl hr hrow h1 (fun x hx=>hb.same (hlt x (jV _ hx)).1) (fun x hx=>(hlt x (jV _ hx)).2),
   ztg hl hb ts vs' ds' q (fun t h=>ht t (by simp[h])) h2 (fun x hx=>hlt x (kD _ hx)),rfl⟩
theorem zFU {W W':World}(h:Grown W W')(may:MemPlace->Prop):W.keptBut W' may:=by
 refine ⟨h.os,h.output,fun i hi=>?_⟩;rw[h.keep i hi];cases hc:W.heap[i]? with
 | none=>rfl
 | some o =>
  cases o<;>first|rfl|exact ⟨rfl,rfl,rfl,fun _ _=>rfl⟩|exact .inr ⟨rfl,rfl⟩
def zOZ (P:Program)(ts:List TypeId):Bool:=ts.all fun T=>Nat.blt T zd2&&(zbE P 4 T).isSome&&P.readableRec T&&Nat.blt T P.types.size
def zQR (P:Program)(ts:List TypeId)(avs:List AV):Prop:=avs.map (fun a=>some a.sh)=ts.map (zbE P 4)/\∀c∈zk avs,CVOk c
def zGX (P:Program)(f:FuncId)(ts:List TypeId):Prop :=
 ∃run,Holds P f run/\∀avs,zQR P ts avs->run avs=some (true,[.one (.b true)])
theorem zBi (hchk:∀T,T<zd2->zjP P T=true/\zrr P T=true)(hlo:laidOutB P=true){s:ChangeSpec}{f:FuncId}{fn:Func}{B:TypeId}(hvars:s.vars=[])(hfn:∀(H:Type) (ds:List (DataW H)),ds.length=fn.params.toList.length->s.fn H ds={ results:=[.lit (.bool true)],args:=ds })(hpars:zOZ P fn.params.toList=true)(hres:fn.resultTypes = #[B])(hB:P.underlying B=some .bool)(hl:zGX P f fn.params.toList){H:Type}{enc:TypeId×Value->H}{apart fresh handsOn:Bool}(W:World)(base:Nat)(args:Array Value)(ds gs:List (DataW H))(before:List MemPlace)(hval:∀(j:Nat) t v,fn.params[j]?=some t->args[j]?=some v->Value.okWide P W .any base t v)(hW:DataW.Whole enc P fn.params.toList s.vars apart W args.toList ds gs before)(hsz:(DataW.weightsEach P (fn.params.toList++s.plain.varTypes P) (ds++gs)).all (·<=reachBytes)=true) :
 Calls P f args W fun e W'=>∃v,e = .returned v/\s.post enc P fn apart fresh handsOn false W args v W':=by
 have hW':=hW;obtain ⟨p,q,hA,hV,rfl,hfz,hnd⟩:=hW;rw[hvars]at hV;obtain ⟨rfl,rfl⟩:=trodVars_none hV;have hvt:s.plain.varTypes P=[]:=by
  unfold DataSpec.varTypes
  show s.vars.filterMap _=[]
  rw[hvars];rfl
 rw[hvt,qY,qY]at hsz;unfold zOZ at hpars;simp only[qS,qD,uN]at hpars;have hval':∀(j:Nat) (t:TypeId) (v:Value),fn.params.toList[j]?=some t->args.toList[j]?=some v->Value.okWide P W .any base t v:=by
  intro j t v h1 h2;rw[kJ]at h1 h2;exact hval j t v h1 h2
 obtain ⟨avs,xs,g1,g2,g3,g4⟩:=zFh hchk fn.params.toList args.toList ds p hA hval' (fun t ht=>⟨(hpars t ht).1.1.1,(hpars t ht).1.1.2⟩) hsz;obtain ⟨run,hH,hrun⟩:=hl;have hcall:=hH.2 W avs xs _ g2 (hrun avs ⟨g1,g4⟩);have hargs:(zbm avs xs).toArray=args:=by rw[g3,jK]
 rw[hargs]at hcall;have hlen:∀(ts:List TypeId) (vs:List Value) (ds:List (DataW H)) (ps:List MemPlace),DataW.TrodAll enc P W 0 (fun _=>true) true ts vs ds ps->ds.length=ts.length:=by
  intro ts
  induction ts with
  | nil=>intro vs ds ps h;obtain ⟨_,rfl,_⟩:=trodAll_nil h;rfl
  | cons t ts ih =>
   intro vs ds ps h;obtain ⟨v,vs',d,ds',p,q,rfl,rfl,rfl,_,h2⟩:=trodAll_cons h;simp[ih vs' ds' q h2]
 refine hcall.mono ?_;intro e W1 he;cases e with
 | panicked c=>exact he.elim
 | outgrown=>exact he.elim
 | returned v =>
  obtain ⟨hg,ys,K,hrep,hv,_⟩:=he;have hv1:v = .bool true:=by
   match ys,hrep with
   | [],h=>exact absurd h.1 (by simp[zk,AV.cvs])
   | [y],h =>
    have:=(h.2 0 (.b true) y rfl rfl).bool_inv;rw[hv,this];rfl
   | y :: z :: r,h=>exact absurd h.1 (by simp[zk,AV.cvs])
  subst hv1;refine ⟨_,rfl,ds,[],p++[],[],p,[],hW',?_,?_,?_,zFU hg _,fun h=>by cases h⟩
  .rw [qY,hfn H ds (hlen _ _ _ _ hA),hres];exact ⟨[],[],⟨1,by simp[DataW.trod,hB,Value.cells]⟩,rfl,rfl⟩
  .rw [qY,hfn H ds (hlen _ _ _ _ hA)];have hb:Go.RowKit.Below W.heap.size W W1:=⟨hg.os,hg.tape,hg.output,hg.size,hg.keep⟩;have hlt:∀x∈p,x.block<W.heap.size:=fun x hx=>by simpa using hW'.lt x (jV _ hx)
   exact ztg hlo hb _ _ _ _ (fun t ht=>⟨(hpars t ht).1.2,(hpars t ht).2⟩) hA (fun x hx=>⟨hlt x hx,by simpa using hlt x hx⟩)
  .rw [hvars,qY,hfn H ds (hlen _ _ _ _ hA)];rfl
end
theorem zTl:(List.range zd2).all (zrr Tryz.prog)=true:=by kernel_rfl
theorem zQf:laidOutB Tryz.prog=true:=by kernel_rfl
theorem own:ownKnob Tryz.prog.godebug=none:=by kernel_rfl
theorem zPw (T:TypeId)(hT:T<zd2):zjP Tryz.prog T=true/\zrr Tryz.prog T=true :=
 ⟨qS.1 zLt T (j8.2 hT),qS.1 zTl T (j8.2 hT)⟩
abbrev Good (ts:List TypeId)(avs:List AV):Prop:=zQR Tryz.prog ts avs
abbrev zLl (f:FuncId)(ts:List TypeId):Prop:=zGX Tryz.prog f ts
theorem zKg {ctr:FuncId->Option (List AV->Option (Bool×List AV))}{mct:FuncId->Option (CV->Int->Option (Bool×CV×Int))}{pct:FuncId->Option (List Bool×(List CV->List AV->Option (Bool×List CV×List AV)))}{tct:FuncId->Option (List Bool×Option (Nat×Nat×List (List Nat))×(List AV->Option (Bool×List AV)))}(hctr:∀f run,ctr f=some run->Holds Tryz.prog f run)(hmct:∀f run,mct f=some run->zAl Tryz.prog f run)(hpct:∀f own run,pct f=some (own,run)->zcD Tryz.prog f own run)(htct:∀f own inp run,tct f=some (own,inp,run)->zcP Tryz.prog f own inp run){f:FuncId}{ts:List TypeId}(hf:FnOk Tryz.prog f)(h:∀avs,Good ts avs->∃tms N D,evalFn (zio ctr mct pct tct) tms N D f avs=some [.one (.b true)]):zLl f ts:=by
 refine ⟨fun avs=>open Classical in if Good ts avs then some (true,[.one (.b true)]) else none,zsQ (zb7 hctr hmct hpct htct) hf ?_,fun avs hg=>by simp[hg]⟩
 intro avs rs _ hr;split at hr
 .rename_i hg;cases hr;exact h avs hg
 .cases hr
end
def St.blkEnd (st:St):List Bool->List At->List MV->Option (List CV×List Nat)
 | [],[],[]=>some ([],[])
 | own :: ms,a :: r,h :: hs =>
  match St.blkEnd st ms r hs with
  | none=>none
  | some (cs,ks) =>
   match a with
   | .i k n=>some (.i k n :: cs,ks)
   | .b x=>some (.b x :: cs,ks)
   | .sl q [] =>
    match st.root q with
    | some R =>
     match own with
     | true=>if R.own && !ks.contains q then some (.s R.t R.l :: cs,q :: ks) else none
     | false =>
      match h with
      | .v (.at (.sl q' []))=>if q==q' then some (.s R.t R.l :: cs,ks) else none
      | _=>none
    | none=>none
   | _=>none
 | _,_,_=>none
def zc3:List Bool->List CV->Nat->List (Nat×Root)
 | own :: ms,.s t l :: cs,id=>(id,⟨t,l,own,none⟩) :: zc3 ms cs (id+1)
 | _ :: ms,_ :: cs,id=>zc3 ms cs (id+1)
 | _,_,_=>[]
def zLw (own:List Bool)(cs:List CV)(args:List AV):St :=
 { tm:=.v (.at (.lp 0 0)) :: (zeu cs 0).map fun a=>.v (.at a),lo:=[(0,zeu cs 0)],ro:=zc3 own cs 0++zbR false args cs.length,stk:=[],nid:=cs.length+(args.flatMap AV.cvs).length+1,ep:=0 }
def zej (C:Cfg)(tms:FuncId->Nat->Option Tmpl)(N D:Nat)(f:FuncId)(own:List Bool)(cs:List CV)(args:List AV):Option Ans :=
 zo0 C tms N (zlO C tms N D) f (.v (.at (.lp 0 0)) :: (zbO args cs.length).map .v) (zLw own cs args) fun rs st =>
  match st.tm with
  | .v (.at (.lp l 0)) :: hs =>
   match zh st.lo l with
   | some cells =>
    match st.blkEnd own cells hs with
    | some (cs',ks) =>
     match zln st rs ks with
     | some ans=>some (.agg cs' :: ans)
     | none=>none
    | none=>none
   | none=>none
  | _=>none
section
variable {C:Cfg} {w0 w w1:World} {S0:zJ} {U:Nat->Prop} {st st1:St} {E E1:Env} {ts:Array Value} {sv:List (Array Value)}
structure BlkEnd (st:St) (own:List Bool) (cells:List At) (hs:List MV) (cs:List CV) (ks:List Nat):Prop where
 len:cs.length=cells.length
 hlen:hs.length=cells.length
 ownk:∀r∈ks,∃j,zI own j/\cells[j]?=some (.sl r [])
 get:∀(j:Nat) (a:At),cells[j]?=some a->(∃k n,a = .i k n/\cs[j]?=some (.i k n))\/(∃x,a = .b x/\cs[j]?=some (.b x)) \/
  ∃r R,a = .sl r []/\st.root r=some R/\cs[j]?=some (.s R.t R.l)/\((zI own j/\R.own=true/\r∈ks)\/(¬ zI own j/\hs[j]?=some (.v (.at (.sl r [])))))
 inj:∀(i j r:Nat),zI own i->zI own j->cells[i]?=some (.sl r [])->cells[j]?=some (.sl r [])->i=j
theorem zEV:∀(own:List Bool) (cells:List At) (hs:List MV) (cs:List CV) (ks:List Nat),st.blkEnd own cells hs=some (cs,ks)->BlkEnd st own cells hs cs ks
 | [],[],[],cs,ks,h=>by
  cases h;exact ⟨rfl,rfl,fun r h=>by simp at h,fun j a h=>by simp at h,fun i j r h=>by simp[zI]at h⟩
 | o :: ms,a :: r,hd :: hs,cs,ks,h=>by
  simp only[St.blkEnd]at h;split at h
  .cases h
  .rename_i cs0 ks0 h0;have ih:=zEV ms r hs cs0 ks0 h0;have tail:∀(ks1:List Nat) (c:CV),(∀x∈ks0,x∈ks1)->∀(j:Nat) (b:At),r[j]?=some b->(∃k n,b = .i k n/\(c :: cs0)[j+1]?=some (.i k n))\/(∃x,b = .b x/\(c :: cs0)[j+1]?=some (.b x)) \/
    ∃q R,b = .sl q []/\st.root q=some R/\(c :: cs0)[j+1]?=some (.s R.t R.l)/\((zI (o :: ms) (j+1)/\R.own=true/\q∈ks1)\/(¬ zI (o :: ms) (j+1)/\(hd :: hs)[j+1]?=some (.v (.at (.sl q []))))):=by
    intro ks1 c hks j b hb;rcases ih.get j b hb with h|h|⟨q,R,g1,g2,g3,g4⟩
    .exact .inl (by simpa using h)
    .exact .inr (.inl (by simpa using h))
    .refine .inr (.inr ⟨q,R,g1,g2,by simpa using g3,?_⟩)
     rcases g4 with ⟨h1,h2,h3⟩|⟨h1,h2⟩
     .exact .inl ⟨by simpa [zI] using h1,h2,hks q h3⟩
     .exact .inr ⟨by simpa [zI] using h1,by simpa using h2⟩
   have flat:∀(c:CV),(∀q,a≠.sl q [])->((∃k n,a = .i k n/\c = .i k n)\/(∃x,a = .b x/\c = .b x))->BlkEnd st (o :: ms) (a :: r) (hd :: hs) (c :: cs0) ks0:=by
    intro c hne hc;refine ⟨by simp[ih.len],by simp[ih.hlen],fun q hq=>?_,fun j b hb=>?_,fun i j q hi hj h1 h2=>?_⟩
    .obtain ⟨j,h1,h2⟩:=ih.ownk q hq;exact ⟨j+1,by simpa [zI] using h1,by simpa using h2⟩
    .cases j with
     | zero =>
      simp only[qF,qC]at hb;subst hb;rcases hc with ⟨k,n,h1,h2⟩|⟨x,h1,h2⟩
      .exact .inl ⟨k,n,h1,by simp[h2]⟩
      .exact .inr (.inl ⟨x,h1,by simp[h2]⟩)
     | succ j=>exact tail ks0 c (fun _ h=>h) j b (by simpa using hb)
    .cases i with
     | zero=>simp only[qF,qC]at h1;exact absurd h1 (hne q)
     | succ i =>
      cases j with
      | zero=>simp only[qF,qC]at h2;exact absurd h2 (hne q)
      | succ j =>
       have:=ih.inj i j q (by simpa [zI] using hi) (by simpa [zI] using hj) (by simpa using h1) (by simpa using h2)
       omega
   split at h
   .rename_i k n;cases h;exact flat _ (fun q h=>by cases h) (.inl ⟨k,n,rfl,rfl⟩)
   .rename_i x;cases h;exact flat _ (fun q h=>by cases h) (.inr ⟨x,rfl,rfl⟩)
   .rename_i q;split at h
    .rename_i R hR;split at h
     .split at h
      .rename_i hcond;simp only[qD,qZ,jA,decide_eq_false_iff_not]at hcond;obtain ⟨hown,hnk⟩:=hcond;cases h;refine ⟨by simp[ih.len],by simp[ih.hlen],fun x hx=>?_,fun j b hb=>?_,fun i j x hi hj h1 h2=>?_⟩
       .rcases qH.1 hx with rfl|hx
        .exact ⟨0,rfl,rfl⟩
        .obtain ⟨j,h1,h2⟩:=ih.ownk x hx;exact ⟨j+1,by simpa [zI] using h1,by simpa using h2⟩
       .cases j with
        | zero =>
         simp only[qF,qC]at hb;subst hb;exact .inr (.inr ⟨q,R,rfl,hR,by simp,.inl ⟨rfl,hown,jM⟩⟩)
        | succ j=>exact tail _ _ (fun x hx=>q9 _ hx) j b (by simpa using hb)
       .have old:∀(i:Nat),zI ms i->r[i]?=some (.sl q [])->False:=by
         intro i hi hq;rcases ih.get i _ hq with ⟨_,_,h,_⟩|⟨_,h,_⟩|⟨r',R',g1,g2,g3,g4⟩
         .cases h
         .cases h
         .cases g1;rcases g4 with ⟨_,_,h⟩|⟨h,_⟩
          .exact hnk h
          .exact h hi
        cases i with
        | zero =>
         cases j with
         | zero=>rfl
         | succ j =>
          simp only[qF,qC,At.sl.injEq,and_true]at h1;subst h1;exact (old j (by simpa [zI] using hj) (by simpa using h2)).elim
        | succ i =>
         cases j with
         | zero =>
          simp only[qF,qC,At.sl.injEq,and_true]at h2;subst h2;exact (old i (by simpa [zI] using hi) (by simpa using h1)).elim
         | succ j =>
          have:=ih.inj i j x (by simpa [zI] using hi) (by simpa [zI] using hj) (by simpa using h1) (by simpa using h2)
          omega
      .cases h
     .split at h
      .rename_i q';split at h
       .rename_i he;simp only[qI]at he;subst he;cases h;refine ⟨by simp[ih.len],by simp[ih.hlen],fun x hx=>?_,fun j b hb=>?_,fun i j x hi hj h1 h2=>?_⟩
        .obtain ⟨j,h1,h2⟩:=ih.ownk x hx;exact ⟨j+1,by simpa [zI] using h1,by simpa using h2⟩
        .cases j with
         | zero =>
          simp only[qF,qC]at hb;subst hb;exact .inr (.inr ⟨q,R,rfl,hR,by simp,.inr ⟨by simp[zI],rfl⟩⟩)
         | succ j=>exact tail _ _ (fun x hx=>hx) j b (by simpa using hb)
        .cases i with
         | zero=>simp[zI]at hi
         | succ i =>
          cases j with
          | zero=>simp[zI]at hj
          | succ j =>
           have:=ih.inj i j x (by simpa [zI] using hi) (by simpa [zI] using hj) (by simpa using h1) (by simpa using h2)
           omega
       .cases h
      .cases h
    .cases h
   .cases h
 | [],_ :: _,_,_,_,h=>by simp[St.blkEnd]at h
 | [],[],_ :: _,_,_,h=>by simp[St.blkEnd]at h
 | _ :: _,[],_,_,_,h=>by simp[St.blkEnd]at h
 | _ :: _,_ :: _,[],_,_,h=>by simp[St.blkEnd]at h
theorem zPq (a:Value)(vs:Array Value):(#[a]++vs)[0]?=some a:=by
 rw[jU (by simp)]
 rfl
theorem zPr (a:Value)(vs:Array Value)(i:Nat):(#[a]++vs)[i+1]?=vs[i]?:=by
 rw[kA (by simp)]
 simp
theorem zha:∀(own:List Bool) (cs:List CV) (id n:Nat) (R:Root),zh (zc3 own cs id) n=some R->id<=n/\∃t l,cs[n-id]?=some (.s t l)/\R.t=t/\HEq R.l l/\own[n-id]?=some R.own/\R=⟨t,l,R.own,none⟩
 | [],_,_,_,_,h=>by cases h
 | o :: ms,[],_,_,_,h=>by cases h
 | o :: ms,c :: cs,id,n,R,h=>by
  have hr:zh (zc3 ms cs (id+1)) n=some R->id<=n/\∃t l,(c :: cs)[n-id]?=some (.s t l)/\R.t=t/\HEq R.l l/\(o :: ms)[n-id]?=some R.own/\R=⟨t,l,R.own,none⟩:=fun h=>by
   obtain ⟨h1,t,l,h2,h3,h4,h5,h6⟩:=zha ms cs (id+1) n R h;have e:n-id=(n-(id+1))+1:=by omega
   exact ⟨by omega,t,l,by rw[e,jH];exact h2,h3,h4,by rw[e,jH];exact h5,h6⟩
  cases c with
  | i k x=>exact hr h
  | b x=>exact hr h
  | s t l =>
   simp only[zc3,zh]at h;split at h
   .rename_i he;simp only[qI]at he;subst he;cases h;exact ⟨qV _,t,l,by simp,rfl,HEq.rfl,by simp,rfl⟩
   .exact hr h
theorem zbw (hO:EngOk C){f:FuncId}{own:List Bool}{run:List CV->List AV->Option (Bool×List CV×List AV)}(hf:FnOk C.P f)(h:∀(cs:List CV) (avs:List AV) (cs':List CV) (rs:List AV),own.length=cs.length->(∃(w:World) (xs:Nat->Value) (K:Nat->zJ),∀(j:Nat) (c:CV),(cs++zk avs)[j]?=some c->Rep false w (xs j) c (K j))->run cs avs=some (true,cs',rs)->cs'.length=cs.length/\∃tms N D,zej C tms N D f own cs avs=some (.agg cs' :: rs)):zcD C.P f own run:=by
 refine ⟨hf,fun w blk vals e cs K avs xs Ka cs' rs hb hvs hol hcell hKlt hKd hxs hKa hrun=>?_⟩;obtain ⟨hcl,tms,N,D,hev⟩:=h cs avs cs' rs hol ⟨w,fun j=>if j<cs.length then (vals[j]?).getD undef else (xs[j-cs.length]?).getD undef,fun j=>if j<cs.length then K j else Ka,fun j c hc=>by
  by_cases hj:j<cs.length
  .rw [qT hj]at hc;have hu:=jW (show j<vals.size by omega)
   simp only[if_pos hj,hu,jT];exact (hcell j c _ hc hu).ro
  .rw [qO (by omega)]at hc
   have hlt:=(qA.1 hc).1;have hu:=qB (show j-cs.length<xs.length by rw[hxs.1];exact hlt)
   simp only[if_neg hj,hu,jT];exact hxs.2 _ c _ hc hu⟩ hrun
 unfold zej at hev;have hblt:blk<w.heap.size:=(qR.1 hb).1;generalize hst:zLw own cs avs=st at hev;have hro:st.ro=zc3 own cs 0++zbR false avs cs.length:=by rw[<- hst];rfl
 have hloe:st.lo=[(0,zeu cs 0)]:=by rw[<- hst];rfl
 have hstk:st.stk=[]:=by rw[<- hst];rfl
 have hnid:st.nid=cs.length+(zk avs).length+1:=by rw[<- hst];rfl
 have htme:st.tm = .v (.at (.lp 0 0)) :: (zeu cs 0).map fun a=>.v (.at a):=by rw[<- hst];rfl
 have hroot0:∀r R,zh st.ro r=some R->R.ep=none/\((r<cs.length/\own[r]?=some R.own/\cs[r]?=some (.s R.t R.l))\/(cs.length<=r/\r<cs.length+(zk avs).length/\R.own=false/\(zk avs)[r-cs.length]?=some (.s R.t R.l))):=by
  intro r R hR;rw[hro,zbi]at hR;split at hR
  .rename_i Q hQ;cases hR;obtain ⟨_,t,l,h2,_,_,h5,h6⟩:=zha own cs 0 r R hQ;rw[h6]at h5 ⊢;simp only[uR]at h2 h5;exact ⟨rfl,.inl ⟨(qA.1 h2).1,h5,h2⟩⟩
  .obtain ⟨h1,t,l,h2,rfl⟩:=zdi false avs cs.length r R hR;have:=(qA.1 h2).1;exact ⟨rfl,.inr ⟨h1,by omega,rfl,h2⟩⟩
 have hroot:∀r R,st.root r=some R->(r<cs.length/\own[r]?=some R.own/\cs[r]?=some (.s R.t R.l))\/(cs.length<=r/\R.own=false/\(zk avs)[r-cs.length]?=some (.s R.t R.l)):=by
  intro r R hR;rcases (hroot0 r R (zbb hR).1).2 with h|⟨h1,_,h2,h3⟩
  .exact .inl h
  .exact .inr ⟨h1,h2,h3⟩
 let E:Env:={ ρ:=fun n=>if n<cs.length then (vals[n]?).getD undef else (xs[n-cs.length]?).getD undef,φ:=fun n=>if n<cs.length then K n else Ka,β:=fun _=>blk,κ:=w }
 have hE1:∀n,n<cs.length->E.ρ n=(vals[n]?).getD undef/\E.φ n=K n:=fun n hn=>by simp only[E,if_pos hn,and_self]
 have hE2:∀n,cs.length<=n->E.ρ n=(xs[n-cs.length]?).getD undef/\E.φ n=Ka:=fun n hn=>by simp only[E,if_neg (show ¬ n<cs.length by omega),and_self]
 have hva:∀(j:Nat) (a:At) (u:Value),(zeu cs 0)[j]?=some a->vals[j]?=some u->u.oneCell'=true/\VA w st E a u:=by
  intro j a u ha hu;rw[zoq,jY]at ha;cases hc:cs[j]? with
  | none=>rw[hc]at ha;cases ha
  | some c =>
   rw[hc]at ha;cases ha;have hr:=hcell j c u hc hu;have hj:j<cs.length:=(qA.1 hc).1;refine ⟨hr.one,?_⟩;cases c with
   | i k n=>exact hr.int_inv
   | b x=>exact hr.bool_inv
   | s t l =>
    obtain ⟨⟨a,cap,hv,_⟩,_⟩:=hr.len;refine ⟨⟨a,_,cap,hv⟩,fun R _=>?_⟩;rw[(hE1 j hj).1,hu];rfl
 have hlo:∀l cells,zh st.lo l=some cells->l=0/\cells=zeu cs 0:=by
  intro l cells h;rw[hloe]at h;simp only[zh]at h;split at h
  .rename_i he;simp only[qI]at he;cases h;exact ⟨he.symm,rfl⟩
  .cases h
 have hp:VA w st E (.lp 0 0) (.pointer (some ⟨blk,0,none⟩)):=⟨⟨_,rfl⟩,fun _ _=>rfl⟩;have hids:∀a∈zeu cs 0,∀m∈a.ids,m<cs.length:=by
  intro a ha m hm;obtain ⟨j,hj⟩:=qP.1 ha;rw[zoq,jY]at hj;cases hc:cs[j]? with
  | none=>rw[hc]at hj;cases hj
  | some c =>
   rw[hc]at hj;cases hj;have:=zr3 hm;have:=(qA.1 hc).1;omega
 let S0:zJ:=fun b=>b=blk\/∃j,j<cs.length/\zI own j/\K j b
 have hS:Sim w S0 (fun n=>n<st.nid) st E (#[.pointer (some ⟨blk,0,none⟩)]++vals) [] w:=by
  refine ⟨⟨rfl,rfl,rfl,qV _,fun _ _ _=>rfl,fun r R hR=>?_,fun r R hR x hx=>?_,fun r R hR ho=>?_,fun r R r' R' hR ho hR' he hne x hx=>?_,fun l cells hl=>?_,fun l l' c1 c2 h1 h2 _=>?_,fun l cells r R hl hR=>?_,fun r R e hR he=>?_,rfl⟩,⟨fun n R hn=>?_,fun n cells hn=>?_,fun m hm n hn=>?_,fun f hf=>?_⟩,⟨?_,fun i m v hm hv=>?_⟩,?_⟩
  .rcases hroot r R hR with ⟨h1,h2,h3⟩|⟨h1,h2,h3⟩
   .have hu:=jW (show r<vals.size by omega)
    rw[(hE1 r h1).1,(hE1 r h1).2,hu];have:=hcell r _ _ h3 hu;rw[h2] at this;exact this
   .have hlt:=(qA.1 h3).1;have hu:=qB (show r-cs.length<xs.length by rw[hxs.1];exact hlt)
    rw[(hE2 r h1).1,(hE2 r h1).2,hu,h2];exact hxs.2 _ _ _ h3 hu
  .rcases hroot r R hR with ⟨h1,h2,h3⟩|⟨h1,h2,h3⟩
   .rw [(hE1 r h1).2]at hx;exact (hKlt r x h1 hx).1
   .rw [(hE2 r h1).2]at hx;exact (hKa x hx).1
  .rcases hroot r R hR with ⟨h1,h2,h3⟩|⟨h1,h2,h3⟩
   .refine ⟨(hroot0 r R (zbb hR).1).1,fun x hx=>.inl (.inr ⟨r,h1,?_,?_⟩)⟩
    .show own[r]?=some true
     rw[h2,ho]
    .rw [(hE1 r h1).2]at hx;exact hx
   .rw [h2]at ho;cases ho
  .rcases hroot r R hR with ⟨h1,h2,h3⟩|⟨h1,h2,h3⟩
   .have hor:zI own r:=by show own[r]?=some true;rw[h2,ho]
    rw[(hE1 r h1).2]at hx;rcases hroot r' R' hR' with ⟨h1',h2',h3'⟩|⟨h1',h2',h3'⟩
    .rw [(hE1 r' h1').2];exact hKd r r' x h1 h1' hor hne hx
    .rw [(hE2 r' h1').2];exact fun hk=>(hKa x hk).2.2 r h1 hor hx
   .rw [h2]at ho;cases ho
  .obtain ⟨rfl,rfl⟩:=hlo l cells hl;exact ⟨.inl (.inl rfl),vals,e,hb,by rw[hvs,zr2],fun j c u hc hu=>hva j c u hc hu⟩
  .rw [(hlo l c1 h1).1,(hlo l' c2 h2).1]
  .intro hx;rcases hroot r R hR with ⟨h1,h2,h3⟩|⟨h1,h2,h3⟩
   .rw [(hE1 r h1).2]at hx;exact (hKlt r _ h1 hx).2 rfl
   .rw [(hE2 r h1).2]at hx;exact (hKa _ hx).2.1 rfl
  .rw [(hroot0 r R hR).1]at he;cases he
  .rcases (hroot0 n R hn).2 with ⟨h1,_⟩|⟨_,h1,_⟩<;>omega
  .obtain ⟨rfl,rfl⟩:=hlo n cells hn;refine ⟨by omega,fun a ha m hm=>?_⟩
   have:=hids a ha m hm;omega
  .rw [htme]at hm;rcases qH.1 hm with rfl|hm
   .simp only [MV.ids,zbd,zA,At.ids,zS,zX,jL,j3,kY,qY,qE]at hn;omega
   .obtain ⟨a,ha,rfl⟩:=q0.1 hm;simp only[MV.ids,zbd,zA,j3,kY,qY]at hn;have:=hids a ha n hn;omega
  .rw [hstk]at hf;simp at hf
  .rw [htme];simp[zr2,hvs];omega
  .rw [htme]at hm;cases i with
   | zero=>rw[zPq]at hv;simp at hm hv;subst hm hv;exact hp
   | succ i =>
    simp only[jH,qM]at hm;have hv':vals[i]?=some v:=by rw[zPr]at hv;exact hv
    cases ha:(zeu cs 0)[i]? with
    | none=>rw[ha]at hm;cases hm
    | some a=>rw[ha]at hm;cases hm;exact (hva i a v ha hv').2
  .rw [hstk];trivial
 obtain ⟨hl1,hl2⟩:=zet (w:=w) (st:=st) (E:=E) avs xs cs.length hxs.1 (fun i c u hc hu=>by
  have hr:=hxs.2 i c u hc hu;refine ⟨?_,hr.one⟩;cases c with
  | i k n=>exact hr.int_inv
  | b x=>exact hr.bool_inv
  | s t l =>
   obtain ⟨⟨a,cap,hv,_⟩,_⟩:=hr.len;refine ⟨⟨a,_,cap,hv⟩,fun R hR=>?_⟩;have e:cs.length+i-cs.length=i:=by omega
   rw[(hE2 _ (kO _ _)).1,e,hu];rfl)
 obtain ⟨_,hcalls⟩:=zgM hO (zfY hO (tms:=tms) (N:=N) D) f _ st _ _ hev w S0 _ E _ [] w (#[.pointer (some ⟨blk,0,none⟩)]++(zbm avs xs).toArray)
  (fun v w'=>w'.os=w.os/\w'.tape=w.tape/\w'.output=w.output/\w.heap.size<=w'.heap.size /\
   (∀b,b<w.heap.size->b≠blk->(∀j,j<cs.length->zI own j->¬ K j b)->w'.heap[b]?=w.heap[b]?) /\
   ∃(vals':Array Value) (e':TypeId) (K':Nat->zJ) (ys:List Value) (Kr:Nat->zJ),w'.heap[blk]?=some (.cells vals' e' (0,0))/\vals'.size=cs'.length/\cs'.length=cs.length /\
    (∀(j:Nat) (c:CV) (u:Value),cs'[j]?=some c->vals'[j]?=some u->match c with
     | .i k n=>u = .int k n
     | .b x=>u = .bool x
     | .s t l=>(zI own j->Rep true w' u (.s t l) (K' j))/\(¬ zI own j->vals[j]?=some u)) /\
    zcb true w' (zk rs) ys Kr/\v=zgZ (zbm rs ys) /\
    (∀j x,j<cs.length->K' j x->x<w'.heap.size/\x≠blk/\((∃i,i<cs.length/\zI own i/\K i x)\/w.heap.size<=x)) /\
    (∀i x,i<(zk rs).length->Kr i x->x<w'.heap.size/\x≠blk/\((∃i,i<cs.length/\zI own i/\K i x)\/w.heap.size<=x)) /\
    (∀i j x,i<cs.length->j<cs.length->i≠j->K' i x->¬ K' j x) /\
    (∀i j x,i<(zk rs).length->j<(zk rs).length->i≠j->Kr i x->¬ Kr j x) /\
    (∀i j x,i<cs.length->j<(zk rs).length->K' i x->¬ Kr j x)) hS (fun n hn h=>by omega)
  (by simp[hl1]) (fun i m v hm hv=>by
   cases i with
   | zero=>rw[zPq]at hv;simp at hm hv;subst hm hv;exact hp
   | succ i =>
    simp only[jH,qM]at hm;have hv':(zbm avs xs)[i]?=some v:=by rw[zPr]at hv;simpa using hv
    cases hx:(zbO avs cs.length)[i]? with
    | none=>rw[hx]at hm;cases hm
    | some x=>rw[hx]at hm;cases hm;exact hl2 i x v hx hv')
  (fun m hm n hn=>by
   rcases qH.1 hm with rfl|hm
   .simp only [MV.ids,zbd,zA,At.ids,zS,zX,jL,j3,kY,qY,qE]at hn;omega
   .obtain ⟨x,hx,rfl⟩:=q0.1 hm;simp only[MV.ids,zbd,qN]at hn;obtain ⟨a,ha,hn⟩:=hn;have:=(zdj avs cs.length n x a hx ha hn).2;omega)
  (fun U' st' E' w' tvs v hS' _ _ _ hv _ hans=>by
   split at hans
   .rename_i l hs htm;split at hans
    .rename_i cells hcells;split at hans
     .rename_i cs1 ks hbe;split at hans
      .rename_i ans hansof;simp only[qC,List.cons.injEq,AV.agg.injEq]at hans;obtain ⟨rfl,rfl⟩:=hans;have hB:=zEV own cells hs _ ks hbe;have hM:=hS'.mem;obtain ⟨hts,htv⟩:=hS'.tm;have hlp:=htv 0 (.v (.at (.lp l 0))) (.pointer (some ⟨blk,0,none⟩)) (by rw[htm];rfl) (zPq _ _)
       have hβ:E'.β l=blk:=by
        have:=hlp.2 cells hcells;simp only[Value.pointer.injEq,qC,Addr.mk.injEq,and_true] at this;exact this.symm
       obtain ⟨us,rfl,hul,huv⟩:=zri hv;obtain ⟨ats,ys,kr,hG,hyl,hyv,rfl,hkr,_⟩:=zfH tvs ks _ us hansof hul huv;obtain ⟨_,vals',e',hb',hsz',hcv⟩:=hM.loc l cells hcells;rw[hβ]at hb';have hS0:∀x,(S0 x\/w.heap.size<=x)->x≠blk->((∃i,i<cs.length/\zI own i/\K i x)\/w.heap.size<=x):=by
        intro x h hne;rcases h with (h|h)|h
        .exact absurd h hne
        .exact .inl h
        .exact .inr h
       have hnb:∀r R x,st'.root r=some R->E'.φ r x->x≠blk:=by
        intro r R x hR hx he;subst he;rw[<- hβ]at hx;exact hM.lro l cells r R hcells hR hx
       have hget:∀i,i<(zk ans).length->∃a,ats[i]?=some a:=fun i hi=>⟨_,qB (by rw[<- hG.len];exact hi)⟩
       let K':Nat->zJ:=fun j x=>zI own j/\cφ E' cells j x
       have hK':∀j x,K' j x->∃r R,cells[j]?=some (.sl r [])/\zI own j/\st'.root r=some R/\R.own=true/\r∈ks/\E'.φ r x:=by
        intro j x hx;obtain ⟨ho,hx⟩:=hx;obtain ⟨a,ha,hx⟩:=zn4 hx;rcases hB.get j a ha with ⟨_,_,rfl,_⟩|⟨_,rfl,_⟩|⟨r,R,rfl,h1,h2,h3⟩
        .exact hx.elim
        .exact hx.elim
        .rcases h3 with ⟨_,h4,h5⟩|⟨h4,_⟩
         .exact ⟨r,R,ha,ho,h1,h4,h5,hx⟩
         .exact absurd ho h4
       have hKr:∀i x,cφ E' ats i x->∃r∈kr,∃R,ats[i]?=some (.sl r [])/\st'.root r=some R/\R.own=true/\E'.φ r x:=by
        intro i x hx;obtain ⟨a,ha,hx⟩:=zn4 hx;obtain ⟨r,hr,rfl,hrx⟩:=hG.fi ha hx;obtain ⟨R,hR,ho⟩:=hG.own r hr;exact ⟨r,hr,R,ha,hR,ho,hrx⟩
       refine ⟨hM.os,hM.tape,hM.output,hM.size,fun b hb hne hnk=>hM.keep b hb (fun h=>?_),vals',e',K',ys,cφ E' ats,hb',by rw[hsz',hB.len],hcl,fun j c u hc hu=>?_,⟨by rw[hyl,hG.len],fun i c x hc hx=>?_⟩,rfl,fun j x hj hx=>?_,fun i x hi hx=>?_,fun i j x hi hj hne hx hx'=>?_,fun i j x hi hj hne hx hx'=>?_,fun i j x hi hj hx hx'=>?_⟩
       .rcases h with h|⟨j,hj,ho,hk⟩
        .exact hne h
        .exact hnk j hj ho hk
       .have hj:j<cells.length:=by rw[<- hB.len];exact (qA.1 hc).1
        have ha:=qB hj;obtain ⟨_,hva'⟩:=hcv j _ u ha hu;rcases hB.get j _ ha with ⟨k,n,h1,h2⟩|⟨y,h1,h2⟩|⟨r,R,h1,h2,h3,h4⟩
        .rw [hc]at h2;cases h2;rw[h1]at hva';exact hva'
        .rw [hc]at h2;cases h2;rw[h1]at hva';exact hva'
        .rw [hc]at h3;cases h3;rw[h1]at hva' ha;have hρ:=hva'.2 R h2;simp only[zF,qC]at hρ;refine ⟨fun ho=>?_,fun hno=>?_⟩
         .rcases h4 with ⟨_,h5,_⟩|⟨h5,_⟩
          .have hr:=hM.rep r R h2;rw[h5,hρ]at hr;exact hr.weak (fun x hx=>⟨ho,by rw[zeN ha];exact hx⟩)
          .exact absurd ho h5
         .rcases h4 with ⟨h5,_⟩|⟨_,h5⟩
          .exact absurd h5 hno
          .have hjc:j<cs.length:=by rw[<- hcl,hB.len];exact hj
           have hu0:=jW (show j<vals.size by omega)
           have hsl:=htv (j+1) (.v (.at (.sl r []))) vals[j] (by rw[htm,jH];exact h5) (by rw[zPr];exact hu0)
           have hρ':=hsl.2 R h2;simp only[zF,qC]at hρ';rw[hu0,<- hρ',hρ]
       .obtain ⟨a,ha⟩:=hget i (qA.1 hc).1;rw[zeN ha];exact hG.rep hM ha hc (hyv i a x ha hx)
       .obtain ⟨r,R,_,ho,h1,h2,h3,h4⟩:=hK' j x hx;have:=hnb r R x h1 h4;exact ⟨hM.rlt r R h1 x h4,this,hS0 x ((hM.mine r R h1 h2).2 x h4) this⟩
       .obtain ⟨r,hr,R,_,h1,h2,h4⟩:=hKr i x hx;have:=hnb r R x h1 h4;exact ⟨hM.rlt r R h1 x h4,this,hS0 x ((hM.mine r R h1 h2).2 x h4) this⟩
       .obtain ⟨r,R,g1,ho,h1,h2,h3,h4⟩:=hK' i x hx;obtain ⟨r',R',g1',ho',h1',h2',h3',h4'⟩:=hK' j x hx';have:=hM.own_apart h1 h2 h1' h2' h4 h4';subst this;exact hne (hB.inj i j r ho ho' g1 g1')
       .obtain ⟨r,hr,R,g1,h1,h2,h4⟩:=hKr i x hx;obtain ⟨r',hr',R',g1',h1',h2',h4'⟩:=hKr j x hx';have:=hM.own_apart h1 h2 h1' h2' h4 h4';subst this;exact hne (hG.inj i j r g1 g1')
       .obtain ⟨r,R,g1,ho,h1,h2,h3,h4⟩:=hK' i x hx;obtain ⟨r',hr',R',g1',h1',h2',h4'⟩:=hKr j x hx';have:=hM.own_apart h1 h2 h1' h2' h4 h4';subst this;exact hkr r hr' h3
      .cases hans
     .cases hans
    .cases hans
   .cases hans)
 refine hcalls.mono ?_;intro ex w' he;cases ex with
 | returned v=>exact he
 | panicked chain=>exact he.elim
 | outgrown=>exact he.elim
end
def zMr (C:Cfg)(tms:FuncId->Nat->Option Tmpl)(N D:Nat)(f:FuncId)(own:List Bool)(args:List AV):Option Ans :=
 zo0 C tms N (zlO C tms N D) f ((zbO args 0).map .v) { tm:=[],lo:=[],ro:=zc3 own (args.flatMap AV.cvs) 0,stk:=[],nid:=(args.flatMap AV.cvs).length,ep:=0 } fun rs st=>zln st rs []
def zvV (C:Cfg)(tms:FuncId->Nat->Option Tmpl)(N D:Nat)(f:FuncId)(own:List Bool)(ja jr:Nat)(js:List (List Nat))(t:Ty)(args:List AV):Option Ans :=
 zo0 C tms N (zlO C tms N D) f ((zbO args 0).map .v) { tm:=[.v (.at (.kp ja js t))],lo:=[],ro:=zc3 own (args.flatMap AV.cvs) 0,stk:=[],nid:=(args.flatMap AV.cvs).length,ep:=0 } fun rs st =>
  match st.tm,(rs.flatMap zA)[jr]? with
  | [.v (.at (.kp n J t'))],some (.sl m [])=>cond (Nat.beq n m&&(J==js&&decide (t'=t))) (zln st rs []) none
  | _,_=>none
section
variable {C:Cfg} {w0 w w1:World} {S0:zJ} {U:Nat->Prop} {st st1:St} {E E1:Env} {ts:Array Value} {sv:List (Array Value)}
theorem zCF (hO:EngOk C){f:FuncId}{own:List Bool}{run:List AV->Option (Bool×List AV)}(hf:FnOk C.P f)(hal0:zfm f=[[]])(h:∀(avs:List AV) (rs:List AV),own.length=(zk avs).length->(∃(w:World) (xs:Nat->Value) (K:Nat->zJ),∀(j:Nat) (c:CV),(zk avs)[j]?=some c->Rep false w (xs j) c (K j))->run avs=some (true,rs)->∃tms N D,zMr C tms N D f own avs=some rs)(hne:own.isEmpty=false:=by rfl):zcP C.P f own none run:=by
 refine zcP.of (by rintro rfl;cases hne) ?_
 intro al hal;rw[hal0,qE]at hal;subst hal;refine ⟨hf,fun w K avs xs rs hxl hol hrep hKlt hKd0 _ hrun=>?_⟩;have hKd:=fun i j x hi hj ho hne=>hKd0 i j x hi hj ho hne (by simp)
 obtain ⟨tms,N,D,hev⟩:=h avs rs hol ⟨w,fun j=>(xs[j]?).getD undef,K,fun j c hc=>by
  have hlt:=(qA.1 hc).1;have hu:=qB (show j<xs.length by rw[hxl];exact hlt)
  simp only[hu,jT];exact (hrep j c _ hc hu).ro⟩ hrun
 unfold zMr at hev;generalize hst:({ tm:=[],lo:=[],ro:=zc3 own (avs.flatMap AV.cvs) 0,stk:=[],nid:=(avs.flatMap AV.cvs).length,ep:=0 }:St)=st at hev;have hro0:st.ro=zc3 own (zk avs) 0:=by rw[<- hst];rfl
 have hroot0:∀r R,zh st.ro r=some R->R.ep=none/\r<(zk avs).length/\own[r]?=some R.own/\(zk avs)[r]?=some (.s R.t R.l):=by
  intro r R hR;rw[hro0]at hR;obtain ⟨_,t,l,h2,_,_,h5,h6⟩:=zha own (zk avs) 0 r R hR;rw[h6]at h5 ⊢;simp only[uR]at h2 h5;exact ⟨rfl,(qA.1 h2).1,h5,h2⟩
 have hlo:∀l,zh st.lo l=none:=fun l=>by rw[<- hst];rfl
 let E:Env:={ ρ:=fun n=>(xs[n]?).getD undef,φ:=K,β:=fun _=>0,κ:=w }
 let S0:zJ:=fun b=>∃j,j<(zk avs).length/\zI own j/\K j b
 have hS:Sim w S0 (fun n=>n<(zk avs).length) st E #[] [] w:=by
  refine ⟨⟨rfl,rfl,rfl,qV _,fun _ _ _=>rfl,fun r R hR=>?_,fun r R hR x hx=>?_,fun r R hR ho=>?_,fun r R r' R' hR ho hR' _ hne x hx=>?_,fun l cs hl=>?_,fun l l' cs cs' hl=>?_,fun l cs r R hl=>?_,fun r R e hR he=>?_,rfl⟩,⟨fun n R hn=>?_,fun n cs hn=>?_,fun m hm=>?_,fun f hf=>?_⟩,⟨?_,fun i m v hm=>?_⟩,?_⟩
  .obtain ⟨_,h1,h2,h3⟩:=hroot0 r R (zbb hR).1;have hu:=qB (show r<xs.length by omega)
   show Rep R.own w ((xs[r]?).getD undef) _ (K r)
   have:=hrep r _ _ h3 hu;rw[h2] at this;rw[hu];exact this
  .obtain ⟨_,h1,_,_⟩:=hroot0 r R (zbb hR).1;exact hKlt r x h1 hx
  .obtain ⟨he,h1,h2,_⟩:=hroot0 r R (zbb hR).1;refine ⟨he,fun x hx=>.inl ⟨r,h1,?_,hx⟩⟩
   show own[r]?=some true
   rw[h2,ho]
  .obtain ⟨_,h1,h2,_⟩:=hroot0 r R (zbb hR).1;obtain ⟨_,h1',_,_⟩:=hroot0 r' R' (zbb hR').1;exact hKd r r' x h1 h1' (by show own[r]?=some true;rw[h2,ho]) hne hx
  .rw [hlo]at hl;cases hl
  .rw [hlo]at hl;cases hl
  .rw [hlo]at hl;cases hl
  .rw [(hroot0 r R hR).1]at he;cases he
  .exact (hroot0 n R hn).2.1
  .rw [hlo]at hn;cases hn
  .rw [<- hst]at hm;simp at hm
  .rw [<- hst]at hf;simp at hf
  .rw [<- hst];rfl
  .rw [<- hst]at hm;simp at hm
  .rw [<- hst];trivial
 obtain ⟨hl1,hl2⟩:=zet (w:=w) (st:=st) (E:=E) avs xs 0 hxl (fun i c u hc hu=>by
  have hr:=hrep i c u hc hu;refine ⟨?_,hr.one⟩;cases c with
  | i k n=>exact hr.int_inv
  | b x=>exact hr.bool_inv
  | s t l =>
   obtain ⟨⟨a,cap,hv,_⟩,_⟩:=hr.len;refine ⟨⟨a,_,cap,hv⟩,fun R hR=>?_⟩;have e:0+i=i:=by omega
   show some ((xs[0+i]?).getD undef)=some u
   rw[e,hu];rfl)
 have hnid:st.nid=(zk avs).length:=by rw[<- hst];rfl
 obtain ⟨_,hcalls⟩:=zgM hO (zfY hO (tms:=tms) (N:=N) D) f _ st _ rs hev w S0 _ E #[] [] w (zbm avs xs).toArray
  (fun v w'=>w'.os=w.os/\w'.tape=w.tape/\w'.output=w.output/\w.heap.size<=w'.heap.size /\
   (∀b,b<w.heap.size->(∀j,j<(zk avs).length->zI own j->¬ K j b)->w'.heap[b]?=w.heap[b]?) /\
   ∃(ys:List Value) (Kr:Nat->zJ),zcb true w' (zk rs) ys Kr/\v=zgZ (zbm rs ys) /\
    (∀i x,i<(zk rs).length->Kr i x->x<w'.heap.size/\((∃j,j<(zk avs).length/\zI own j/\K j x)\/w.heap.size<=x)) /\
    (∀i j x,i<(zk rs).length->j<(zk rs).length->i≠j->Kr i x->¬ Kr j x) /\
    (∀ja jr js,(none:Option (Nat×Nat×List (List Nat)))=some (ja,jr,js)->∀t l u,(zk avs)[ja]?=some (.s t l)->xs[ja]?=some u->∃l',(zk rs)[jr]?=some (.s t l')/\ys[jr]?=some u /\
     ∀p v,zF w t u p=some v->js.any (fun c=>c.isPrefixOf (cols p))=false->zF w' t u p=some v)) hS (fun n hn h=>by omega)
  (by simp[hl1]) (fun i m v hm hv=>by
   rw[qM]at hm;cases hx:(zbO avs 0)[i]? with
   | none=>rw[hx]at hm;cases hm
   | some x=>rw[hx]at hm;cases hm;exact hl2 i x v hx (by simpa using hv))
  (fun m hm n hn=>by
   obtain ⟨x,hx,rfl⟩:=q0.1 hm;simp only[MV.ids,zbd,qN]at hn;obtain ⟨a,ha,hn⟩:=hn;have:=(zdj avs 0 n x a hx ha hn).2;omega)
  (fun U' st' E' w' tvs v hS' _ _ _ hv _ hans=>by
   obtain ⟨us,rfl,hul,huv⟩:=zri hv;obtain ⟨ats,ys,ks,hG,hyl,hyv,rfl,_⟩:=zfH tvs [] rs us hans hul huv;have hM:=hS'.mem;have hget:∀i,i<(zk rs).length->∃a,ats[i]?=some a:=fun i hi=>⟨_,qB (by rw[<- hG.len];exact hi)⟩
   have hKr:∀i x,cφ E' ats i x->∃r∈ks,∃R,ats[i]?=some (.sl r [])/\st'.root r=some R/\R.own=true/\E'.φ r x:=by
    intro i x hx;obtain ⟨a,ha,hx⟩:=zn4 hx;obtain ⟨r,hr,rfl,hrx⟩:=hG.fi ha hx;obtain ⟨R,hR,ho⟩:=hG.own r hr;exact ⟨r,hr,R,ha,hR,ho,hrx⟩
   refine ⟨hM.os,hM.tape,hM.output,hM.size,fun b hb hnk=>hM.keep b hb (fun ⟨j,hj,ho,hk⟩=>hnk j hj ho hk),ys,cφ E' ats,⟨by rw[hyl,hG.len],fun i c x hc hx=>?_⟩,rfl,fun i x hi hx=>?_,fun i j x hi hj hne hx hx'=>?_,fun ja jr js h=>by cases h⟩
   .obtain ⟨a,ha⟩:=hget i (qA.1 hc).1;rw[zeN ha];exact hG.rep hM ha hc (hyv i a x ha hx)
   .obtain ⟨r,hr,R,_,h1,h2,h4⟩:=hKr i x hx;exact ⟨hM.rlt r R h1 x h4,(hM.mine r R h1 h2).2 x h4⟩
   .obtain ⟨r,hr,R,g1,h1,h2,h4⟩:=hKr i x hx;obtain ⟨r',hr',R',g1',h1',h2',h4'⟩:=hKr j x hx';have:=hM.own_apart h1 h2 h1' h2' h4 h4';subst this;exact hne (hG.inj i j r g1 g1'))
 refine hcalls.mono ?_;intro ex w' he;cases ex with
 | returned v=>exact he
 | panicked chain=>exact he.elim
 | outgrown=>exact he.elim
theorem zhZ (hO:EngOk C){f:FuncId}{own:List Bool}{ja jr:Nat}{js:List (List Nat)}{kt:Ty}{run:List AV->Option (Bool×List AV)}(hf:FnOk C.P f)(hal0:zfm f=[[]])(h:∀(avs:List AV) (rs:List AV),own.length=(zk avs).length->(∃(w:World) (xs:Nat->Value) (K:Nat->zJ),∀(j:Nat) (c:CV),(zk avs)[j]?=some c->Rep false w (xs j) c (K j))->run avs=some (true,rs)->(∃l,(zk avs)[ja]?=some (.s kt l))/\own[ja]?=some true/\∃tms N D,zvV C tms N D f own ja jr js kt avs=some rs)(hne:own.isEmpty=false:=by rfl):zcP C.P f own (some (ja,jr,js)) run:=by
 refine zcP.of (by rintro rfl;cases hne) ?_
 intro al hal;rw[hal0,qE]at hal;subst hal;refine ⟨hf,fun w K avs xs rs hxl hol hrep hKlt hKd0 _ hrun=>?_⟩;have hKd:=fun i j x hi hj ho hne=>hKd0 i j x hi hj ho hne (by simp)
 obtain ⟨⟨kl,hkl⟩,hoj,tms,N,D,hev⟩:=h avs rs hol ⟨w,fun j=>(xs[j]?).getD undef,K,fun j c hc=>by
  have hlt:=(qA.1 hc).1;have hu:=qB (show j<xs.length by rw[hxl];exact hlt)
  simp only[hu,jT];exact (hrep j c _ hc hu).ro⟩ hrun
 unfold zvV at hev;have hjl:ja<(zk avs).length:=(qA.1 hkl).1;have hjx:ja<xs.length:=by rw[hxl];exact hjl
 have hju:=qB hjx;generalize hst:({ tm:=[.v (.at (.kp ja js kt))],lo:=[],ro:=zc3 own (avs.flatMap AV.cvs) 0,stk:=[],nid:=(avs.flatMap AV.cvs).length,ep:=0 }:St)=st at hev;have hro0:st.ro=zc3 own (zk avs) 0:=by rw[<- hst];rfl
 have hroot0:∀r R,zh st.ro r=some R->R.ep=none/\r<(zk avs).length/\own[r]?=some R.own/\(zk avs)[r]?=some (.s R.t R.l):=by
  intro r R hR;rw[hro0]at hR;obtain ⟨_,t,l,h2,_,_,h5,h6⟩:=zha own (zk avs) 0 r R hR;rw[h6]at h5 ⊢;simp only[uR]at h2 h5;exact ⟨rfl,(qA.1 h2).1,h5,h2⟩
 have hlo:∀l,zh st.lo l=none:=fun l=>by rw[<- hst];rfl
 let E:Env:={ ρ:=fun n=>(xs[n]?).getD undef,φ:=K,β:=fun _=>0,κ:=w }
 let S0:zJ:=fun b=>∃j,j<(zk avs).length/\zI own j/\K j b
 have hS:Sim w S0 (fun n=>n<(zk avs).length) st E #[xs[ja]] [] w:=by
  refine ⟨⟨rfl,rfl,rfl,qV _,fun _ _ _=>rfl,fun r R hR=>?_,fun r R hR x hx=>?_,fun r R hR ho=>?_,fun r R r' R' hR ho hR' _ hne x hx=>?_,fun l cs hl=>?_,fun l l' cs cs' hl=>?_,fun l cs r R hl=>?_,fun r R e hR he=>?_,rfl⟩,⟨fun n R hn=>?_,fun n cs hn=>?_,fun m hm=>?_,fun f hf=>?_⟩,⟨?_,fun i m v hm hv=>?_⟩,?_⟩
  .obtain ⟨_,h1,h2,h3⟩:=hroot0 r R (zbb hR).1;have hu:=qB (show r<xs.length by omega)
   show Rep R.own w ((xs[r]?).getD undef) _ (K r)
   have:=hrep r _ _ h3 hu;rw[h2] at this;rw[hu];exact this
  .obtain ⟨_,h1,_,_⟩:=hroot0 r R (zbb hR).1;exact hKlt r x h1 hx
  .obtain ⟨he,h1,h2,_⟩:=hroot0 r R (zbb hR).1;refine ⟨he,fun x hx=>.inl ⟨r,h1,?_,hx⟩⟩
   show own[r]?=some true
   rw[h2,ho]
  .obtain ⟨_,h1,h2,_⟩:=hroot0 r R (zbb hR).1;obtain ⟨_,h1',_,_⟩:=hroot0 r' R' (zbb hR').1;exact hKd r r' x h1 h1' (by show own[r]?=some true;rw[h2,ho]) hne hx
  .rw [hlo]at hl;cases hl
  .rw [hlo]at hl;cases hl
  .rw [hlo]at hl;cases hl
  .rw [(hroot0 r R hR).1]at he;cases he
  .exact (hroot0 n R hn).2.1
  .rw [hlo]at hn;cases hn
  .rw [<- hst]at hm;simp only[qE]at hm;subst hm;intro n hn;simp only[MV.ids,zbd,zA,j3,kY,At.ids,zS,zX,qY,qE]at hn;subst hn;exact hjl
  .rw [<- hst]at hf;simp at hf
  .rw [<- hst];rfl
  .rw [<- hst]at hm;cases i with
   | succ i=>simp at hm
   | zero =>
    simp only[qF,qC]at hm hv;subst hm;have hv:xs[ja]=v:=by simpa using hv
    subst hv;have hr:=hrep ja _ _ hkl hju;obtain ⟨⟨a,cap,hva,_⟩,_⟩:=hr.len;refine ⟨⟨a,_,cap,hva⟩,fun R hR=>?_⟩;obtain ⟨_,_,_,h4⟩:=hroot0 ja R (zbb hR).1;rw[hkl]at h4;cases h4;refine ⟨rfl,?_,fun p u hp _=>hp⟩
    show (xs[ja]?).getD undef=xs[ja]
    rw[hju];rfl
  .rw [<- hst];trivial
 obtain ⟨hl1,hl2⟩:=zet (w:=w) (st:=st) (E:=E) avs xs 0 hxl (fun i c u hc hu=>by
  have hr:=hrep i c u hc hu;refine ⟨?_,hr.one⟩;cases c with
  | i k n=>exact hr.int_inv
  | b x=>exact hr.bool_inv
  | s t l =>
   obtain ⟨⟨a,cap,hv,_⟩,_⟩:=hr.len;refine ⟨⟨a,_,cap,hv⟩,fun R hR=>?_⟩;have e:0+i=i:=by omega
   show some ((xs[0+i]?).getD undef)=some u
   rw[e,hu];rfl)
 have hnid:st.nid=(zk avs).length:=by rw[<- hst];rfl
 obtain ⟨_,hcalls⟩:=zgM hO (zfY hO (tms:=tms) (N:=N) D) f _ st _ rs hev w S0 _ E #[xs[ja]] [] w (zbm avs xs).toArray
  (fun v w'=>w'.os=w.os/\w'.tape=w.tape/\w'.output=w.output/\w.heap.size<=w'.heap.size /\
   (∀b,b<w.heap.size->(∀j,j<(zk avs).length->zI own j->¬ K j b)->w'.heap[b]?=w.heap[b]?) /\
   ∃(ys:List Value) (Kr:Nat->zJ),zcb true w' (zk rs) ys Kr/\v=zgZ (zbm rs ys) /\
    (∀i x,i<(zk rs).length->Kr i x->x<w'.heap.size/\((∃j,j<(zk avs).length/\zI own j/\K j x)\/w.heap.size<=x)) /\
    (∀i j x,i<(zk rs).length->j<(zk rs).length->i≠j->Kr i x->¬ Kr j x) /\
    (∀ja2 jr2 js2,some (ja,jr,js)=some (ja2,jr2,js2)->∀t l u,(zk avs)[ja2]?=some (.s t l)->xs[ja2]?=some u->∃l',(zk rs)[jr2]?=some (.s t l')/\ys[jr2]?=some u /\
     ∀p v,zF w t u p=some v->js2.any (fun c=>c.isPrefixOf (cols p))=false->zF w' t u p=some v)) hS (fun n hn h=>by omega)
  (by simp[hl1]) (fun i m v hm hv=>by
   rw[qM]at hm;cases hx:(zbO avs 0)[i]? with
   | none=>rw[hx]at hm;cases hm
   | some x=>rw[hx]at hm;cases hm;exact hl2 i x v hx (by simpa using hv))
  (fun m hm n hn=>by
   obtain ⟨x,hx,rfl⟩:=q0.1 hm;simp only[MV.ids,zbd,qN]at hn;obtain ⟨a,ha,hn⟩:=hn;have:=(zdj avs 0 n x a hx ha hn).2;omega)
  (fun U' st' E' w' tvs v hS' _ _ _ hv _ hans=>by
   obtain ⟨us,rfl,hul,huv⟩:=zri hv;split at hans
   rotate_left
   .cases hans
   rename_i n J t' m htm hrm;cases hck:(Nat.beq n m&&(J==js&&decide (t'=kt))) with
   | false=>rw[hck]at hans;cases hans
   | true =>
   rw[hck]at hans;simp only[cond_true]at hans;simp only[qD,kH,qI,qX]at hck;obtain ⟨hnm,hJ,ht⟩:=hck;subst hnm hJ ht;obtain ⟨ats,ys,ks,hG,hyl,hyv,rfl,_,hats⟩:=zfH tvs [] rs us hans hul huv;have hM:=hS'.mem;have hget:∀i,i<(zk rs).length->∃a,ats[i]?=some a:=fun i hi=>⟨_,qB (by rw[<- hG.len];exact hi)⟩
   have hKr:∀i x,cφ E' ats i x->∃r∈ks,∃R,ats[i]?=some (.sl r [])/\st'.root r=some R/\R.own=true/\E'.φ r x:=by
    intro i x hx;obtain ⟨a,ha,hx⟩:=zn4 hx;obtain ⟨r,hr,rfl,hrx⟩:=hG.fi ha hx;obtain ⟨R,hR,ho⟩:=hG.own r hr;exact ⟨r,hr,R,ha,hR,ho,hrx⟩
   refine ⟨hM.os,hM.tape,hM.output,hM.size,fun b hb hnk=>hM.keep b hb (fun ⟨j,hj,ho,hk⟩=>hnk j hj ho hk),ys,cφ E' ats,⟨by rw[hyl,hG.len],fun i c x hc hx=>?_⟩,rfl,fun i x hi hx=>?_,fun i j x hi hj hne hx hx'=>?_,fun ja2 jr2 js2 he t l u hcl hxu=>?_⟩
   .obtain ⟨a,ha⟩:=hget i (qA.1 hc).1;rw[zeN ha];exact hG.rep hM ha hc (hyv i a x ha hx)
   .obtain ⟨r,hr,R,_,h1,h2,h4⟩:=hKr i x hx;exact ⟨hM.rlt r R h1 x h4,(hM.mine r R h1 h2).2 x h4⟩
   .obtain ⟨r,hr,R,g1,h1,h2,h4⟩:=hKr i x hx;obtain ⟨r',hr',R',g1',h1',h2',h4'⟩:=hKr j x hx';have:=hM.own_apart h1 h2 h1' h2' h4 h4';subst this;exact hne (hG.inj i j r g1 g1')
   .cases he;rw[hkl]at hcl;cases hcl;rw[hju]at hxu;cases hxu;have ha:ats[jr]?=some (.sl n []):=by rw[hats];exact hrm
    rcases hG.get jr _ ha with ⟨_,_,h,_⟩|⟨_,h,_⟩|⟨r,R,h,hR,_,hcs⟩
    .cases h
    .cases h
    .cases h;have hty:=hS'.tm.2 0 (.v (.at (.kp n J t'))) xs[ja] (by rw[htm];rfl) (by simp)
     obtain ⟨e1,e2,e3⟩:=hty.2 R hR;have hyl2:jr<ys.length:=by rw[hyl];exact (qA.1 ha).1
     have hy:=qB hyl2;have e4:=(hyv jr _ _ ha hy).2 R hR;simp only[zF,qC] at e4;refine ⟨e1 ▸ R.l,?_,by rw[hy,<- e4,e2],?_⟩
     .rw [hcs];cases e1;rfl
     .rw [hM.κ] at e3;exact e3)
 refine hcalls.mono ?_;intro ex w' he;cases ex with
 | returned v=>exact he
 | panicked chain=>exact he.elim
 | outgrown=>exact he.elim
def zG8 (al:List (Nat×Nat)):At->At
 | .sl r []=>match al.find? (fun x=>Nat.beq x.1 r) with
  | some x=>.sl x.2 []
  | none=>.sl r []
 | a=>a
def zGI (C:Cfg)(tms:FuncId->Nat->Option Tmpl)(N D:Nat)(f:FuncId)(own:List Bool)(al:List (Nat×Nat))(ja jr:Nat)(js:List (List Nat))(t:Ty)(args:List AV):Option Ans :=
 zo0 C tms N (zlO C tms N D) f (((zbO args 0).map .v).map (zgl (zG8 al))) { tm:=[.v (.at (.kp ja js t))],lo:=[],ro:=(zc3 own (args.flatMap AV.cvs) 0).filter (fun x=>!al.any (fun y=>Nat.beq y.1 x.1)),stk:=[],nid:=(args.flatMap AV.cvs).length,ep:=0 } fun rs st =>
  match st.tm,(rs.flatMap zA)[jr]? with
  | [.v (.at (.kp n J t'))],some (.sl m [])=>cond (Nat.beq n m&&(J==js&&decide (t'=t))) (zln st rs []) none
  | _,_=>none
def zJm (a:At):Prop:=(∃k n,a = .i k n)\/(∃b,a = .b b)\/∃r,a = .sl r []
theorem znh:∀(cs:List CV) (id:Nat) (a:At),a∈zeu cs id->zJm a
 | [],_,_,h=>by simp[zeu]at h
 | .i k n :: cs,id,a,h=>by
  simp only[zeu,qH]at h;rcases h with rfl|h
  .exact .inl ⟨k,n,rfl⟩
  .exact znh cs (id+1) a h
 | .b x :: cs,id,a,h=>by
  simp only[zeu,qH]at h;rcases h with rfl|h
  .exact .inr (.inl ⟨x,rfl⟩)
  .exact znh cs (id+1) a h
 | .s t l :: cs,id,a,h=>by
  simp only[zeu,qH]at h;rcases h with rfl|h
  .exact .inr (.inr ⟨id,rfl⟩)
  .exact znh cs (id+1) a h
theorem zpT:∀(rs:List AV) (id:Nat) (x:TV) (a:At),x∈zbO rs id->a∈zA x->zJm a
 | [],_,_,_,h,_=>by simp[zbO]at h
 | .one c :: rs,id,x,a,h,ha=>by
  simp only[zbO,qH]at h;rcases h with rfl|h
  .simp only [zA,qE]at ha;subst ha;cases c with
   | i k n=>exact .inl ⟨k,n,rfl⟩
   | b x=>exact .inr (.inl ⟨x,rfl⟩)
   | s t l=>exact .inr (.inr ⟨id,rfl⟩)
  .exact zpT rs (id+1) x a h ha
 | .agg cs :: rs,id,x,a,h,ha=>by
  simp only[zbO,qH]at h;rcases h with rfl|h
  .exact znh cs id a ha
  .exact zpT rs (id+cs.length) x a h ha
theorem zSP {w1:World}{st1:St}{E1:Env}{w:World}{st:St}{E:Env}{f:At->At}{P:At->Prop}(T:∀a v,P a->VA w st E a v->VA w1 st1 E1 (f a) v){x:TV}{v:Value}(hP:∀a∈zA x,P a)(h:VT w st E x v):VT w1 st1 E1 (zlA f x) v:=by
 rcases x with a|l
 .exact T a v (hP a (by simp[zA])) h
 .obtain ⟨vs,h1,h2,h3⟩:=h;refine ⟨vs,h1,by simp[h2],fun j a u ha hu=>?_⟩
  rw[qM]at ha;cases hl:l[j]? with
  | none=>rw[hl]at ha;cases ha
  | some b=>rw[hl]at ha;cases ha;exact ⟨(h3 j b u hl hu).1,T _ _ (hP b (by simp only[zA];exact qJ hl)) (h3 j b u hl hu).2⟩
theorem zPp {al:List (Nat×Nat)}{a:At}{n:Nat}(h:n∈(zG8 al a).ids):n∈a.ids\/∃r,(r,n)∈al:=by
 unfold zG8 at h;split at h
 .split at h
  .rename_i r x hx;simp only[At.ids,zS,zX,qY,qE]at h;subst h;exact .inr ⟨x.1,List.mem_of_find?_eq_some hx⟩
  .exact .inl h
 .exact .inl h
theorem zlm {α:Type}(q:Nat->Bool):∀(l:List (Nat×α)) (n:Nat) (x:α),zh (l.filter (fun y=>q y.1)) n=some x->q n=true/\zh l n=some x
 | [],_,_,h=>by simp[zh]at h
 | (k,v) :: l,n,x,h=>by
  cases hq:q k with
  | false =>
   rw[List.filter_cons_of_neg (by simp[hq])]at h
   obtain ⟨h1,h2⟩:=zlm q l n x h;refine ⟨h1,?_⟩;simp only[zh];cases hk:k==n with
   | false=>exact h2
   | true =>
    have:k=n:=by simpa using hk
    subst this;rw[hq]at h1;cases h1
  | true =>
   rw[List.filter_cons_of_pos (by simp[hq])]at h
   simp only[zh]at h ⊢;cases hk:k==n with
   | false =>
    rw[hk]at h;exact zlm q l n x (by simpa using h)
   | true =>
    rw[hk]at h;have:k=n:=by simpa using hk
    subst this;exact ⟨hq,by simpa using h⟩
theorem zCE (hO:EngOk C){f:FuncId}{own:List Bool}{ja jr:Nat}{js:List (List Nat)}{kt:Ty}{run:List AV->Option (Bool×List AV)}(hf:FnOk C.P f)(h:∀(al:List (Nat×Nat)) (avs:List AV) (rs:List AV),al∈zfm f->(∀j i,(j,i)∈al->(zk avs)[j]?=(zk avs)[i]?)->own.length=(zk avs).length->(∃(w:World) (xs:Nat->Value) (K:Nat->zJ),∀(j:Nat) (c:CV),(zk avs)[j]?=some c->Rep false w (xs j) c (K j))->run avs=some (true,rs)->(∃l,(zk avs)[ja]?=some (.s kt l))/\own[ja]?=some true/\∃tms N D,zGI C tms N D f own al ja jr js kt avs=some rs)(hne:own.isEmpty=false:=by rfl):zcP C.P f own (some (ja,jr,js)) run:=by
 refine zcP.of (by rintro rfl;cases hne) ?_
 intro al hal;refine ⟨hf,fun w K avs xs rs hxl hol hrep hKlt hKd0 hali hrun=>?_⟩;obtain ⟨⟨kl,hkl⟩,hoj,tms,N,D,hev⟩:=h al avs rs hal (fun j i hji=>(hali j i hji).2.2.2.1) hol ⟨w,fun j=>(xs[j]?).getD undef,K,fun j c hc=>by
  have hlt:=(qA.1 hc).1;have hu:=qB (show j<xs.length by rw[hxl];exact hlt)
  simp only[hu,jT];exact (hrep j c _ hc hu).ro⟩ hrun
 unfold zGI at hev;have hjl:ja<(zk avs).length:=(qA.1 hkl).1;have hjx:ja<xs.length:=by rw[hxl];exact hjl
 have hju:=qB hjx;generalize hst:({ tm:=[.v (.at (.kp ja js kt))],lo:=[],ro:=(zc3 own (avs.flatMap AV.cvs) 0).filter (fun x=>!al.any (fun y=>Nat.beq y.1 x.1)),stk:=[],nid:=(avs.flatMap AV.cvs).length,ep:=0 }:St)=st at hev;have hro0:st.ro=(zc3 own (zk avs) 0).filter (fun x=>!al.any (fun y=>Nat.beq y.1 x.1)):=by rw[<- hst];rfl
 have hna:∀r R,zh st.ro r=some R->∀i,(r,i)∉al:=by
  intro r R hR i hi;rw[hro0]at hR;have:=(zlm (fun n=>!al.any (fun y=>Nat.beq y.1 n)) _ r R hR).1;simp only[qZ,kM] at this;exact this _ hi (Nat.beq_refl r)
 have hroot0:∀r R,zh st.ro r=some R->R.ep=none/\r<(zk avs).length/\own[r]?=some R.own/\(zk avs)[r]?=some (.s R.t R.l):=by
  intro r R hR;rw[hro0]at hR;obtain ⟨_,t,l,h2,_,_,h5,h6⟩:=zha own (zk avs) 0 r R (zlm (fun n=>!al.any (fun y=>Nat.beq y.1 n)) _ r R hR).2;rw[h6]at h5 ⊢;simp only[uR]at h2 h5;exact ⟨rfl,(qA.1 h2).1,h5,h2⟩
 have hlo:∀l,zh st.lo l=none:=fun l=>by rw[<- hst];rfl
 let E:Env:={ ρ:=fun n=>(xs[n]?).getD undef,φ:=K,β:=fun _=>0,κ:=w }
 let S0:zJ:=fun b=>∃j,j<(zk avs).length/\zI own j/\K j b
 have hS:Sim w S0 (fun n=>n<(zk avs).length) st E #[xs[ja]] [] w:=by
  refine ⟨⟨rfl,rfl,rfl,qV _,fun _ _ _=>rfl,fun r R hR=>?_,fun r R hR x hx=>?_,fun r R hR ho=>?_,fun r R r' R' hR ho hR' _ hne x hx=>?_,fun l cs hl=>?_,fun l l' cs cs' hl=>?_,fun l cs r R hl=>?_,fun r R e hR he=>?_,rfl⟩,⟨fun n R hn=>?_,fun n cs hn=>?_,fun m hm=>?_,fun f hf=>?_⟩,⟨?_,fun i m v hm hv=>?_⟩,?_⟩
  .obtain ⟨_,h1,h2,h3⟩:=hroot0 r R (zbb hR).1;have hu:=qB (show r<xs.length by omega)
   show Rep R.own w ((xs[r]?).getD undef) _ (K r)
   have:=hrep r _ _ h3 hu;rw[h2] at this;rw[hu];exact this
  .obtain ⟨_,h1,_,_⟩:=hroot0 r R (zbb hR).1;exact hKlt r x h1 hx
  .obtain ⟨he,h1,h2,_⟩:=hroot0 r R (zbb hR).1;refine ⟨he,fun x hx=>.inl ⟨r,h1,?_,hx⟩⟩
   show own[r]?=some true
   rw[h2,ho]
  .obtain ⟨_,h1,h2,_⟩:=hroot0 r R (zbb hR).1;obtain ⟨_,h1',_,_⟩:=hroot0 r' R' (zbb hR').1;exact hKd0 r r' x h1 h1' (by show own[r]?=some true;rw[h2,ho]) hne (hna r' R' (zbb hR').1 r) hx
  .rw [hlo]at hl;cases hl
  .rw [hlo]at hl;cases hl
  .rw [hlo]at hl;cases hl
  .rw [(hroot0 r R hR).1]at he;cases he
  .exact (hroot0 n R hn).2.1
  .rw [hlo]at hn;cases hn
  .rw [<- hst]at hm;simp only[qE]at hm;subst hm;intro n hn;simp only[MV.ids,zbd,zA,j3,kY,At.ids,zS,zX,qY,qE]at hn;subst hn;exact hjl
  .rw [<- hst]at hf;simp at hf
  .rw [<- hst];rfl
  .rw [<- hst]at hm;cases i with
   | succ i=>simp at hm
   | zero =>
    simp only[qF,qC]at hm hv;subst hm;have hv:xs[ja]=v:=by simpa using hv
    subst hv;have hr:=hrep ja _ _ hkl hju;obtain ⟨⟨a,cap,hva,_⟩,_⟩:=hr.len;refine ⟨⟨a,_,cap,hva⟩,fun R hR=>?_⟩;obtain ⟨_,_,_,h4⟩:=hroot0 ja R (zbb hR).1;rw[hkl]at h4;cases h4;refine ⟨rfl,?_,fun p u hp _=>hp⟩
    show (xs[ja]?).getD undef=xs[ja]
    rw[hju];rfl
  .rw [<- hst];trivial
 let st0:St:={ st with ro:=(List.range (zk avs).length).map (fun r=>(r,(⟨.int,[],false,none⟩:Root))),ep:=0 }
 have hst0:∀r,r<(zk avs).length->st0.root r=some ⟨.int,[],false,none⟩:=by
  intro r hr;have:∀(n k:Nat),k<=r->r<k+n->zh ((List.range' k n).map (fun r=>(r,(⟨.int,[],false,none⟩:Root)))) r=some ⟨.int,[],false,none⟩:=by
   intro n
   induction n with
   | zero=>intro k h1 h2;omega
   | succ n ih =>
    intro k h1 h2;simp only[uP,jG,zh]
    by_cases he:k=r
    .subst he;simp
    .have hb:(k==r)=false:=by simpa using he
     simp only[hb,kI,if_false];exact ih (k+1) (by omega) (by omega)
  have h2:=this (zk avs).length 0 (jZ _) (by omega)
  rw[<- List.range_eq_range']at h2;exact zf4 h2 (.inl rfl)
 obtain ⟨hl1,hl2⟩:=zet (w:=w) (st:=st0) (E:=E) avs xs 0 hxl (fun i c u hc hu=>by
  have hr:=hrep i c u hc hu;refine ⟨?_,hr.one⟩;cases c with
  | i k n=>exact hr.int_inv
  | b x=>exact hr.bool_inv
  | s t l =>
   obtain ⟨⟨a,cap,hv,_⟩,_⟩:=hr.len;refine ⟨⟨a,_,cap,hv⟩,fun R hR=>?_⟩;have e:0+i=i:=by omega
   show some ((xs[0+i]?).getD undef)=some u
   rw[e,hu];rfl)
 have hT:∀a v,(zJm a/\∀n∈a.ids,n<(zk avs).length)->VA w st0 E a v->VA w st E (zG8 al a) v:=by
  intro a v ⟨hpl,hid⟩ hv;have hkey:∀r,∀i,(r,i)∈al->E.ρ i=E.ρ r:=by
   intro r i hi
   show (xs[i]?).getD undef=(xs[r]?).getD undef
   rw[(hali r i hi).2.2.1]
  rcases hpl with ⟨k,n,rfl⟩|⟨b,rfl⟩|⟨r,rfl⟩
  .exact hv
  .exact hv
  .have hr:r<(zk avs).length:=hid r (by simp[At.ids,zS])
   have e1:=hv.2 _ (hst0 r hr);simp only[zF,qC] at e1;simp only[zG8];split
   .rename_i x hx;have hm:=List.mem_of_find?_eq_some hx;have hx1:x.1=r:=jO (by simpa using List.find?_some hx)
    subst hx1;refine ⟨hv.1,fun R _=>?_⟩;simp only[zF,qC];rw[hkey x.1 x.2 hm];exact e1
   .refine ⟨hv.1,fun R _=>?_⟩;simp only[zF,qC];exact e1
 have hnid:st.nid=(zk avs).length:=by rw[<- hst];rfl
 obtain ⟨_,hcalls⟩:=zgM hO (zfY hO (tms:=tms) (N:=N) D) f _ st _ rs hev w S0 _ E #[xs[ja]] [] w (zbm avs xs).toArray
  (fun v w'=>w'.os=w.os/\w'.tape=w.tape/\w'.output=w.output/\w.heap.size<=w'.heap.size /\
   (∀b,b<w.heap.size->(∀j,j<(zk avs).length->zI own j->¬ K j b)->w'.heap[b]?=w.heap[b]?) /\
   ∃(ys:List Value) (Kr:Nat->zJ),zcb true w' (zk rs) ys Kr/\v=zgZ (zbm rs ys) /\
    (∀i x,i<(zk rs).length->Kr i x->x<w'.heap.size/\((∃j,j<(zk avs).length/\zI own j/\K j x)\/w.heap.size<=x)) /\
    (∀i j x,i<(zk rs).length->j<(zk rs).length->i≠j->Kr i x->¬ Kr j x) /\
    (∀ja2 jr2 js2,some (ja,jr,js)=some (ja2,jr2,js2)->∀t l u,(zk avs)[ja2]?=some (.s t l)->xs[ja2]?=some u->∃l',(zk rs)[jr2]?=some (.s t l')/\ys[jr2]?=some u /\
     ∀p v,zF w t u p=some v->js2.any (fun c=>c.isPrefixOf (cols p))=false->zF w' t u p=some v)) hS (fun n hn h=>by omega)
  (by simp[hl1]) (fun i m v hm hv=>by
   rw[qM,qM]at hm;cases hx:(zbO avs 0)[i]? with
   | none=>rw[hx]at hm;cases hm
   | some x =>
    rw[hx]at hm;cases hm;exact zSP hT (fun a ha=>⟨zpT avs 0 x a (qJ hx) ha,fun n hn=>by
     have:=(zdj avs 0 n x a (qJ hx) ha hn).2;omega⟩) (hl2 i x v hx (by simpa using hv)))
  (fun m hm n hn=>by
   obtain ⟨m0,hm0,rfl⟩:=q0.1 hm;obtain ⟨x,hx,rfl⟩:=q0.1 hm0;obtain ⟨a,ha,hn⟩:=zFc hn;simp only[zbd]at ha;rcases zPp hn with h|⟨r,h⟩
   .have:=(zdj avs 0 n x a hx ha h).2;omega
   .obtain ⟨_,_,_,_,t,l,h5⟩:=hali r n h;exact (qA.1 h5).1)
  (fun U' st' E' w' tvs v hS' _ _ _ hv _ hans=>by
   obtain ⟨us,rfl,hul,huv⟩:=zri hv;split at hans
   rotate_left
   .cases hans
   rename_i n J t' m htm hrm;cases hck:(Nat.beq n m&&(J==js&&decide (t'=kt))) with
   | false=>rw[hck]at hans;cases hans
   | true =>
   rw[hck]at hans;simp only[cond_true]at hans;simp only[qD,kH,qI,qX]at hck;obtain ⟨hnm,hJ,ht⟩:=hck;subst hnm hJ ht;obtain ⟨ats,ys,ks,hG,hyl,hyv,rfl,_,hats⟩:=zfH tvs [] rs us hans hul huv;have hM:=hS'.mem;have hget:∀i,i<(zk rs).length->∃a,ats[i]?=some a:=fun i hi=>⟨_,qB (by rw[<- hG.len];exact hi)⟩
   have hKr:∀i x,cφ E' ats i x->∃r∈ks,∃R,ats[i]?=some (.sl r [])/\st'.root r=some R/\R.own=true/\E'.φ r x:=by
    intro i x hx;obtain ⟨a,ha,hx⟩:=zn4 hx;obtain ⟨r,hr,rfl,hrx⟩:=hG.fi ha hx;obtain ⟨R,hR,ho⟩:=hG.own r hr;exact ⟨r,hr,R,ha,hR,ho,hrx⟩
   refine ⟨hM.os,hM.tape,hM.output,hM.size,fun b hb hnk=>hM.keep b hb (fun ⟨j,hj,ho,hk⟩=>hnk j hj ho hk),ys,cφ E' ats,⟨by rw[hyl,hG.len],fun i c x hc hx=>?_⟩,rfl,fun i x hi hx=>?_,fun i j x hi hj hne hx hx'=>?_,fun ja2 jr2 js2 he t l u hcl hxu=>?_⟩
   .obtain ⟨a,ha⟩:=hget i (qA.1 hc).1;rw[zeN ha];exact hG.rep hM ha hc (hyv i a x ha hx)
   .obtain ⟨r,hr,R,_,h1,h2,h4⟩:=hKr i x hx;exact ⟨hM.rlt r R h1 x h4,(hM.mine r R h1 h2).2 x h4⟩
   .obtain ⟨r,hr,R,g1,h1,h2,h4⟩:=hKr i x hx;obtain ⟨r',hr',R',g1',h1',h2',h4'⟩:=hKr j x hx';have:=hM.own_apart h1 h2 h1' h2' h4 h4';subst this;exact hne (hG.inj i j r g1 g1')
   .cases he;rw[hkl]at hcl;cases hcl;rw[hju]at hxu;cases hxu;have ha:ats[jr]?=some (.sl n []):=by rw[hats];exact hrm
    rcases hG.get jr _ ha with ⟨_,_,h,_⟩|⟨_,h,_⟩|⟨r,R,h,hR,_,hcs⟩
    .cases h
    .cases h
    .cases h;have hty:=hS'.tm.2 0 (.v (.at (.kp n J t'))) xs[ja] (by rw[htm];rfl) (by simp)
     obtain ⟨e1,e2,e3⟩:=hty.2 R hR;have hyl2:jr<ys.length:=by rw[hyl];exact (qA.1 ha).1
     have hy:=qB hyl2;have e4:=(hyv jr _ _ ha hy).2 R hR;simp only[zF,qC] at e4;refine ⟨e1 ▸ R.l,?_,by rw[hy,<- e4,e2],?_⟩
     .rw [hcs];cases e1;rfl
     .rw [hM.κ] at e3;exact e3)
 refine hcalls.mono ?_;intro ex w' he;cases ex with
 | returned v=>exact he
 | panicked chain=>exact he.elim
 | outgrown=>exact he.elim
end
def zbh (h:Host):List CV:=[.s (.sl .int) h.Memory,.s .mon h.Mons,.s .entry h.Buffer,.s .entry h.IoBuffer]
def zMg (c:Ctl):List CV:=[.i .i64 c.Traps,.i .i64 c.Post,.b c.Open]
def zrz (e:GExit):List CV:=[.i .i64 e.Kind,.i .i64 e.Page,.b e.Write,.i .i64 e.N]
structure Cur where
 b:List Int
 i:Int
 h:Int
def zbu (c:Cur):List CV:=[.s .u8 c.b,.i .i64 c.i,.i .i64 c.h]
def zo:List (Nat×Nat×Tmpl)->FuncId->Nat->Option Tmpl
 | [],_,_=>none
 | (g,c,T) :: r,f,b=>cond (Nat.beq g f) (cond (Nat.beq c b) (some T) (zo r f b)) (zo r f b)
def pc (p:Prop):Bool:=@decide p (Classical.propDecidable p)
theorem zB {p:Prop}:pc p=true↔p:=by
 unfold pc;exact @decide_eq_true_iff p (Classical.propDecidable p)
theorem zbk {p:Prop}(h:p):pc p=true:=zB.2 h
inductive CVB (K:Nat):CV->Prop
 | i (k:IntKind) (n:Int):CVB K (.i k n)
 | b (x:Bool):CVB K (.b x)
 | s (t:Ty) (l:List t.den) (hl:l.length<=K) (h:∀x∈l,∀c∈t.cells x,CVB K c):CVB K (.s t l)
theorem CVB.inv {K:Nat}{t:Ty}{l:List t.den}(h:CVB K (.s t l)):l.length<=K/\∀x∈l,∀c∈t.cells x,CVB K c:=by
 cases h with
 | s _ _ hl h=>exact ⟨hl,h⟩
theorem CVB.len {K:Nat}{t:Ty}{l:List t.den}(h:CVB K (.s t l)):l.length<=K:=h.inv.1
theorem CVB.mono {K L:Nat}(hKL:K<=L){c:CV}(h:CVB K c):CVB L c:=by
 induction h with
 | i k n=>exact .i k n
 | b x=>exact .b x
 | s t l hl h ih=>exact .s t l (jC hl hKL) ih
theorem CVB.of_rep {o:Bool}{w:World}{v:Value}{c:CV}{S:zJ}(h:Rep o w v c S):CVB big c:=by
 induction h with
 | i k n S=>exact .i k n
 | b x S=>exact .b x
 | nil t S=>exact .s t [] (jZ _) (fun x h=>by cases h)
 | void t a S ho=>exact .s t [] (jZ _) (fun x h=>by cases h)
 | sl t l b off cap arr e fz V K S hb hfz hlen hcap hsz hS hsub hdis hv hc ih =>
  refine .s t l hlen (fun x hx c hcx=>?_);obtain ⟨i,hi⟩:=qP.1 hx;obtain ⟨j,hj⟩:=qP.1 hcx;exact ih i x hi j c hj
theorem CVB.of_ok {c:CV}(h:CVOk c):CVB big c:=by
 induction h with
 | i k n _=>exact .i k n
 | b x=>exact .b x
 | s t l hl h ih =>
  refine .s t l hl (fun x hx c hcx=>?_);obtain ⟨i,hi⟩:=qP.1 hx;obtain ⟨j,hj⟩:=qP.1 hcx;exact ih i x hi j c hj
def zbq (K:Nat)(avs:List AV):Prop:=∀c∈zk avs,CVB K c
theorem zbN {K:Nat}{a:AV}{avs:List AV}(h:zbq K (a :: avs)):(∀c∈a.cvs,CVB K c)/\zbq K avs:=by
 unfold zbq zk at *;simp only[j3,jQ]at h;exact ⟨fun c hc=>h c (.inl hc),fun c hc=>h c (.inr hc)⟩
theorem zKf {avs:List AV}(h:∃w xs,zcb false w (zk avs) xs (fun _ b=>b<w.heap.size)):zbq big avs:=by
 obtain ⟨w,xs,h1,h2⟩:=h;intro c hc;obtain ⟨i,hi⟩:=qP.1 hc;have hlt:i<xs.length:=by rw[h1];exact (qA.1 hi).1
 exact CVB.of_rep (h2 i c _ hi (qB hlt))
theorem zbI {cs:List CV}{avs:List AV}(h:∃(w:World) (xs:Nat->Value) (K:Nat->zJ),∀(j:Nat) (c:CV),(cs++zk avs)[j]?=some c->Rep false w (xs j) c (K j)):zbq big (.agg cs :: avs):=by
 obtain ⟨w,xs,K,h⟩:=h;intro c hc;have e:zk (AV.agg cs :: avs)=cs++zk avs:=by simp[zk,AV.cvs]
 rw[e]at hc;obtain ⟨j,hj⟩:=qP.1 hc;exact CVB.of_rep (h j c hj)
theorem zbU {b c:Bool}{x y:List CV}{z u:List AV}(h:some (b,x,z)=some (c,y,u)):b=c/\y=x/\u=z:=by
 cases h;exact ⟨rfl,rfl,rfl⟩
theorem zhI {b c:Bool}{x y:List AV}(h:some (b,x)=some (c,y)):b=c/\y=x:=by
 cases h;exact ⟨rfl,rfl⟩
abbrev zK:=List (Nat×(List AV->Option (Bool×List AV)))
def zja:zK:=[]
theorem zdz:∀f run,zh zja f=some run->Holds Tryz.prog f run:=fun f run h=>by cases h
abbrev zy (l:zK):Prop:=∀f run,zh l f=some run->Holds Tryz.prog f run
abbrev uV:=Holds Tryz.prog
theorem zf {l:zK}{f:Nat}{run:List AV->Option (Bool×List AV)}(h:uV f run)(hl:zy l):zy ((f,run) :: l):=by
 intro g r hg;unfold zh at hg;split at hg
 .rename_i e;cases hg;rw[<- qI.1 e];exact h
 .exact hl g r hg
abbrev zeQ:=List (Nat×(CV->Int->Option (Bool×CV×Int)))
def zir:zeQ:=[]
abbrev zdH (m:zeQ):Prop:=∀f run,zh m f=some run->zAl Tryz.prog f run
theorem zV:zdH zir:=fun f run h=>by cases h
abbrev zcv:=List (Nat×(List Bool×(List CV->List AV->Option (Bool×List CV×List AV))))
def zzb:zcv:=[]
abbrev zbM (p:zcv):Prop:=∀f own run,zh p f=some (own,run)->zcD Tryz.prog f own run
theorem zl:zbM zzb:=fun f own run h=>by cases h
theorem zcT {l m:zcv}(hm:∀f own run,zh m f=some (own,run)->zcD Tryz.prog f own run)(hl:∀x∈l,zcD Tryz.prog x.1 x.2.1 x.2.2):∀f own run,zh (l++m) f=some (own,run)->zcD Tryz.prog f own run:=by
 intro f own run h;rw[zbi]at h;split at h
 .rename_i y hy;cases h;exact hl _ (zkM hy)
 .exact hm f own run h
abbrev zdq:=List (Nat×(List Bool×Option (Nat×Nat×List (List Nat))×(List AV->Option (Bool×List AV))))
def zg0:zdq:=[]
abbrev zcQ (t:zdq):Prop:=∀f own inp run,zh t f=some (own,inp,run)->zcP Tryz.prog f own inp run
theorem zn:zcQ zg0:=fun f own inp run h=>by cases h
theorem zli {l m:zdq}(hm:∀f own inp run,zh m f=some (own,inp,run)->zcP Tryz.prog f own inp run)(hl:∀x∈l,zcP Tryz.prog x.1 x.2.1 x.2.2.1 x.2.2.2):∀f own inp run,zh (l++m) f=some (own,inp,run)->zcP Tryz.prog f own inp run:=by
 intro f own inp run h;rw[zbi]at h;split at h
 .rename_i y hy;cases h;exact hl _ (zkM hy)
 .exact hm f own inp run h
abbrev cQ (c:zK)(m:zeQ)(p:zcv)(t:zdq):Cfg:=zio (zh c) (zh m) (zh p) (zh t)
theorem zHK {c:zK}{m:zeQ}{p:zcv}{t:zdq}(o1:zy c)(o2:zdH m)(o3:zbM p)(o4:zcQ t){f:FuncId}{run:List AV->Option (Bool×List AV)}(hf:FnOk Tryz.prog f)(h:∀avs rs,zbq big avs->run avs=some (true,rs)->∃tms N,evalFn (cQ c m p t) tms N 12 f avs=some rs):uV f run :=
 zsQ (zb7 o1 o2 o3 o4) hf fun avs rs hr e=>(h avs rs (zKf hr) e).elim fun t x=>x.elim fun N y=>⟨t,N,12,y⟩
noncomputable def zd6 (f:FuncId):Bool :=
 match Tryz.prog.funcs[f]? with
 | some fn=>fn.body.isSome && !(fn.name == "runtime.NumGoroutine")
 | none=>false
theorem zcO {f:FuncId}(h:zd6 f=true):FnOk Tryz.prog f:=by
 unfold zd6 at h;split at h
 .rename_i fn hf;simp only[qD,qZ]at h;obtain ⟨b,hb⟩:=k7.1 h.1;exact ⟨fn,b,hf,hb,h.2⟩
 .cases h
abbrev oN {α:Type}(c:Bool)(a:Option α):Option α:=bif c then a else none
abbrev nB (c:Bool):Bool:=bif c then false else true
abbrev ti:AT:=.i .i64
structure Dc (α:Type) where
 d:AV->Option α
 e:α->AV
 h:∀{a x},d a=some x->a=e x
abbrev aI (x:Int):AV:=.one (.i .i64 x)
abbrev aB (x:Bool):AV:=.one (.b x)
abbrev aS (t:Ty)(l:List t.den):AV:=.one (.s t l)
abbrev aT (t:Ty)(x:t.den):AV:=.agg (t.cells x)
abbrev aH (h:Host):AV:=.agg (zbh h)
abbrev OA:=Option Ans
abbrev oF:OA:=some [aB false]
abbrev oT:OA:=some [aB true]
abbrev lA:=List GAct
abbrev lB:=List Bool
abbrev lE:=List Entry
abbrev lG:=List Guest
abbrev lI:=List Ins
abbrev lK:=List Kept
abbrev lM:=List (List Int)
abbrev lN:=List Mon
abbrev lP:=List (List Ins)
abbrev lQ:=List (List (List Ins))
abbrev lR:=List Bare
abbrev lS:=List Slot
abbrev lT:=List Told
def dI:Dc Int:=⟨fun a=>match a with | .one (.i .i64 x)=>some x|_=>none,aI,fun {a x} h=>by split at h<;>cases h;rfl⟩
def dB:Dc Bool:=⟨fun a=>match a with | .one (.b x)=>some x|_=>none,aB,fun {a x} h=>by split at h<;>cases h;rfl⟩
def dS (t:Ty):Dc (List t.den):=⟨fun a=>match a with | .one (.s t' l)=>if h:t'=t then some (h ▸ l) else none|_=>none,aS t,fun {a x} h=>by
 split at h
 .rename_i t' l;split at h
  .rename_i e;subst e;cases h;rfl
  .cases h
 .cases h⟩
def dT (t:Ty):Dc t.den:=⟨fun a=>match a with | .agg cs=>t.ofCells cs|_=>none,aT t,fun {a x} h=>by
 split at h
 .rw [<- zgD h]
 .cases h⟩
def dH:Dc Host:=⟨fun a=>match a with | .agg [.s (.sl .int) x,.s .mon y,.s .entry z,.s .entry u]=>some ⟨x,y,z,u⟩|_=>none,aH,fun {a x} h=>by split at h<;>cases h;rfl⟩
def dC:Dc Ctl:=⟨fun a=>match a with | .agg [.i .i64 x,.i .i64 y,.b z]=>some ⟨x,y,z⟩|_=>none,fun x=>.agg (zMg x),fun {a x} h=>by split at h<;>cases h;rfl⟩
def dE:Dc GExit:=⟨fun a=>match a with | .agg [.i .i64 x,.i .i64 y,.b z,.i .i64 u]=>some ⟨x,y,z,u⟩|_=>none,fun x=>.agg (zrz x),fun {a x} h=>by split at h<;>cases h;rfl⟩
abbrev Run:=List AV->Option (Bool×List AV)
def eat {α:Type}(D:Dc α)(k:α->Run):Run
 | []=>none
 | a :: l=>match D.d a with
  | some x=>k x l
  | none=>none
def stop (r:Bool×List AV):Run
 | []=>some r
 | _=>none
theorem zSC {α:Type}{D:Dc α}{k:α->Run}{avs:List AV}{r:Bool×List AV}(h:eat D k avs=some r):∃x l,avs=D.e x :: l/\k x l=some r:=by
 unfold eat at h;split at h
 .cases h
 .rename_i a l;split at h
  .rename_i x hx;exact ⟨x,l,by rw[D.h hx],h⟩
  .cases h
theorem zQI {q r:Bool×List AV}{avs:List AV}(h:stop q avs=some r):avs=[]/\r=q:=by
 unfold stop at h;split at h<;>cases h;exact ⟨rfl,rfl⟩
theorem zbK {p:Nat->Prop}(h:∀N,(∀{n:Nat},n<=big->n<N)->p N):∃N,p N:=⟨big+1,h _ fun h=>Nat.lt_succ_of_le h⟩
theorem len0 {t:Ty}{l:List t.den}{r:List AV}(hb:zbq big (.one (.s t l) :: r)):l.length<=big:=((zbN hb).1 _ (qE.2 rfl)).len
def Read (c:zK)(m:zeQ)(p:zcv)(t:zdq)(tms:FuncId->Nat->Option Tmpl)(f:FuncId)(pre:List AV)(r:Run):Prop:=∀avs rs,zbq big (pre++avs)->r avs=some (true,rs)->∃N,evalFn (cQ c m p t) tms N 12 f (pre++avs)=some rs
theorem zcj {c:zK}{m:zeQ}{p:zcv}{t:zdq}{tms:FuncId->Nat->Option Tmpl}{f:FuncId}{pre:List AV}{α:Type}{D:Dc α}{k:α->Run}(h:∀a,Read c m p t tms f (pre++[D.e a]) (k a)):Read c m p t tms f pre (eat D k):=by
 intro avs rs hb e;obtain ⟨x,l,h1,e1⟩:=zSC e;subst h1;have:=h x l rs (by simpa using hb) e1
 simpa using this
theorem zhw {c:zK}{m:zeQ}{p:zcv}{t:zdq}{tms:FuncId->Nat->Option Tmpl}{f:FuncId}{pre:List AV}{g:Bool×List AV}{E:Nat->OA}(law:zbq big pre->g.1=true->∃N,E N=some g.2)(nf:∀N,evalFn (cQ c m p t) tms N 12 f pre=E N):Read c m p t tms f pre (stop g):=by
 intro avs rs hb e;obtain ⟨h1,e1⟩:=zQI e;subst h1;cases g with
 | mk b x =>
  cases e1;rw[qY]at hb ⊢;obtain ⟨N,e⟩:=law hb rfl;exact ⟨N,(nf N).trans e⟩
theorem zjm {c:zK}{m:zeQ}{p:zcv}{t:zdq}(o1:zy c)(o2:zdH m)(o3:zbM p)(o4:zcQ t){tms:FuncId->Nat->Option Tmpl}{f:FuncId}{r:Run}(hf:zd6 f=true)(h:Read c m p t tms f [] r):uV f r :=
 zHK o1 o2 o3 o4 (zcO hf) fun avs rs hb e=>(h avs rs hb e).elim fun N x=>⟨tms,N,x⟩
def rF0  (g:Bool×List AV):Run:=stop g
theorem hF0 {c:zK}{m:zeQ}{p:zcv}{t:zdq}(o1:zy c)(o2:zdH m)(o3:zbM p)(o4:zcQ t)(tms:FuncId->Nat->Option Tmpl){g:Bool×List AV}{E:Nat->OA}{f:FuncId}(law:zbq big []->g.1=true->∃N,E N=some g.2)(nf:∀N,evalFn (cQ c m p t) tms N 12 f []=E N:=by intros;kernel_rfl)(hf:zd6 f=true:=by kernel_rfl):uV f (rF0 g) :=
 zjm o1 o2 o3 o4 hf (zhw (fun hb hc=>law hb hc) fun N=>nf N)
theorem kF0 {c:zK}{m:zeQ}{p:zcv}{t:zdq}(o1:zy c)(o2:zdH m)(o3:zbM p)(o4:zcQ t)(tms:FuncId->Nat->Option Tmpl){g:Bool×List AV}{E:Nat->OA}{f:FuncId}(law:g.1=true->∃N,E N=some g.2)(nf:∀N,evalFn (cQ c m p t) tms N 12 f []=E N:=by intros;kernel_rfl)(hf:zd6 f=true:=by kernel_rfl):uV f (rF0 g):=hF0 o1 o2 o3 o4 tms (fun _=>law) nf hf
def rF1 {A0:Type}(D0:Dc A0)(g:A0->Bool×List AV):Run:=eat D0 fun a0=>stop (g a0)
theorem hF1 {A0:Type}{c:zK}{m:zeQ}{p:zcv}{t:zdq}(o1:zy c)(o2:zdH m)(o3:zbM p)(o4:zcQ t)(tms:FuncId->Nat->Option Tmpl){D0:Dc A0}{g:A0->Bool×List AV}{E:Nat->A0->OA}{f:FuncId}(law:∀a0,zbq big [D0.e a0]->(g a0).1=true->∃N,E N a0=some (g a0).2)(nf:∀N a0,evalFn (cQ c m p t) tms N 12 f [D0.e a0]=E N a0:=by intros;kernel_rfl)(hf:zd6 f=true:=by kernel_rfl):uV f (rF1 D0 g) :=
 zjm o1 o2 o3 o4 hf (zcj fun a0=>zhw (fun hb hc=>law a0 hb hc) fun N=>nf N a0)
theorem kF1 {A0:Type}{c:zK}{m:zeQ}{p:zcv}{t:zdq}(o1:zy c)(o2:zdH m)(o3:zbM p)(o4:zcQ t)(tms:FuncId->Nat->Option Tmpl){D0:Dc A0}{g:A0->Bool×List AV}{E:Nat->A0->OA}{f:FuncId}(law:∀a0,(g a0).1=true->∃N,E N a0=some (g a0).2)(nf:∀N a0,evalFn (cQ c m p t) tms N 12 f [D0.e a0]=E N a0:=by intros;kernel_rfl)(hf:zd6 f=true:=by kernel_rfl):uV f (rF1 D0 g):=hF1 o1 o2 o3 o4 tms (fun a0 _=>law a0) nf hf
def rF2 {A0 A1:Type}(D0:Dc A0)(D1:Dc A1)(g:A0->A1->Bool×List AV):Run:=eat D0 fun a0=>eat D1 fun a1=>stop (g a0 a1)
theorem hF2 {A0 A1:Type}{c:zK}{m:zeQ}{p:zcv}{t:zdq}(o1:zy c)(o2:zdH m)(o3:zbM p)(o4:zcQ t)(tms:FuncId->Nat->Option Tmpl){D0:Dc A0}{D1:Dc A1}{g:A0->A1->Bool×List AV}{E:Nat->A0->A1->OA}{f:FuncId}(law:∀a0 a1,zbq big [D0.e a0,D1.e a1]->(g a0 a1).1=true->∃N,E N a0 a1=some (g a0 a1).2)(nf:∀N a0 a1,evalFn (cQ c m p t) tms N 12 f [D0.e a0,D1.e a1]=E N a0 a1:=by intros;kernel_rfl)(hf:zd6 f=true:=by kernel_rfl):uV f (rF2 D0 D1 g) :=
 zjm o1 o2 o3 o4 hf (zcj fun a0=>zcj fun a1=>zhw (fun hb hc=>law a0 a1 hb hc) fun N=>nf N a0 a1)
theorem kF2 {A0 A1:Type}{c:zK}{m:zeQ}{p:zcv}{t:zdq}(o1:zy c)(o2:zdH m)(o3:zbM p)(o4:zcQ t)(tms:FuncId->Nat->Option Tmpl){D0:Dc A0}{D1:Dc A1}{g:A0->A1->Bool×List AV}{E:Nat->A0->A1->OA}{f:FuncId}(law:∀a0 a1,(g a0 a1).1=true->∃N,E N a0 a1=some (g a0 a1).2)(nf:∀N a0 a1,evalFn (cQ c m p t) tms N 12 f [D0.e a0,D1.e a1]=E N a0 a1:=by intros;kernel_rfl)(hf:zd6 f=true:=by kernel_rfl):uV f (rF2 D0 D1 g):=hF2 o1 o2 o3 o4 tms (fun a0 a1 _=>law a0 a1) nf hf
def rF3 {A0 A1 A2:Type}(D0:Dc A0)(D1:Dc A1)(D2:Dc A2)(g:A0->A1->A2->Bool×List AV):Run:=eat D0 fun a0=>eat D1 fun a1=>eat D2 fun a2=>stop (g a0 a1 a2)
theorem hF3 {A0 A1 A2:Type}{c:zK}{m:zeQ}{p:zcv}{t:zdq}(o1:zy c)(o2:zdH m)(o3:zbM p)(o4:zcQ t)(tms:FuncId->Nat->Option Tmpl){D0:Dc A0}{D1:Dc A1}{D2:Dc A2}{g:A0->A1->A2->Bool×List AV}{E:Nat->A0->A1->A2->OA}{f:FuncId}(law:∀a0 a1 a2,zbq big [D0.e a0,D1.e a1,D2.e a2]->(g a0 a1 a2).1=true->∃N,E N a0 a1 a2=some (g a0 a1 a2).2)(nf:∀N a0 a1 a2,evalFn (cQ c m p t) tms N 12 f [D0.e a0,D1.e a1,D2.e a2]=E N a0 a1 a2:=by intros;kernel_rfl)(hf:zd6 f=true:=by kernel_rfl):uV f (rF3 D0 D1 D2 g) :=
 zjm o1 o2 o3 o4 hf (zcj fun a0=>zcj fun a1=>zcj fun a2=>zhw (fun hb hc=>law a0 a1 a2 hb hc) fun N=>nf N a0 a1 a2)
theorem kF3 {A0 A1 A2:Type}{c:zK}{m:zeQ}{p:zcv}{t:zdq}(o1:zy c)(o2:zdH m)(o3:zbM p)(o4:zcQ t)(tms:FuncId->Nat->Option Tmpl){D0:Dc A0}{D1:Dc A1}{D2:Dc A2}{g:A0->A1->A2->Bool×List AV}{E:Nat->A0->A1->A2->OA}{f:FuncId}(law:∀a0 a1 a2,(g a0 a1 a2).1=true->∃N,E N a0 a1 a2=some (g a0 a1 a2).2)(nf:∀N a0 a1 a2,evalFn (cQ c m p t) tms N 12 f [D0.e a0,D1.e a1,D2.e a2]=E N a0 a1 a2:=by intros;kernel_rfl)(hf:zd6 f=true:=by kernel_rfl):uV f (rF3 D0 D1 D2 g):=hF3 o1 o2 o3 o4 tms (fun a0 a1 a2 _=>law a0 a1 a2) nf hf
def rF4 {A0 A1 A2 A3:Type}(D0:Dc A0)(D1:Dc A1)(D2:Dc A2)(D3:Dc A3)(g:A0->A1->A2->A3->Bool×List AV):Run:=eat D0 fun a0=>eat D1 fun a1=>eat D2 fun a2=>eat D3 fun a3=>stop (g a0 a1 a2 a3)
theorem hF4 {A0 A1 A2 A3:Type}{c:zK}{m:zeQ}{p:zcv}{t:zdq}(o1:zy c)(o2:zdH m)(o3:zbM p)(o4:zcQ t)(tms:FuncId->Nat->Option Tmpl){D0:Dc A0}{D1:Dc A1}{D2:Dc A2}{D3:Dc A3}{g:A0->A1->A2->A3->Bool×List AV}{E:Nat->A0->A1->A2->A3->OA}{f:FuncId}(law:∀a0 a1 a2 a3,zbq big [D0.e a0,D1.e a1,D2.e a2,D3.e a3]->(g a0 a1 a2 a3).1=true->∃N,E N a0 a1 a2 a3=some (g a0 a1 a2 a3).2)(nf:∀N a0 a1 a2 a3,evalFn (cQ c m p t) tms N 12 f [D0.e a0,D1.e a1,D2.e a2,D3.e a3]=E N a0 a1 a2 a3:=by intros;kernel_rfl)(hf:zd6 f=true:=by kernel_rfl):uV f (rF4 D0 D1 D2 D3 g) :=
 zjm o1 o2 o3 o4 hf (zcj fun a0=>zcj fun a1=>zcj fun a2=>zcj fun a3=>zhw (fun hb hc=>law a0 a1 a2 a3 hb hc) fun N=>nf N a0 a1 a2 a3)
theorem kF4 {A0 A1 A2 A3:Type}{c:zK}{m:zeQ}{p:zcv}{t:zdq}(o1:zy c)(o2:zdH m)(o3:zbM p)(o4:zcQ t)(tms:FuncId->Nat->Option Tmpl){D0:Dc A0}{D1:Dc A1}{D2:Dc A2}{D3:Dc A3}{g:A0->A1->A2->A3->Bool×List AV}{E:Nat->A0->A1->A2->A3->OA}{f:FuncId}(law:∀a0 a1 a2 a3,(g a0 a1 a2 a3).1=true->∃N,E N a0 a1 a2 a3=some (g a0 a1 a2 a3).2)(nf:∀N a0 a1 a2 a3,evalFn (cQ c m p t) tms N 12 f [D0.e a0,D1.e a1,D2.e a2,D3.e a3]=E N a0 a1 a2 a3:=by intros;kernel_rfl)(hf:zd6 f=true:=by kernel_rfl):uV f (rF4 D0 D1 D2 D3 g):=hF4 o1 o2 o3 o4 tms (fun a0 a1 a2 a3 _=>law a0 a1 a2 a3) nf hf
def rF5 {A0 A1 A2 A3 A4:Type}(D0:Dc A0)(D1:Dc A1)(D2:Dc A2)(D3:Dc A3)(D4:Dc A4)(g:A0->A1->A2->A3->A4->Bool×List AV):Run:=eat D0 fun a0=>eat D1 fun a1=>eat D2 fun a2=>eat D3 fun a3=>eat D4 fun a4=>stop (g a0 a1 a2 a3 a4)
theorem hF5 {A0 A1 A2 A3 A4:Type}{c:zK}{m:zeQ}{p:zcv}{t:zdq}(o1:zy c)(o2:zdH m)(o3:zbM p)(o4:zcQ t)(tms:FuncId->Nat->Option Tmpl){D0:Dc A0}{D1:Dc A1}{D2:Dc A2}{D3:Dc A3}{D4:Dc A4}{g:A0->A1->A2->A3->A4->Bool×List AV}{E:Nat->A0->A1->A2->A3->A4->OA}{f:FuncId}(law:∀a0 a1 a2 a3 a4,zbq big [D0.e a0,D1.e a1,D2.e a2,D3.e a3,D4.e a4]->(g a0 a1 a2 a3 a4).1=true->∃N,E N a0 a1 a2 a3 a4=some (g a0 a1 a2 a3 a4).2)(nf:∀N a0 a1 a2 a3 a4,evalFn (cQ c m p t) tms N 12 f [D0.e a0,D1.e a1,D2.e a2,D3.e a3,D4.e a4]=E N a0 a1 a2 a3 a4:=by intros;kernel_rfl)(hf:zd6 f=true:=by kernel_rfl):uV f (rF5 D0 D1 D2 D3 D4 g) :=
 zjm o1 o2 o3 o4 hf (zcj fun a0=>zcj fun a1=>zcj fun a2=>zcj fun a3=>zcj fun a4=>zhw (fun hb hc=>law a0 a1 a2 a3 a4 hb hc) fun N=>nf N a0 a1 a2 a3 a4)
theorem kF5 {A0 A1 A2 A3 A4:Type}{c:zK}{m:zeQ}{p:zcv}{t:zdq}(o1:zy c)(o2:zdH m)(o3:zbM p)(o4:zcQ t)(tms:FuncId->Nat->Option Tmpl){D0:Dc A0}{D1:Dc A1}{D2:Dc A2}{D3:Dc A3}{D4:Dc A4}{g:A0->A1->A2->A3->A4->Bool×List AV}{E:Nat->A0->A1->A2->A3->A4->OA}{f:FuncId}(law:∀a0 a1 a2 a3 a4,(g a0 a1 a2 a3 a4).1=true->∃N,E N a0 a1 a2 a3 a4=some (g a0 a1 a2 a3 a4).2)(nf:∀N a0 a1 a2 a3 a4,evalFn (cQ c m p t) tms N 12 f [D0.e a0,D1.e a1,D2.e a2,D3.e a3,D4.e a4]=E N a0 a1 a2 a3 a4:=by intros;kernel_rfl)(hf:zd6 f=true:=by kernel_rfl):uV f (rF5 D0 D1 D2 D3 D4 g):=hF5 o1 o2 o3 o4 tms (fun a0 a1 a2 a3 a4 _=>law a0 a1 a2 a3 a4) nf hf
def rF6 {A0 A1 A2 A3 A4 A5:Type}(D0:Dc A0)(D1:Dc A1)(D2:Dc A2)(D3:Dc A3)(D4:Dc A4)(D5:Dc A5)(g:A0->A1->A2->A3->A4->A5->Bool×List AV):Run:=eat D0 fun a0=>eat D1 fun a1=>eat D2 fun a2=>eat D3 fun a3=>eat D4 fun a4=>eat D5 fun a5=>stop (g a0 a1 a2 a3 a4 a5)
theorem hF6 {A0 A1 A2 A3 A4 A5:Type}{c:zK}{m:zeQ}{p:zcv}{t:zdq}(o1:zy c)(o2:zdH m)(o3:zbM p)(o4:zcQ t)(tms:FuncId->Nat->Option Tmpl){D0:Dc A0}{D1:Dc A1}{D2:Dc A2}{D3:Dc A3}{D4:Dc A4}{D5:Dc A5}{g:A0->A1->A2->A3->A4->A5->Bool×List AV}{E:Nat->A0->A1->A2->A3->A4->A5->OA}{f:FuncId}(law:∀a0 a1 a2 a3 a4 a5,zbq big [D0.e a0,D1.e a1,D2.e a2,D3.e a3,D4.e a4,D5.e a5]->(g a0 a1 a2 a3 a4 a5).1=true->∃N,E N a0 a1 a2 a3 a4 a5=some (g a0 a1 a2 a3 a4 a5).2)(nf:∀N a0 a1 a2 a3 a4 a5,evalFn (cQ c m p t) tms N 12 f [D0.e a0,D1.e a1,D2.e a2,D3.e a3,D4.e a4,D5.e a5]=E N a0 a1 a2 a3 a4 a5:=by intros;kernel_rfl)(hf:zd6 f=true:=by kernel_rfl):uV f (rF6 D0 D1 D2 D3 D4 D5 g) :=
 zjm o1 o2 o3 o4 hf (zcj fun a0=>zcj fun a1=>zcj fun a2=>zcj fun a3=>zcj fun a4=>zcj fun a5=>zhw (fun hb hc=>law a0 a1 a2 a3 a4 a5 hb hc) fun N=>nf N a0 a1 a2 a3 a4 a5)
theorem kF6 {A0 A1 A2 A3 A4 A5:Type}{c:zK}{m:zeQ}{p:zcv}{t:zdq}(o1:zy c)(o2:zdH m)(o3:zbM p)(o4:zcQ t)(tms:FuncId->Nat->Option Tmpl){D0:Dc A0}{D1:Dc A1}{D2:Dc A2}{D3:Dc A3}{D4:Dc A4}{D5:Dc A5}{g:A0->A1->A2->A3->A4->A5->Bool×List AV}{E:Nat->A0->A1->A2->A3->A4->A5->OA}{f:FuncId}(law:∀a0 a1 a2 a3 a4 a5,(g a0 a1 a2 a3 a4 a5).1=true->∃N,E N a0 a1 a2 a3 a4 a5=some (g a0 a1 a2 a3 a4 a5).2)(nf:∀N a0 a1 a2 a3 a4 a5,evalFn (cQ c m p t) tms N 12 f [D0.e a0,D1.e a1,D2.e a2,D3.e a3,D4.e a4,D5.e a5]=E N a0 a1 a2 a3 a4 a5:=by intros;kernel_rfl)(hf:zd6 f=true:=by kernel_rfl):uV f (rF6 D0 D1 D2 D3 D4 D5 g):=hF6 o1 o2 o3 o4 tms (fun a0 a1 a2 a3 a4 a5 _=>law a0 a1 a2 a3 a4 a5) nf hf
theorem zfX {avs:List AV}(h:∃(w:World) (xs:Nat->Value) (K:Nat->zJ),∀(j:Nat) (c:CV),(zk avs)[j]?=some c->Rep false w (xs j) c (K j)):zbq big avs:=by
 obtain ⟨w,xs,K,h⟩:=h;intro c hc;obtain ⟨j,hj⟩:=qP.1 hc;exact CVB.of_rep (h j c hj)
theorem cT {α:Type}(x y:α):(cond true x y)=x:=by simp
theorem cF {α:Type}(x y:α):(cond false x y)=y:=by simp
theorem znA:big=140737488355328:=rfl
theorem znS {x:Int}(h1 : -9223372036854775808<=x)(h2:x<=9223372036854775807):IntKind.i64.wrap x=x:=by
 simp only[IntKind.wrap,IntKind.signed,IntKind.bits];simp;omega
theorem znR {x y:Int}(h1 : -9223372036854775808<=x+y)(h2:x+y<=9223372036854775807):zG .i64 x y=x+y:=znS h1 h2
theorem znT {x y:Int}(h1 : -9223372036854775808<=x-y)(h2:x-y<=9223372036854775807):wsub .i64 x y=x-y:=znS h1 h2
theorem zN {i n:Nat}(h:i<n)(hn:n<=big):zG .i64 (i:Int) 1=((i+1:Nat):Int):=by
 rw[znA]at hn;rw[znR (by omega) (by omega)]
 omega
section
variable {α:Type}
theorem zbl {l:List α}{i:Nat}(h:i<l.length):ilt (i:Int) (ln l)=true:=by
 unfold ilt ln;exact qL (by omega)
theorem zbe {l:List α}:ilt ((l.length:Nat):Int) (ln l)=false:=by
 unfold ilt ln;exact qK (by omega)
theorem zU {l:List α}{i:Nat}(h:i<l.length):inb (i:Int) (ln l)=true:=by
 unfold inb ln;exact qL (by omega)
theorem zZ {l:List α}{i:Nat}(h:i<l.length)(d:α):ix l (i:Int) d=l[i]:=by
 unfold ix;simp[List.getD,qB h]
theorem zd5 {l:List α}(h:l.length<=2147483648):few (ln l)=true:=by
 unfold few ln;exact qL (by omega)
theorem zrY (x:Int):ieq x x=true:=by simp[ieq]
theorem zHS (x:Int):ine x x=false:=by simp[ine]
theorem zNF (x:Bool):zml x x=true:=by simp[zml]
end
theorem zgb {σ ρ:Type}(n:Nat)(F:(σ->Option ρ)->σ->Option ρ)(s:σ):iter (n+1) F s=F (iter n F) s:=rfl
def goL {α τ ρ:Type}(body:Nat->α->τ->(τ->Option ρ)->Option ρ)(K:τ->Option ρ):List α->Nat->τ->Option ρ
 | [],_,t=>K t
 | x :: l,i,t=>body i x t (goL body K l (i+1))
theorem zQ {α τ ρ σ:Type}(l:List α)(st:Nat->τ->σ)(F:(σ->Option ρ)->σ->Option ρ)(body:Nat->α->τ->(τ->Option ρ)->Option ρ)(K:τ->Option ρ)(hstep:∀(i:Nat) (hi:i<l.length) (t:τ) (rec:σ->Option ρ),F rec (st i t)=body i l[i] t (fun t'=>rec (st (i+1) t')))(hend:∀(t:τ) (rec:σ->Option ρ),F rec (st l.length t)=K t) :
 ∀(N:Nat) (t:τ),l.length<N->iter N F (st 0 t)=goL body K l 0 t:=by
 have key:∀(m i N:Nat) (t:τ),l.length-i=m->i<=l.length->m<N->iter N F (st i t)=goL body K (l.drop i) i t:=by
  intro m
  induction m with
  | zero =>
   intro i N t hm hi hN;have:i=l.length:=by omega
   subst this;obtain ⟨n,rfl⟩:∃n,N=n+1:=⟨N-1,by omega⟩
   rw[zgb,hend,uS];rfl
  | succ m ih =>
   intro i N t hm hi hN;obtain ⟨n,rfl⟩:∃n,N=n+1:=⟨N-1,by omega⟩
   have hlt:i<l.length:=by omega
   rw[zgb,hstep i hlt,j5 hlt];simp only[goL]
   congr 1
   funext t'
   exact ih (i+1) n t' (by omega) (by omega) (by omega)
 intro N t hN;have:=key l.length 0 N t (by omega) (jZ _) hN
 simpa using this
def goN {τ ρ:Type}(body:Nat->τ->(τ->Option ρ)->Option ρ)(K:τ->Option ρ):Nat->Nat->τ->Option ρ
 | 0,_,t=>K t
 | n+1,i,t=>body i t (goN body K n (i+1))
theorem zom {τ ρ σ:Type}(n:Nat)(st:Nat->τ->σ)(F:(σ->Option ρ)->σ->Option ρ)(body:Nat->τ->(τ->Option ρ)->Option ρ)(K:τ->Option ρ)(hstep:∀(i:Nat) (hi:i<n) (t:τ) (rec:σ->Option ρ),F rec (st i t)=body i t (fun t'=>rec (st (i+1) t')))(hend:∀(t:τ) (rec:σ->Option ρ),F rec (st n t)=K t) :
 ∀(N:Nat) (t:τ),n<N->iter N F (st 0 t)=goN body K n 0 t:=by
 have key:∀(m i N:Nat) (t:τ),n-i=m->i<=n->m<N->iter N F (st i t)=goN body K (n-i) i t:=by
  intro m
  induction m with
  | zero =>
   intro i N t hm hi hN;have:i=n:=by omega
   subst this;obtain ⟨k,rfl⟩:∃k,N=k+1:=⟨N-1,by omega⟩
   rw[zgb,hend,uO];rfl
  | succ m ih =>
   intro i N t hm hi hN;obtain ⟨k,rfl⟩:∃k,N=k+1:=⟨N-1,by omega⟩
   have hlt:i<n:=by omega
   have e:n-i=(n-(i+1))+1:=by omega
   rw[zgb,hstep i hlt,e];simp only[goN]
   congr 1
   funext t'
   exact ih (i+1) k t' (by omega) (by omega) (by omega)
 intro N t hN;have:=key n 0 N t (by omega) (jZ _) hN
 simpa using this
theorem zSH {α ρ:Type}(l:List α)(d:α)(F:(Int×List α×List α×Unit->Option ρ)->Int×List α×List α×Unit->Option ρ)(k:Option ρ)(hl:l.length<=big)(hstep:∀(i:Nat) (hi:i<l.length) rec,F rec ((i:Int),l,l,())=rec (zG .i64 (i:Int) 1,l,l,()))(hend:∀rec,F rec ((l.length:Int),l,l,())=k){N:Nat}(hN:l.length<N) :
 iter N F (0,(l,(l,())))=k:=by
 have key:∀(m i N:Nat),l.length-i=m->i<=l.length->m<N->iter N F ((i:Int),(l,(l,())))=k:=by
  intro m
  induction m with
  | zero =>
   intro i N hm hi hN;have:i=l.length:=by omega
   subst this;obtain ⟨n,rfl⟩:∃n,N=n+1:=⟨N-1,by omega⟩
   rw[zgb,hend]
  | succ m ih =>
   intro i N hm hi hN;obtain ⟨n,rfl⟩:∃n,N=n+1:=⟨N-1,by omega⟩
   have hlt:i<l.length:=by omega
   rw[zgb,hstep i hlt,zN hlt hl];exact ih (i+1) n (by omega) (by omega) (by omega)
 exact key l.length 0 N (by omega) (jZ _) hN
def sm:Nat:=1048576
theorem zUO:pc True=true:=zbk trivial
theorem zcA {n:Nat}(h:n<=sm):n<=big/\n<=2147483648:=by
 unfold sm at h;rw[znA];omega
def hasB (i n:Int):Bool:=decide (0<=i/\i<n)
theorem has_eq (i n:Int):(ige i 0&&ilt i n)=hasB i n:=by
 unfold ige ilt hasB
 by_cases h1:0<=i<;>by_cases h2:i<n<;>simp [h1,h2]
theorem zx {i n:Int}(h:hasB i n=true):inb i n=true:=h
theorem zcH {i:Int}{n:Nat}(h:hasB i n=true):∃k:Nat,i=k/\k<n:=by
 have:0<=i/\i<n:=qG h;exact ⟨i.toNat,by omega,by omega⟩
theorem zbJ {α:Type}{l:List α}{i:Int}(h:hasB i (ln l)=true)(d:α):ix l i d∈l:=by
 obtain ⟨k,rfl,hk⟩:=zcH (n:=l.length) h;rw[zZ hk];exact jR hk
theorem ziy {α:Type}(l:List α):ap [] l=l:=rfl
theorem zg8 {α ρ:Type}(c:α->Bool)(f:α->α)(K:List α->Option ρ):∀(l:List α) (i:Nat) (acc:List α),(∀x∈l,c x=true/\f x=x)->acc.length+l.length<=2147483648 ->
 goL (fun _ x acc k=>bif c x then (cond (few (ln (ap acc [f x]))) (k (ap acc [f x])) none) else none) K l i acc=K (acc++l)
 | [],i,acc,_,_=>by simp[goL]
 | x :: l,i,acc,h,hn=>by
  obtain ⟨h1,h2⟩:=h x (by simp)
  simp only[qW]at hn;simp only[goL,h1,h2,cT];rw[zd5 (by simp[ap];omega),cT,zg8 c f K l (i+1) _ (fun y hy=>h y (by simp[hy])) (by simp[ap];omega)]
  simp[ap]
def zcn (h:Host):Prop:=∀c∈zbh h,CVB sm c
theorem zcn.mem {h:Host}(hs:zcn h):CVB sm (.s (.sl .int) h.Memory):=hs _ (by simp[zbh])
theorem zcn.mons {h:Host}(hs:zcn h):CVB sm (.s .mon h.Mons):=hs _ (by simp[zbh])
theorem zjR {t:Ty}{l:List t.den}(h:CVB sm (.s t l)):few (ln l)=true:=zd5 (zcA h.len).2
def NN:Nat:=big+1
theorem zUa {n:Nat}(h:n<=big):n<NN:=Nat.lt_succ_of_le h
def zkN (p:Nat->Bool):Nat->Nat->Bool
 | 0,_=>true
 | n+1,i=>p i&&zkN p n (i+1)
theorem zqr {ρ:Type}(p:Nat->Bool)(r:Option ρ)(K:Unit->Option ρ):∀(n i:Nat),goN (fun i (_:Unit) k=>bif p i then k () else r) K n i ()=bif zkN p n i then K () else r
 | 0,_=>rfl
 | n+1,i=>by
  simp only[goN,zkN];cases p i
  .rfl
  .simp only [cT,Bool.true_and];exact zqr p r K n (i+1)
theorem znE {α τ ρ:Type}(b:Nat->τ->(τ->Option ρ)->Option ρ)(K:τ->Option ρ):∀(l:List α) (i:Nat) (t:τ),goL (fun i _ t k=>b i t k) K l i t=goN b K l.length i t
 | [],_,_=>rfl
 | _ :: l,i,t=>by
  have ih:goL (fun i _ t k=>b i t k) K l (i+1)=goN b K l.length (i+1):=funext fun t=>znE b K l (i+1) t;simp only[goL,qW,goN,ih]
theorem zdO {α ρ:Type}(p:α->Bool)(r:Option ρ)(K:Unit->Option ρ):∀(l:List α) (i:Nat),goL (fun _ x (_:Unit) k=>bif p x then k () else r) K l i ()=bif l.all p then K () else r
 | [],_=>rfl
 | x :: l,i=>by
  simp only[goL,kQ];cases p x
  .rfl
  .simp only [cT,Bool.true_and];exact zdO p r K l (i+1)
theorem zr0 {n:Nat}(hn:n<=big)(i:Int):(ige i 0&&ile i (wsub .i64 (n:Int) 1))=hasB i n:=by
 rw[znA]at hn;rw[znT (by omega) (by omega)]
 unfold ige ile hasB
 by_cases h1:0<=i<;>by_cases h2:i<n
 .rw [qL (p:=i≥0) (by omega),qL (p:=i<=(n:Int)-1) (by omega),qL (p:=0<=i/\i<(n:Int)) ⟨h1,h2⟩];rfl
 .rw [qK (p:=i<=(n:Int)-1) (by omega),qK (p:=0<=i/\i<(n:Int)) (by omega)];simp
 .rw [qK (p:=i≥0) (by omega),qK (p:=0<=i/\i<(n:Int)) (by omega)];simp
 .rw [qK (p:=i≥0) (by omega),qK (p:=0<=i/\i<(n:Int)) (by omega)];simp
theorem zSO {σ ρ τ:Type}(n:Nat)(st:Nat->τ->σ)(F:(σ->Option ρ)->σ->Option ρ)(I:Nat->τ->Prop)(res:Nat->τ->Option ρ)(hstep:∀(i:Nat) (t:τ) (rec:σ->Option ρ),i<n->I i t->(∀t',I (i+1) t'->rec (st (i+1) t')=res (i+1) t')->F rec (st i t)=res i t)(hend:∀(t:τ) (rec:σ->Option ρ),I n t->F rec (st n t)=res n t):∀(N i:Nat) (t:τ),I i t->i<=n->n-i<N->iter N F (st i t)=res i t:=by
 have key:∀(m N i:Nat) (t:τ),n-i=m->I i t->i<=n->m<N->iter N F (st i t)=res i t:=by
  intro m
  induction m with
  | zero =>
   intro N i t hm hI hi hN;obtain ⟨k,rfl⟩:∃k,N=k+1:=⟨N-1,by omega⟩
   have:i=n:=by omega
   subst this;rw[zgb];exact hend t _ hI
  | succ m ih =>
   intro N i t hm hI hi hN;obtain ⟨k,rfl⟩:∃k,N=k+1:=⟨N-1,by omega⟩
   rw[zgb];exact hstep i t _ (by omega) hI (fun t' hI'=>ih k (i+1) t' (by omega) hI' (by omega) (by omega))
 intro N i t hI hi hN;exact key (n-i) N i t rfl hI hi hN
section
variable {α:Type}
theorem zL1 {l:List α}{i:Nat}(h:i<l.length)(d:α):up l (i:Int) (ix l (i:Int) d)=l:=by
 rw[zZ h];unfold up;apply kT;intro k;rw[jD];have e:(i:Int).toNat=i:=by omega
 rw[e]
 by_cases hk:i=k
 .subst hk;simp[h]
 .simp [hk]
theorem zdp {l:List α}{i:Nat}(h:i<l.length)(x d:α):ix (up l (i:Int) x) (i:Int) d=x:=by
 unfold ix up;have e:(i:Int).toNat=i:=by omega
 rw[e];simp[List.getD,h]
theorem zst (l:List α)(i:Int)(x y:α):up (up l i x) i y=up l i y:=by
 unfold up;simp
theorem zTG {l:List α}{i k:Nat}(h:i<k)(x:α):(up l (i:Int) x)[k]?=l[k]?:=by
 unfold up;have e:(i:Int).toNat=i:=by omega
 rw[e,jD,if_neg (by omega)]
end
def zTo:zK:=zja
theorem zSp:zy zTo:=zdz
def zTp:zK:=zTo
theorem zSq:zy zTp:=zSp
def zTq:zK:=zTp
theorem zSr:zy zTq:=zSq
def zTr:zK:=zTq
theorem zSs:zy zTr:=zSr
def zTs:zK:=zTr
theorem zSt:zy zTs:=zSs
def zTt:zK:=zTs
theorem zSu:zy zTt:=zSt
def zTu:zK:=zTt
theorem zSv:zy zTu:=zSu
def zQT:zK:=zTu
theorem zPy:zy zQT:=zSv
def zQU:zK:=zQT
theorem zPz:zy zQU:=zPy
def zQV:zK:=zQU
theorem zPA:zy zQV:=zPz
def zQW:zK:=zQV
theorem zPB:zy zQW:=zPA
def zQX:zK:=zQW
theorem zPC:zy zQX:=zPB
def zQY:zK:=zQX
theorem zPD:zy zQY:=zPC
def zQZ:zK:=zQY
theorem zPE:zy zQZ:=zPD
def zQ0:zK:=zQZ
theorem zPF:zy zQ0:=zPE
def zQ1:zK:=zQ0
theorem zPG:zy zQ1:=zPF
def zQ2:zK:=zQ1
theorem zPH:zy zQ2:=zPG
def zQ3:zK:=zQ2
theorem zPI:zy zQ3:=zPH
def zQ4:zK:=zQ3
theorem zPJ:zy zQ4:=zPI
def zQ5:zK:=zQ4
theorem zPK:zy zQ5:=zPJ
def zTA:zK:=zQ5
theorem znB:∀f run,zh zTA f=some run->Holds Tryz.prog f run:=zPK
def zT (_ _ _:Int):Bool:=true
def zba (x a b:Int):Bool:=ige x a&&ile x b
def zxJ:Run:=rF3 dI dI dI fun b c d=>(zT b c d,[aB (zba b c d)])
def zET (N:Nat)(a0 a1 a2:Int):OA:=
 (cond (ige a0 a1) (some [(aB (ile a0 a2))]) oF)
theorem zKQ (a0 a1 a2:Int)(hc:zT a0 a1 a2=true):∃N,zET N a0 a1 a2=some [aB (zba a0 a1 a2)]:=by
 refine ⟨0,?_⟩;unfold zET zba;cases ige a0 a1<;>rfl
theorem zFR:uV 93 zxJ:=kF3 znB zV zl zn (zo []) zKQ
def zbs (_ _:Int):Bool:=true
abbrev zbA (i n:Int):Bool:=hasB i n
def zFp:Run:=rF2 dI dI fun b c=>(zbs b c,[aB (zbA b c)])
def zLo (N:Nat)(a0 a1:Int):OA:=
 (cond (ige a0 0) (some [(aB (ilt a0 a1))]) oF)
theorem zOG (a0 a1:Int)(hc:zbs a0 a1=true):∃N,zLo N a0 a1=some [aB (zbA a0 a1)]:=by
 refine ⟨0,?_⟩;unfold zLo zbA;rw[<- has_eq];cases ige a0 0<;>rfl
theorem zKw:uV 87 zFp:=kF2 znB zV zl zn (zo []) zOG
theorem zuw {n:Nat}(hn:n<=big)(i:Int):zba i 0 (wsub .i64 (n:Int) 1)=hasB i n:=by
 rw[znA]at hn;rw[znT (by omega) (by omega)]
 unfold zba ige ile hasB
 by_cases h1:0<=i<;>by_cases h2:i<n
 .rw [qL (p:=i≥0) (by omega),qL (p:=i<=(n:Int)-1) (by omega),qL (p:=0<=i/\i<(n:Int)) ⟨h1,h2⟩];rfl
 .rw [qK (p:=i<=(n:Int)-1) (by omega),qK (p:=0<=i/\i<(n:Int)) (by omega)];simp
 .rw [qK (p:=i≥0) (by omega),qK (p:=0<=i/\i<(n:Int)) (by omega)];simp
 .rw [qK (p:=i≥0) (by omega),qK (p:=0<=i/\i<(n:Int)) (by omega)];simp
def zgX (l:List (List Int)):Bool:=pc (CVB sm (.s (.sl .int) l))
abbrev zfz (l:List (List Int)):List (List Int):=l
def ztd:Run:=rF1 (dS (.sl .int)) fun b=>(zgX b,[aS (.sl .int) (zfz b)])
def zw5 (N:Nat)(a0:lM):OA:=
 (iter (σ:=(Int×(lM×(lM×Unit)))) N (fun r2 s3=>let y0:=(ap [] (ix s3.2.1 s3.1 [])); (cond (ilt s3.1 (ln s3.2.1)) (oN (inb s3.1 (ln s3.2.1)) (oN (few (ln y0)) (oN (few (ln (ap s3.2.2.1 [y0]))) (r2 ((zG .i64 s3.1 1),(s3.2.1,((ap s3.2.2.1 [y0]),()))))))) (some [(aS (.sl .int) s3.2.2.1)]))) (0,(a0,([],()))))
def zGA:FuncId->Nat->Option Tmpl:=zo [(248,0,{ n:=22,tm:=[(0,.sl 0 []),(3,.sl 1 []),(4,ti)],lo:=[],ro:=[(0,(.sl .int),false),(1,(.sl .int),true)] })]
theorem zGi (a0:List (List Int))(hc:zgX a0=true):∃N,zw5 N a0=some [aS (.sl .int) (zfz a0)]:=by
 have hs:=zB.1 hc;have hl:=zcA hs.len;refine ⟨a0.length+1,?_⟩;unfold zw5 oN
 conv=>zeta
 refine (zQ a0 (fun i acc=>((i:Int),(a0,(acc,())))) _ (fun _ x acc k=>bif few (ln x) then (cond (few (ln (ap acc [x]))) (k (ap acc [x])) none) else none) (fun acc=>some [AV.one (.s (.sl .int) acc)])
  (fun i hi t rec=>?_) (fun t rec=>?_) _ [] (uD _)).trans ((zg8 (fun x=>few (ln x)) (fun x=>x) _ a0 0 [] (fun x hx=>⟨zd5 (zcA (hs.inv.2 x hx _ (qE.2 rfl)).len).2,rfl⟩) (by simpa using hl.2)))
 .simp only [zbl hi,zU hi,zZ hi,cT,zN hi hl.1,ziy]
 .simp only [zbe,cF]
theorem zA5:uV 248 ztd:=kF1 znB zV zl zn zGA zGi
abbrev zeJ (k:Kept):Bool:=pc (∀c∈Ty.cells .kept k,CVB sm c)
abbrev zcK (k:Kept):Kept:=k
def zte:Run:=rF1 (dT .kept) fun b=>(zeJ b,[aT .kept (zcK b)])
def zw6 (N:Nat)(a0:Kept):OA:=
 (oN (few (ln (ap [] a0.Known))) (oN (few (ln (ap [] a0.Slots))) (some [(.agg [(.s .bool (ap [] a0.Known)),(.s .slot (ap [] a0.Slots))])])))
theorem zGj (a0:Kept)(hc:zeJ a0=true):∃N,zw6 N a0=some [aT .kept (zcK a0)]:=by
 have h:=zB.1 hc;have h1:=zjR (h (.s .bool a0.Known) (by simp[Ty.cells]))
 have h2:=zjR (h (.s .slot a0.Slots) (by simp[Ty.cells]))
 refine ⟨0,?_⟩;simp only[zw6,ziy,h1,h2,cT];rfl
theorem zA6:uV 293 zte:=kF1 znB zV zl zn (zo []) zGj
def zfQ (g:Guest):Bool:=pc (∀c∈Ty.cells .guest g,CVB sm c)
abbrev zfB (g:Guest):Guest:=g
def ztf:Run:=rF1 (dT .guest) fun b=>(zfQ b,[aT .guest (zfB b)])
def zw7 (N:Nat)(a0:Guest):OA:=
 (oN (few (ln (ap [] a0.Prog))) (oN (few (ln (ap [] a0.Written))) (oN (few (ln (ap [] a0.Live))) (oN (few (ln (ap [] a0.Seen))) (some [(.agg [(.s .ins (ap [] a0.Prog)),(.i .i64 a0.A),(.i .i64 a0.Pc),(.s .slot (ap [] a0.Written)),(.s .slot (ap [] a0.Live)),(.i .i64 a0.Ctl.Traps),(.i .i64 a0.Ctl.Post),(.b a0.Ctl.Open),(.i .i64 a0.Pending),(.i .i64 a0.Exit.Kind),(.i .i64 a0.Exit.Page),(.b a0.Exit.Write),(.i .i64 a0.Exit.N),(.b a0.Halted),(.s .int (ap [] a0.Seen))])])))))
theorem zGl (a0:Guest)(hc:zfQ a0=true):∃N,zw7 N a0=some [aT .guest (zfB a0)]:=by
 have h:=zB.1 hc;have h1:=zjR (h (.s .ins a0.Prog) (by simp[Ty.cells]))
 have h2:=zjR (h (.s .slot a0.Written) (by simp[Ty.cells]))
 have h3:=zjR (h (.s .slot a0.Live) (by simp[Ty.cells]))
 have h4:=zjR (h (.s .int a0.Seen) (by simp[Ty.cells]))
 refine ⟨0,?_⟩;simp only[zw7,ziy,h1,h2,h3,h4,cT];rfl
theorem zA8:uV 175 ztf:=kF1 znB zV zl zn (zo []) zGl
def zQ6:zK:=[(93,zxJ),(87,zFp),(248,ztd),(293,zte),(175,ztf)]++zTA
theorem zHj:zy zQ6:=zf zFR (zf zKw (zf zA5 (zf zA6 (zf zA8 znB))))
def zfj (l:List Guest):Bool:=pc (CVB sm (.s .guest l))
abbrev zfR (l:List Guest):List Guest:=l
def zpv:Run:=rF1 (dS .guest) fun b=>(zfj b,[aS .guest (zfR b)])
def zsO (N:Nat)(a0:lG):OA:=
 (iter (σ:=(Int×(lG×(lG×Unit)))) N (fun r2 s3=>let y0:=(ix s3.2.1 s3.1 zC); (cond (ilt s3.1 (ln s3.2.1)) (oN (inb s3.1 (ln s3.2.1)) (oN (zfQ y0) (oN (few (ln (ap s3.2.2.1 [(zfB y0)]))) (r2 ((zG .i64 s3.1 1),(s3.2.1,((ap s3.2.2.1 [(zfB y0)]),()))))))) (some [(aS .guest s3.2.2.1)]))) (0,(a0,([],()))))
def zCi:FuncId->Nat->Option Tmpl:=zo [(292,0,{ n:=21,tm:=[(0,.sl 0 []),(3,.sl 1 []),(4,ti)],lo:=[],ro:=[(0,.guest,false),(1,.guest,true)] })]
theorem zBB (a0:List Guest)(hc:zfj a0=true):∃N,zsO N a0=some [aS .guest (zfR a0)]:=by
 have hs:=zB.1 hc;have hl:=zcA hs.len;refine ⟨a0.length+1,?_⟩;unfold zsO oN
 conv=>zeta
 refine (zQ a0 (fun i acc=>((i:Int),(a0,(acc,())))) _ (fun _ x acc k=>bif zfQ x then (cond (few (ln (ap acc [zfB x]))) (k (ap acc [zfB x])) none) else none) (fun acc=>some [AV.one (.s .guest acc)])
  (fun i hi t rec=>?_) (fun t rec=>?_) _ [] (uD _)).trans ((zg8 zfQ zfB _ a0 0 [] (fun x hx=>⟨zbk (hs.inv.2 x hx),rfl⟩) (by simpa using hl.2)))
 .simp only [zbl hi,zU hi,zZ hi,cT,zN hi hl.1]
 .simp only [zbe,cF]
theorem zwB:uV 292 zpv:=kF1 zHj zV zl zn zCi zBB
def zQ7:zK:=[(292,zpv)]++zQ6
theorem zHk:zy zQ7:=zf zwB zHj
abbrev znt (m:Mon):Bool:=pc (∀c∈Ty.cells .mon m,CVB sm c)
abbrev zzi (m:Mon):Mon:=m
def zvw:Run:=rF1 (dT .mon) fun b=>(znt b,[aT .mon (zzi b)])
def zAk (N:Nat)(a0:Mon):OA:=
 (oN (few (ln (ap [] a0.Outer))) (oN (zgX a0.Out) (oN (few (ln (ap [] a0.Dirty))) (oN (zfj a0.Guests) (oN (few (ln (ap [] a0.Outs))) (iter (σ:=(Int×(Int×(Int×(Int×(Int×(Int×(Int×(lK×(lS×(lM×(lB×(lG×((List Int)×(lK×(lS×(lM×(lB×(lG×((List Int)×(lK×Unit))))))))))))))))))))) N (fun r2 s3=>let y2:=s3.2.2.2.2.2.2.2.2.2.2.2.2.1;let y0:=s3.2.2.2.2.2.2.2.2.2.2.2.2.2.1;let y1:=(ap s3.2.2.2.2.2.2.2.1 [(zcK (ix y0 s3.1 zcr))]); (cond (ilt s3.1 (ln y0)) (oN (inb s3.1 (ln y0)) (oN (zeJ (ix y0 s3.1 zcr)) (oN (few (ln y1)) (r2 ((zG .i64 s3.1 1),(s3.2.1,(s3.2.2.1,(s3.2.2.2.1,(s3.2.2.2.2.1,(s3.2.2.2.2.2.1,(s3.2.2.2.2.2.2.1,(y1,(s3.2.2.2.2.2.2.2.2.1,(s3.2.2.2.2.2.2.2.2.2.1,(s3.2.2.2.2.2.2.2.2.2.2.1,(s3.2.2.2.2.2.2.2.2.2.2.2.1,(y2,(y0,(s3.2.2.2.2.2.2.2.2.2.2.2.2.2.2.1,(s3.2.2.2.2.2.2.2.2.2.2.2.2.2.2.2.1,(s3.2.2.2.2.2.2.2.2.2.2.2.2.2.2.2.2.1,(s3.2.2.2.2.2.2.2.2.2.2.2.2.2.2.2.2.2.1,(s3.2.2.2.2.2.2.2.2.2.2.2.2.2.2.2.2.2.2.1,(s3.2.2.2.2.2.2.2.2.2.2.2.2.2.2.2.2.2.2.2.1,())))))))))))))))))))))))) (some [(.agg [(.s .slot s3.2.2.2.2.2.2.2.2.1),(.s (.sl .int) s3.2.2.2.2.2.2.2.2.2.1),(.s .bool s3.2.2.2.2.2.2.2.2.2.2.1),(.s .guest s3.2.2.2.2.2.2.2.2.2.2.2.1),(.s .int y2),(.i .i64 s3.2.1),(.i .i64 s3.2.2.1),(.s .kept s3.2.2.2.2.2.2.2.1),(.i .i64 s3.2.2.2.1)])]))) (0,(a0.Pending,(a0.Traps,(a0.Own,(0,(0,(0,([],((ap [] a0.Outer),((zfz a0.Out),((ap [] a0.Dirty),((zfR a0.Guests),((ap [] a0.Outs),(a0.Tables,([],([],([],([],([],([],()))))))))))))))))))))))))))
def zJ5:FuncId->Nat->Option Tmpl:=zo [(176,0,{ n:=48,tm:=[(1,.lp 0 0),(2,.lp 1 0),(3,.sl 0 []),(4,ti)],lo:=[(0,[.sl 1 [],.sl 2 [],.sl 3 [],.sl 4 [],.sl 5 [],ti,ti,.sl 6 [],ti]),(1,[.sl 7 [],.sl 8 [],.sl 9 [],.sl 10 [],.sl 11 [],ti,ti,.sl 12 [],ti])],ro:=[(0,.kept,true),(1,.slot,true),(2,(.sl .int),true),(3,.bool,true),(4,.guest,true),(5,.int,true),(6,.kept,false),(7,.slot,true),(8,(.sl .int),true),(9,.bool,true),(10,.guest,true),(11,.int,true),(12,.kept,true)] })]
theorem zIS (a0:Mon)(hc:znt a0=true):∃N,zAk N a0=some [aT .mon (zzi a0)]:=by
 have h:=zB.1 hc;have h1:=zjR (h (.s .slot a0.Outer) (by simp[Ty.cells]))
 have h2:zgX a0.Out=true:=zbk (h (.s (.sl .int) a0.Out) (by simp[Ty.cells]))
 have h3:=zjR (h (.s .bool a0.Dirty) (by simp[Ty.cells]))
 have h4:zfj a0.Guests=true:=zbk (h (.s .guest a0.Guests) (by simp[Ty.cells]))
 have h5:=zjR (h (.s .int a0.Outs) (by simp[Ty.cells]))
 have h6:CVB sm (.s .kept a0.Tables):=h (.s .kept a0.Tables) (by simp[Ty.cells])
 have hl:=zcA h6.len;refine ⟨a0.Tables.length+1,?_⟩;unfold zAk oN
 conv=>zeta
 simp only[ziy,h1,h2,h3,h4,h5,cT];refine (zQ a0.Tables (fun i acc=>((i:Int),a0.Pending,a0.Traps,a0.Own,0,0,0,acc,a0.Outer,zfz a0.Out,a0.Dirty,zfR a0.Guests,a0.Outs,a0.Tables,[],[],[],[],[],[],())) _
  (fun _ x acc k=>bif zeJ x then (cond (few (ln (ap acc [zcK x]))) (k (ap acc [zcK x])) none) else none) (fun acc=>some [AV.agg (Ty.cells .mon ⟨a0.Outer,a0.Out,a0.Dirty,a0.Guests,a0.Outs,a0.Pending,a0.Traps,acc,a0.Own⟩)])
  (fun i hi t rec=>?_) (fun t rec=>?_) _ [] (uD _)).trans ((zg8 zeJ zcK _ a0.Tables 0 [] (fun x hx=>⟨zbk (h6.inv.2 x hx),rfl⟩) (by simpa using hl.2)))
 .simp only [zbl hi,zU hi,zZ hi,cT,zN hi hl.1]
 .simp only [zbe,cF];rfl
theorem zDw:uV 176 zvw:=kF1 zHk zV zl zn zJ5 zIS
def zQ8:zK:=[(176,zvw)]++zQ7
theorem zHl:zy zQ8:=zf zDw zHk
def zvA (h:Host)(_:Int):Bool:=pc (zcn h)
def zdl (h:Host)(m:Int):Mon:=bif hasB m (ln h.Mons) then ix h.Mons m zi else Ty.dflt .mon
def zl3 (h:Host)(m:Int):Bool:=hasB m (ln h.Mons)
def zpZ:Run:=rF2 dH dI fun b c=>(zvA b c,[aT .mon (zdl b c),aB (zl3 b c)])
def zEQ (N:Nat)(a0:Host)(a1:Int):OA:=
 let y1:=(ix a0.Mons a1 zi);let y0:=(zzi y1); (oN (zT a1 0 (wsub .i64 (ln a0.Mons) 1)) (cond (nB (zba a1 0 (wsub .i64 (ln a0.Mons) 1))) (some [(.agg [(.s .slot []),(.s (.sl .int) []),(.s .bool []),(.s .guest []),(.s .int []),(.i .i64 0),(.i .i64 0),(.s .kept []),(.i .i64 0)]),(aB false)]) (oN (inb a1 (ln a0.Mons)) (oN (znt y1) (some [(.agg [(.s .slot y0.Outer),(.s (.sl .int) y0.Out),(.s .bool y0.Dirty),(.s .guest y0.Guests),(.s .int y0.Outs),(.i .i64 y0.Pending),(.i .i64 y0.Traps),(.s .kept y0.Tables),(.i .i64 y0.Own)]),(aB true)])))))
theorem zKN (a0:Host)(a1:Int)(hc:zvA a0 a1=true):∃N,zEQ N a0 a1=some [aT .mon (zdl a0 a1),aB (zl3 a0 a1)]:=by
 have h:=(zB.1 hc).mons;refine ⟨0,?_⟩;unfold zEQ zdl zl3 oN nB
 conv=>zeta
 have e:zba a1 0 (wsub .i64 (ln a0.Mons) 1)=hasB a1 (ln a0.Mons):=zuw (zcA h.len).1 a1;rw[e];cases hh:hasB a1 (ln a0.Mons)
 .simp [zT,Ty.cells,Ty.dflt]
 .have h2:znt (ix a0.Mons a1 zi)=true:=zbk (h.inv.2 _ (zbJ hh _));simp only[zT,cT,uC,cF,zx hh,h2];rfl
theorem zsR:uV 71 zpZ:=kF2 zHl zV zl zn (zo []) zKN
def zQ9:zK:=[(71,zpZ)]++zQ8
theorem zPL:zy zQ9:=zf zsR zHl
def zRa:zK:=zQ9
theorem zPM:zy zRa:=zPL
def zTB:zK:=zRa
theorem zqm:∀f run,zh zTB f=some run->Holds Tryz.prog f run:=zPM
def noSlot:Slot:=⟨-1,0⟩
def zb5:Bool:=true
abbrev zbo:Slot:=noSlot
def zvk:Run:=rF0 (zb5,[aT .slot zbo])
def zL7 (N:Nat)  : OA :=
 (some [(.agg [(.i .i64 (-1)),(.i .i64 0)])])
theorem zIC  (hc:zb5=true):∃N,zL7 N  = some [aT .slot zbo]:=by
 exact ⟨0,rfl⟩
theorem zDh:uV 270 zvk:=kF0 zqm zV zl zn (zo []) zIC
def zbQ:Bool:=true
abbrev zbx:Slot:=noSlot
def zuU:Run:=rF0 (zbQ,[aT .slot zbx])
def zL5 (N:Nat)  : OA :=
 (some [(.agg [(.i .i64 (-1)),(.i .i64 0)])])
theorem zIb  (hc:zbQ=true):∃N,zL5 N  = some [aT .slot zbx]:=by
 exact ⟨0,rfl⟩
theorem zCS:uV 155 zuU:=kF0 zqm zV zl zn (zo []) zIb
def zbg (_ _ _:Int):Bool:=true
def zbn (x a b:Int):Bool:=ige x a&&ile x b
def zvc:Run:=rF3 dI dI dI fun b c d=>(zbg b c d,[aB (zbn b c d)])
def zzZ (N:Nat)(a0 a1 a2:Int):OA:=
 (cond (ige a0 a1) (some [(aB (ile a0 a2))]) oF)
theorem zIs (a0 a1 a2:Int)(hc:zbg a0 a1 a2=true):∃N,zzZ N a0 a1 a2=some [aB (zbn a0 a1 a2)]:=by
 refine ⟨0,?_⟩;unfold zzZ zbn;cases ige a0 a1<;>rfl
theorem zC9:uV 111 zvc:=kF3 zqm zV zl zn (zo []) zIs
def zRb:zK:=[(270,zvk),(155,zuU),(111,zvc)]++zTB
theorem zx8:zy zRb:=zf zDh (zf zCS (zf zC9 zqm))
def zcU (r:Int):Bool:=ige r 0&&ile r 3
def zf6 (_:Int):Bool:=true
abbrev zeB (r:Int):Bool:=zcU r
def zq6:Run:=rF1 dI fun b=>(zf6 b,[aB (zeB b)])
def zG3 (N:Nat)(a0:Int):OA:=
 (oN (zT a0 0 3) (some [(aB (zba a0 0 3))]))
theorem zD2 (a0:Int)(hc:zf6 a0=true):∃N,zG3 N a0=some [aB (zeB a0)]:=by
 exact ⟨0,rfl⟩
theorem zyK:uV 359 zq6:=kF1 zx8 zV zl zn (zo []) zD2
def zf1 (_:Int):Bool:=true
abbrev zey (r:Int):Bool:=zcU r
def zqR:Run:=rF1 dI fun b=>(zf1 b,[aB (zey b)])
def zG1 (N:Nat)(a0:Int):OA:=
 (oN (zbg a0 0 3) (some [(aB (zbn a0 0 3))]))
theorem zDM (a0:Int)(hc:zf1 a0=true):∃N,zG1 N a0=some [aB (zey a0)]:=by
 exact ⟨0,rfl⟩
theorem zyv:uV 350 zqR:=kF1 zx8 zV zl zn (zo []) zDM
def zRc:zK:=[(359,zq6),(350,zqR)]++zRb
theorem zjb:zy zRc:=zf zyK (zf zyv zx8)
def zfn (a b:Int):Int:=bif zcU a then (cond (zcU b) (wand .i64 a b) 0) else 0
def zla (_ _:Int):Bool:=true
abbrev ze3 (a b:Int):Int:=zfn a b
def zox:Run:=rF2 dI dI fun b c=>(zla b c,[aI (ze3 b c)])
def zqi (N:Nat)(a0 a1:Int):OA:=
 (oN (zf6 a0) (cond (nB (zeB a0)) (some [(aI 0)]) (oN (zf6 a1) (cond (nB (zeB a1)) (some [(aI 0)]) (some [(aI (wand .i64 a0 a1))])))))
theorem zy2 (a0 a1:Int)(hc:zla a0 a1=true):∃N,zqi N a0 a1=some [aI (ze3 a0 a1)]:=by
 refine ⟨0,?_⟩;unfold zqi ze3 zfn zeB oN nB;cases zcU a0<;>cases zcU a1<;>rfl
theorem zui:uV 377 zox:=kF2 zjb zV zl zn (zo []) zy2
def zkS (_ _:Int):Bool:=true
abbrev zeS (a b:Int):Int:=zfn a b
def zou:Run:=rF2 dI dI fun b c=>(zkS b c,[aI (zeS b c)])
def zqf (N:Nat)(a0 a1:Int):OA:=
 (oN (zf1 a0) (cond (nB (zey a0)) (some [(aI 0)]) (oN (zf1 a1) (cond (nB (zey a1)) (some [(aI 0)]) (some [(aI (wand .i64 a0 a1))])))))
theorem zyY (a0 a1:Int)(hc:zkS a0 a1=true):∃N,zqf N a0 a1=some [aI (zeS a0 a1)]:=by
 refine ⟨0,?_⟩;unfold zqf zeS zfn zey oN nB;cases zcU a0<;>cases zcU a1<;>rfl
theorem zua:uV 299 zou:=kF2 zjb zV zl zn (zo []) zyY
def enough (a b:Int):Bool:=bif zcU a then (cond (zcU b) (ieq (wand .i64 a b) b) false) else false
def zeA (_ _:Int):Bool:=true
abbrev ze4 (a b:Int):Bool:=enough a b
def zve:Run:=rF2 dI dI fun b c=>(zeA b c,[aB (ze4 b c)])
def zz2 (N:Nat)(a0 a1:Int):OA:=
 (oN (zf6 a0) (cond (zeB a0) (oN (zf6 a1) (cond (zeB a1) (some [(aB (ieq (wand .i64 a0 a1) a1))]) oF)) oF))
theorem zIv (a0 a1:Int)(hc:zeA a0 a1=true):∃N,zz2 N a0 a1=some [aB (ze4 a0 a1)]:=by
 refine ⟨0,?_⟩;unfold zz2 ze4 enough zeB oN;cases zcU a0<;>cases zcU a1<;>rfl
theorem zDb:uV 316 zve:=kF2 zjb zV zl zn (zo []) zIv
def zch (_ _:Int):Bool:=true
abbrev zcF (a b:Int):Bool:=enough a b
def zuL:Run:=rF2 dI dI fun b c=>(zch b c,[aB (zcF b c)])
def zzA (N:Nat)(a0 a1:Int):OA:=
 (oN (zf1 a0) (cond (zey a0) (oN (zf1 a1) (cond (zey a1) (some [(aB (ieq (wand .i64 a0 a1) a1))]) oF)) oF))
theorem zH2 (a0 a1:Int)(hc:zch a0 a1=true):∃N,zzA N a0 a1=some [aB (zcF a0 a1)]:=by
 refine ⟨0,?_⟩;unfold zzA zcF enough zey oN;cases zcU a0<;>cases zcU a1<;>rfl
theorem zCJ:uV 298 zuL:=kF2 zjb zV zl zn (zo []) zH2
def zcp (t:List Slot)(p:Int):Slot:=bif hasB p (ln t) then ix t p zL else noSlot
def zif (_:List Slot)(_:Int):Bool:=true
abbrev zgt (t:List Slot)(p:Int):Slot:=zcp t p
def zvr:Run:=rF2 (dS .slot) dI fun b c=>(zif b c,[aT .slot (zgt b c)])
def zAf (N:Nat)(a0:lS)(a1:Int):OA:=
 (oN (zT a1 0 (wsub .i64 (ln a0) 1)) (cond (nB (zba a1 0 (wsub .i64 (ln a0) 1))) (oN zb5 (some [(.agg [(.i .i64 zbo.Page),(.i .i64 zbo.Rights)])])) (oN (inb a1 (ln a0)) (some [(.agg [(.i .i64 (ix a0 a1 zL).Page),(.i .i64 (ix a0 a1 zL).Rights)])]))))
theorem zIK (a0:List Slot)(a1:Int)(hb:zbq big [aS .slot a0,aI a1])(hc:zif a0 a1=true):∃N,zAf N a0 a1=some [aT .slot (zgt a0 a1)]:=by
 have hl:=(len0 hb);refine ⟨0,?_⟩;unfold zAf zgt zcp oN nB;have e:zba a1 0 (wsub .i64 (ln a0) 1)=hasB a1 (ln a0):=zr0 hl a1;rw[e];cases hh:hasB a1 (ln a0)
 .rfl
 .rw [zx hh];rfl
theorem zDo:uV 177 zvr:=hF2 zjb zV zl zn (zo []) zIK
def zez (_:List Slot)(_:Int):Bool:=true
abbrev zdR (t:List Slot)(p:Int):Slot:=zcp t p
def zu3:Run:=rF2 (dS .slot) dI fun b c=>(zez b c,[aT .slot (zdR b c)])
def zzQ (N:Nat)(a0:lS)(a1:Int):OA:=
 (oN (zbs a1 (ln a0)) (cond (nB (zbA a1 (ln a0))) (oN zbQ (some [(.agg [(.i .i64 zbx.Page),(.i .i64 zbx.Rights)])])) (oN (inb a1 (ln a0)) (some [(.agg [(.i .i64 (ix a0 a1 zL).Page),(.i .i64 (ix a0 a1 zL).Rights)])]))))
theorem zIj (a0:List Slot)(a1:Int)(hc:zez a0 a1=true):∃N,zzQ N a0 a1=some [aT .slot (zdR a0 a1)]:=by
 refine ⟨0,?_⟩;unfold zzQ zdR zcp zbA oN nB;cases hh:hasB a1 (ln a0)
 .rfl
 .rw [zx hh];rfl
theorem zC0:uV 153 zu3:=kF2 zjb zV zl zn (zo []) zIj
def zRd:zK:=[(377,zox),(299,zou),(316,zve),(298,zuL),(177,zvr),(153,zu3)]++zRc
theorem zkP:zy zRd:=zf zui (zf zua (zf zDb (zf zCJ (zf zDo (zf zC0 zjb)))))
def zcq (a b:Slot):Bool:=ieq a.Page b.Page&&ieq a.Rights b.Rights
def below' (a b:Slot):Bool:=bif zcq a noSlot then true else (cond (ieq a.Page b.Page) (enough b.Rights a.Rights) false)
def zpd (_ _:Slot):Bool:=true
def zqy (a b:Slot):Bool:=below' a b
def zxv:Run:=rF2 (dT .slot) (dT .slot) fun b c=>(zpd b c,[aB (zqy b c)])
def zEE (N:Nat)(a0:Slot)(a1:Slot):OA:=
 (oN zbQ (cond (cond (ieq a0.Page zbx.Page) (ieq a0.Rights zbx.Rights) false) oT (cond (ieq a0.Page a1.Page) (oN (zch a1.Rights a0.Rights) (some [(aB (zcF a1.Rights a0.Rights))])) oF)))
theorem zKA (a0:Slot)(a1:Slot)(hc:zpd a0 a1=true):∃N,zEE N a0 a1=some [aB (zqy a0 a1)]:=by
 refine ⟨0,?_⟩;unfold zEE zqy below' zcq zbx oN;cases ieq a0.Page noSlot.Page<;>cases ieq a0.Rights noSlot.Rights<;>cases ieq a0.Page a1.Page<;>rfl
theorem zFC:uV 187 zxv:=kF2 zkP zV zl zn (zo []) zKA
def zcV (s:Slot)(outer:List Slot):Slot :=
 bif ieq s.Page (-1) then noSlot else (cond (ieq (zcp outer s.Page).Page (-1)) noSlot (cond (ieq (zfn s.Rights (zcp outer s.Page).Rights) 0) noSlot ⟨(zcp outer s.Page).Page,zfn s.Rights (zcp outer s.Page).Rights⟩))
def zg3 (_:Slot)(_:List Slot):Bool:=true
def zi5 (s:Slot)(outer:List Slot):Slot:=zcV s outer
def zmY:Run:=rF2 (dT .slot) (dS .slot) fun b c=>(zg3 b c,[aT .slot (zi5 b c)])
def zoV (N:Nat)(a0:Slot)(a1:lS):OA:=
 let y0:=(zgt a1 a0.Page); (oN (zif a1 a0.Page) (oN (zla a0.Rights y0.Rights) (cond (ieq a0.Page (-1)) (oN zb5 (some [(.agg [(.i .i64 zbo.Page),(.i .i64 zbo.Rights)])])) (cond (ieq y0.Page (-1)) (oN zb5 (some [(.agg [(.i .i64 zbo.Page),(.i .i64 zbo.Rights)])])) (cond (ieq (ze3 a0.Rights y0.Rights) 0) (oN zb5 (some [(.agg [(.i .i64 zbo.Page),(.i .i64 zbo.Rights)])])) (some [(.agg [(.i .i64 y0.Page),(.i .i64 (ze3 a0.Rights y0.Rights))])]))))))
theorem zwG (a0:Slot)(a1:List Slot)(hc:zg3 a0 a1=true):∃N,zoV N a0 a1=some [aT .slot (zi5 a0 a1)]:=by
 refine ⟨0,?_⟩;unfold zoV zi5 zcV zgt ze3 oN
 conv=>zeta
 cases ieq a0.Page (-1)<;>cases ieq (zcp a1 a0.Page).Page (-1)<;>cases ieq (zfn a0.Rights (zcp a1 a0.Page).Rights) 0<;>rfl
theorem ztl:uV 370 zmY:=kF2 zkP zV zl zn (zo []) zwG
def zc6 (_:Slot)(_:List Slot):Bool:=true
def zcW (s:Slot)(outer:List Slot):Slot:=zcV s outer
def zmV:Run:=rF2 (dT .slot) (dS .slot) fun b c=>(zc6 b c,[aT .slot (zcW b c)])
def zoR (N:Nat)(a0:Slot)(a1:lS):OA:=
 let y0:=(zdR a1 a0.Page); (oN (zez a1 a0.Page) (oN (zkS a0.Rights y0.Rights) (cond (ieq a0.Page (-1)) (oN zbQ (some [(.agg [(.i .i64 zbx.Page),(.i .i64 zbx.Rights)])])) (cond (ieq y0.Page (-1)) (oN zbQ (some [(.agg [(.i .i64 zbx.Page),(.i .i64 zbx.Rights)])])) (cond (ieq (zeS a0.Rights y0.Rights) 0) (oN zbQ (some [(.agg [(.i .i64 zbx.Page),(.i .i64 zbx.Rights)])])) (some [(.agg [(.i .i64 y0.Page),(.i .i64 (zeS a0.Rights y0.Rights))])]))))))
theorem zwC (a0:Slot)(a1:List Slot)(hc:zc6 a0 a1=true):∃N,zoR N a0 a1=some [aT .slot (zcW a0 a1)]:=by
 refine ⟨0,?_⟩;unfold zoR zcW zcV zdR zeS oN
 conv=>zeta
 cases ieq a0.Page (-1)<;>cases ieq (zcp a1 a0.Page).Page (-1)<;>cases ieq (zfn a0.Rights (zcp a1 a0.Page).Rights) 0<;>rfl
theorem zti:uV 186 zmV:=kF2 zkP zV zl zn (zo []) zwC
def ziX (x:Int):Int:=bif (ige x 1&&ile x 6) then zEC .i64 (wsub .i64 x 1) 2 else -1
def zlh (x:Int):Int:=bif (ige x 1&&ile x 6) then zjx (wsub .i64 x 1) 2 else -1
def znd (_:Int):Bool:=true
def zoj (x:Int):Int:=ziX x
def zu6:Run:=rF1 dI fun b=>(znd b,[aI (zoj b)])
def zzT (N:Nat)(a0:Int):OA:=
 (oN (zbg a0 1 6) (cond (nB (zbn a0 1 6)) (some [(aI (-1))]) (oN (ine 2 0) (some [(aI (zEC .i64 (wsub .i64 a0 1) 2))]))))
theorem zIm (a0:Int)(hc:znd a0=true):∃N,zzT N a0=some [aI (zoj a0)]:=by
 refine ⟨0,?_⟩;unfold zzT zoj ziX zbn oN nB;cases ige a0 1&&ile a0 6<;>rfl
theorem zC3:uV 184 zu6:=kF1 zkP zV zl zn (zo []) zIm
def zka (_:Int):Bool:=true
def zj9 (x:Int):Int:=zlh x
def zqT:Run:=rF1 dI fun b=>(zka b,[aI (zj9 b)])
def ztx (N:Nat)(a0:Int):OA:=
 (oN (zbg a0 1 6) (cond (nB (zbn a0 1 6)) (some [(aI (-1))]) (oN (ine 2 0) (some [(aI (zjx (wsub .i64 a0 1) 2))]))))
theorem zDO (a0:Int)(hc:zka a0=true):∃N,ztx N a0=some [aI (zj9 a0)]:=by
 refine ⟨0,?_⟩;unfold ztx zj9 zlh zbn oN nB;cases ige a0 1&&ile a0 6<;>rfl
theorem zyx:uV 185 zqT:=kF1 zkP zV zl zn (zo []) zDO
def zRe:zK:=[(187,zxv),(370,zmY),(186,zmV),(184,zu6),(185,zqT)]++zRd
theorem zHm:zy zRe:=zf zFC (zf ztl (zf zti (zf zC3 (zf zyx zkP))))
def zon (k:Kept)(inner outer:List Slot)(i:Nat):Bool :=
 zcq (ix k.Slots i zL) (cond (ix k.Known i false) (zcV (ix inner i zL) outer) noSlot)
def zoo (k:Kept)(inner outer:List Slot):Bool :=
 bif ine (ln k.Known) (ln inner) then false else (cond (ine (ln k.Slots) (ln inner)) false (zkN (zon k inner outer) inner.length 0))
theorem zLE {α β:Type}{l:List α}{m:List β}(h:ine (ln l) (ln m)=false):l.length=m.length:=by
 have:(ln l==ln m)=true:=by simpa [ine,bne] using h
 have:=eq_of_beq this;simp only[ln] at this;omega
def zm8 (_:Kept)(_ _:List Slot):Bool:=true
def zoh (k:Kept)(inner outer:List Slot):Bool:=zoo k inner outer
def zuQ:Run:=rF3 (dT .kept) (dS .slot) (dS .slot) fun b c d=>(zm8 b c d,[aB (zoh b c d)])
def zzF (N:Nat)(a0:Kept)(a1 a2:lS):OA:=
 (cond (ine (ln a0.Known) (ln a1)) oF (cond (ine (ln a0.Slots) (ln a1)) oF (iter (σ:=(Int×(Int×(lS×(lS×(lS×(lB×Unit))))))) N (fun r4 s5=>let y3:=s5.2.1;let y2:=(ix s5.2.2.1 y3 zL);let y1:=(r4 (s5.1,((zG .i64 y3 1),(s5.2.2.1,(s5.2.2.2.1,(s5.2.2.2.2.1,(s5.2.2.2.2.2.1,())))))));let y0:=(ix s5.2.2.2.2.1 y3 zL); (cond (ilt y3 s5.1) (oN (inb y3 (ln s5.2.2.2.2.1)) (oN zbQ (oN (inb y3 (ln s5.2.2.2.2.2.1)) (cond (ix s5.2.2.2.2.2.1 y3 false) (oN (inb y3 (ln s5.2.2.1)) (oN (zc6 y2 s5.2.2.2.1) (cond (nB (cond (ieq y0.Page (zcW y2 s5.2.2.2.1).Page) (ieq y0.Rights (zcW y2 s5.2.2.2.1).Rights) false)) oF y1))) (cond (nB (cond (ieq y0.Page zbx.Page) (ieq y0.Rights zbx.Rights) false)) oF y1))))) oT)) ((ln a0.Slots),(0,(a1,(a2,(a0.Slots,(a0.Known,())))))))))
def zJQ:FuncId->Nat->Option Tmpl:=zo [(183,0,{ n:=48,tm:=[(1,.sl 0 []),(2,.sl 1 []),(3,.lp 0 0),(25,.sl 2 []),(26,ti),(27,ti)],lo:=[(0,[.sl 3 [],.sl 2 []])],ro:=[(0,.slot,false),(1,.slot,false),(2,.slot,false),(3,.bool,false)] })]
theorem zH7 (a0:Kept)(a1 a2:List Slot)(hb:zbq big [aT .kept a0,aS .slot a1,aS .slot a2])(hc:zm8 a0 a1 a2=true):∃N,zzF N a0 a1 a2=some [aB (zoh a0 a1 a2)]:=by
 have hl:=((zbN (zbN hb).2).1 _ (qE.2 rfl)).len;refine zbK fun N hNN=>?_;unfold zzF zoh zoo oN nB
 conv=>zeta
 cases h1:ine (ln a0.Known) (ln a1)
 .cases h2:ine (ln a0.Slots) (ln a1)
  .have e1:=zLE h1;have e2:=zLE h2;have hl2:a0.Slots.length<=big:=e2 ▸ hl;simp only[cF];refine (zQ a0.Slots (fun i (t:Unit)=>((ln a0.Slots),(i:Int),a1,a2,a0.Slots,a0.Known,())) _ (fun i _ (_:Unit) κ=>bif zon a0 a1 a2 i then κ () else oF) (fun (t:Unit)=>(some [(.one (.b true))])) (fun i hi t rec=>?_) (fun t rec=>?_) _ () (hNN hl2)).trans ?_
   .simp only [zbl hi,zU hi,zZ hi,zN hi hl2,cT];simp only[zU (l:=a0.Known) (i:=i) (e1.trans e2.symm ▸ hi),zU (l:=a1) (i:=i) (e2 ▸ hi),zbQ,zc6,cT,zon,zcq,zcW,zbx,zZ hi];cases ix a0.Known (↑i) false
    .simp only [cF];cases ieq a0.Slots[i].Page noSlot.Page<;>cases ieq a0.Slots[i].Rights noSlot.Rights<;>rfl
    .simp only [cT];generalize zcV (ix a1 (↑i) zL) a2=z;cases ieq a0.Slots[i].Page z.Page<;>cases ieq a0.Slots[i].Rights z.Rights<;>rfl
   .simp only [zbe,cF]
   rw[znE (fun i t κ=>bif zon a0 a1 a2 i then κ () else oF),zqr,e2]
   cases zkN (zon a0 a1 a2) a1.length 0<;>rfl
  .rfl
 .rfl
theorem zCO:uV 183 zuQ:=hF3 zHm zV zl zn zJQ zH7
def zRf:zK:=[(183,zuQ)]++zRe
theorem zx9:zy zRf:=zf zCO zHm
def zsr (outer:List Slot)(ts:List Kept):List Guest->Nat->Bool
 | [],_=>true
 | g :: l,i=>bif ilt (i:Int) (ln ts) then (cond (zoo (ix ts (i:Int) zcr) g.Live outer) (zsr outer ts l (i+1)) false) else true
theorem zAJ {ρ:Type}(outer:List Slot)(ts:List Kept)(r r1:Option ρ):∀(l:List Guest) (i:Nat),
 goL (fun i g (_:Unit) κ=>bif ilt (i:Int) (ln ts) then (cond (zoo (ix ts (i:Int) zcr) g.Live outer) (κ ()) r) else r1) (fun _=>r1) l i ()=bif zsr outer ts l i then r1 else r
 | [],_=>rfl
 | g :: l,i=>by
  simp only[goL,zsr];cases ilt (i:Int) (ln ts)
  .rfl
  .cases zoo (ix ts (i:Int) zcr) g.Live outer
   .rfl
   .exact zAJ outer ts r r1 l (i+1)
theorem zSN {i:Nat}{α:Type}{l:List α}(h:ilt (i:Int) (ln l)=true):inb (i:Int) (ln l)=true:=by
 have:=qG h;exact qL ⟨by omega,this⟩
def tablesOf (m:Mon):Bool:=zsr m.Outer m.Tables m.Guests 0
def zqa (h:Host):Bool:=h.Mons.all tablesOf
def zj8 (_:Host):Bool:=true
def zff (h:Host):Bool:=zqa h
def ziu:Run:=rF1 dH fun b=>(zj8 b,[aB (zff b)])
def zoU (N:Nat)(a0:Host):OA:=
 (iter (σ:=(Int×(Int×(lN×Unit)))) N (fun r2 s3=>let y5:=s3.2.1;let y3:=(ix s3.2.2.1 y5 zi); (cond (ilt y5 s3.1) (oN (inb y5 (ln s3.2.2.1)) (iter (σ:=(Int×(Int×(Int×(Int×(Int×(Int×(Int×(Int×(Int×(Int×(Int×(Int×(lN×Unit)))))))))))))) N (fun r4 s5=>let y0:=s5.2.2.2.2.2.2.2.2.2.2.2.2.1;let y6:=(ix y0 s5.2.2.2.1 zi).Outer;let y4:=(r2 (s5.2.1,((zG .i64 s5.2.2.1 1),(y0,()))));let y2:=(ix y0 s5.2.2.2.2.2.2.1 zi).Guests;let y7:=(ix y2 s5.1 zC).Live;let y1:=(ix y0 s5.2.2.2.2.2.2.2.2.2.2.1 zi).Tables; (cond (ilt s5.1 (ln y2)) (cond (ilt s5.1 (ln y1)) (oN (inb s5.1 (ln y1)) (oN (inb s5.1 (ln y2)) (oN (zm8 (ix y1 s5.1 zcr) y7 y6) (cond (nB (zoh (ix y1 s5.1 zcr) y7 y6)) oF (r4 ((zG .i64 s5.1 1),(s5.2.1,(s5.2.2.1,(s5.2.2.2.1,(s5.2.2.2.2.1,(s5.2.2.2.2.2.1,(s5.2.2.2.2.2.2.1,(s5.2.2.2.2.2.2.2.1,(s5.2.2.2.2.2.2.2.2.1,(s5.2.2.2.2.2.2.2.2.2.1,(s5.2.2.2.2.2.2.2.2.2.2.1,(s5.2.2.2.2.2.2.2.2.2.2.2.1,(y0,())))))))))))))))))) y4) y4)) (0,(s3.1,(y5,(y5,(y5,(y5,(y5,(y5,(y3.Pending,(y3.Traps,(y5,(y3.Own,(s3.2.2.1,()))))))))))))))) oT)) ((ln a0.Mons),(0,(a0.Mons,()))))
def zwJ:FuncId->Nat->Option Tmpl:=zo [(76,0,{ n:=43,tm:=[(7,.sl 0 []),(8,ti),(9,ti)],lo:=[],ro:=[(0,.mon,false)] }),(76,2,{ n:=43,tm:=[(4,.lp 0 0),(5,ti),(7,.sl 0 []),(8,ti),(9,ti)],lo:=[(0,[.sl 0 [0],.sl 0 [1],.sl 0 [2],.sl 0 [3],.sl 0 [4],ti,ti,.sl 0 [7],ti])],ro:=[(0,.mon,false)] })]
theorem zwF (a0:Host)(hb:zbq big [aH a0])(hc:zj8 a0=true):∃N,zoU N a0=some [aB (zff a0)]:=by
 have hm:CVB big (.s .mon a0.Mons):=(zbN hb).1 _ (by simp[AV.cvs,zbh])
 have hl:=hm.len;refine zbK fun N hNN=>?_;unfold zoU oN nB
 conv=>zeta
 refine (zQ a0.Mons (fun i (t:Unit)=>((ln a0.Mons),(i:Int),a0.Mons,())) _ (fun _ (x:Mon) (_:Unit) κ=>bif tablesOf x then κ () else oF) (fun (t:Unit)=>(some [(.one (.b true))])) (fun i hi t rec=>?_) (fun t rec=>?_) _ () (hNN hl)).trans ?_
 .simp only [zbl hi,zU hi,zZ hi,zN hi hl,cT];have hgl:a0.Mons[i].Guests.length<=big:=(hm.inv.2 _ (jR hi) (.s .guest _) (by simp[Ty.cells])).len
  refine (zQ a0.Mons[i].Guests (fun j (u:Unit)=>((j:Int),(ln a0.Mons),(i:Int),(i:Int),(i:Int),(i:Int),(i:Int),(i:Int),a0.Mons[i].Pending,a0.Mons[i].Traps,(i:Int),a0.Mons[i].Own,a0.Mons,())) _ (fun j (g:Guest) (_:Unit) κ=>bif ilt (j:Int) (ln a0.Mons[i].Tables) then (cond (zoo (ix a0.Mons[i].Tables (j:Int) zcr) g.Live a0.Mons[i].Outer) (κ ()) (oF)) else rec (ln a0.Mons,(((i+1:Nat)):Int),a0.Mons,())) (fun (u:Unit)=>(rec ((ln a0.Mons),((((i+1:Nat)):Int),(a0.Mons,()))))) (fun j hj u rec1=>?_) (fun u rec1=>?_) _ () (hNN hgl)).trans ?_
  .simp only [zbl hj,zU hj,zZ hj,zN hj hgl,cT,zU hi,zZ hi,zN hi hl];cases hh:ilt (j:Int) (ln a0.Mons[i].Tables)
   .rfl
   .simp only [cT,zSN hh,zm8,zoh];cases zoo (ix a0.Mons[i].Tables (↑j) zcr) a0.Mons[i].Guests[j].Live a0.Mons[i].Outer<;>rfl
  .simp only [zbe,cF,zU hi,zZ hi,zN hi hl]
  exact zAJ _ _ _ _ _ _
 .simp only [zbe,cF]
 rw[zdO];unfold zff zqa;cases a0.Mons.all tablesOf<;>rfl
theorem zkH:uV 76 ziu:=hF1 zx9 zV zl zn zwJ zwF
def zhV (h:Host)(e:Entry):Bool :=
 bif hasB (ziX e.Tag) (ln h.Mons) then (bif hasB (zlh e.Tag) (ln (ix h.Mons (ziX e.Tag) zi).Guests) then
  below' ⟨e.Host,e.Rights⟩ (zcV (zcp (ix (ix h.Mons (ziX e.Tag) zi).Guests (zlh e.Tag) zC).Live e.Page) (ix h.Mons (ziX e.Tag) zi).Outer) else false) else false
def zjQ (h:Host)(b:List Entry):Bool:=b.all (zhV h)
def zgf (_:Host)(_:List Entry):Bool:=true
def zdP (h:Host)(b:List Entry):Bool:=zjQ h b
def zhx:Run:=rF2 dH (dS .entry) fun b c=>(zgf b c,[aB (zdP b c)])
def znU (N:Nat)(a0:Host)(a1:lE):OA:=
 (iter (σ:=(Int×(Int×(lE×(lM×(lN×(lE×(lE×Unit)))))))) N (fun r3 s4=>let y4:=s4.2.2.2.2.1;let y0:=(ix s4.2.2.1 s4.2.1 zdo);let y8:=(⟨y0.Host,y0.Rights⟩:Slot);let y6:=(zj9 y0.Tag);let y5:=(zoj y0.Tag);let y3:=(inb y5 (ln y4));let y1:=(ix y4 y5 zi);let y2:=(ix y1.Guests y6 zC).Live;let y7:=(zdR y2 y0.Page); (cond (ilt s4.2.1 s4.1) (oN (inb s4.2.1 (ln s4.2.2.1)) (oN (znd y0.Tag) (oN (zka y0.Tag) (oN (zbs y5 (ln y4)) (cond (nB (zbA y5 (ln y4))) oF (oN y3 (oN (zbs y6 (ln y1.Guests)) (cond (nB (zbA y6 (ln y1.Guests))) oF (oN y3 (oN (inb y6 (ln y1.Guests)) (oN (zez y2 y0.Page) (oN y3 (oN (zc6 y7 y1.Outer) (oN (zpd y8 (zcW y7 y1.Outer)) (cond (nB (zqy y8 (zcW y7 y1.Outer))) oF (r3 (s4.1,((zG .i64 s4.2.1 1),(s4.2.2.1,(s4.2.2.2.1,(y4,(s4.2.2.2.2.2.1,(s4.2.2.2.2.2.2.1,()))))))))))))))))))))))) oT)) ((ln a1),(0,(a1,(a0.Memory,(a0.Mons,(a0.Buffer,(a0.IoBuffer,()))))))))
def zvK:FuncId->Nat->Option Tmpl:=zo [(77,0,{ n:=69,tm:=[(2,.lp 0 0),(10,.sl 0 []),(11,ti),(12,ti)],lo:=[(0,[.sl 1 [],.sl 2 [],.sl 3 [],.sl 4 []])],ro:=[(0,.entry,false),(1,(.sl .int),false),(2,.mon,false),(3,.entry,false),(4,.entry,false)] })]
theorem zuy (a0:Host)(a1:List Entry)(hb:zbq big [aH a0,aS .entry a1])(hc:zgf a0 a1=true):∃N,znU N a0 a1=some [aB (zdP a0 a1)]:=by
 have hl:=((zbN (zbN hb).2).1 _ (qE.2 rfl)).len;refine ⟨NN,?_⟩;unfold znU oN nB
 conv=>zeta
 refine (zQ a1 (fun i (_:Unit)=>(ln a1,((i:Int),(a1,(a0.Memory,(a0.Mons,(a0.Buffer,(a0.IoBuffer,())))))))) _ (fun _ (x:Entry) (_:Unit) k=>bif zhV a0 x then k () else oF) (fun _=>oT)
  (fun i hi t rec=>?_) (fun t rec=>?_) _ () (zUa hl)).trans ?_
 .simp only [zbl hi,zU hi,zZ hi,cT,znd,zoj,zka,zj9,zbs,zbA,zez,zdR,zc6,zcW,zpd,zqy,zN hi hl];unfold zhV;generalize a1[i]=e;cases hh:hasB (ziX e.Tag) (ln a0.Mons)
  .rfl
  .rw [zx hh];cases hh2:hasB (zlh e.Tag) (ln (ix a0.Mons (ziX e.Tag) zi).Guests)
   .rfl
   .rw [zx hh2];simp only[cT,uC,cF];cases below' ⟨e.Host,e.Rights⟩ (zcV (zcp (ix (ix a0.Mons (ziX e.Tag) zi).Guests (zlh e.Tag) zC).Live e.Page) (ix a0.Mons (ziX e.Tag) zi).Outer)<;>rfl
 .simp only [zbe,cF]
 .rw [zdO];unfold zdP zjQ;cases a1.all (zhV a0)<;>rfl
theorem zjT:uV 77 zhx:=hF2 zx9 zV zl zn zvK zuy
def zRg:zK:=[(76,ziu),(77,zhx)]++zRf
theorem zPN:zy zRg:=zf zkH (zf zjT zx9)
def zTz:zK:=zRg
theorem zCv:∀f run,zh zTz f=some run->Holds Tryz.prog f run:=zPN
theorem hE (h:Host):(⟨h.Memory,h.Mons,h.Buffer,h.IoBuffer⟩:Host)=h:=rfl
def idxs {α:Type}(p:α->Bool):List α->Nat->List Int
 | [],_=>[]
 | x :: l,i=>bif p x then (i:Int) :: idxs p l (i+1) else idxs p l (i+1)
theorem zyV {α:Type}(p:α->Bool):∀(l:List α) (i:Nat),(idxs p l i).length<=l.length
 | [],_=>qV _
 | x :: l,i=>by
  have:=zyV p l (i+1);simp only[idxs];cases p x<;>simp<;>omega
theorem zrH {α ρ:Type}(p:α->Bool)(K:List Int->Option ρ):∀(l:List α) (i:Nat) (acc:List Int),acc.length+l.length<=2147483648 ->
 goL (fun i x acc k=>bif p x then (cond (few (ln (ap acc [(i:Int)]))) (k (ap acc [(i:Int)])) none) else k acc) K l i acc=K (acc++idxs p l i)
 | [],i,acc,_=>by simp[goL,idxs]
 | x :: l,i,acc,h=>by
  simp only[qW]at h;simp only[goL,idxs];cases p x
  .simp only [cF];exact zrH p K l (i+1) acc (by omega)
  .simp only [cT];rw[zd5 (by simp[ap];omega),cT,zrH p K l (i+1) _ (by simp[ap];omega)]
   simp[ap]
def zyT (p:Nat->Bool):Nat->Nat->List Int
 | 0,_=>[]
 | n+1,i=>bif p i then (i:Int) :: zyT p n (i+1) else zyT p n (i+1)
theorem zrJ {ρ:Type}(p:Nat->Bool)(K:List Int->Option ρ):∀(n i:Nat) (acc:List Int),acc.length+n<=2147483648 ->
 goN (fun i acc k=>bif p i then (cond (few (ln (ap acc [(i:Int)]))) (k (ap acc [(i:Int)])) none) else k acc) K n i acc=K (acc++zyT p n i)
 | 0,i,acc,_=>by simp[goN,zyT]
 | n+1,i,acc,h=>by
  simp only[goN,zyT];cases p i
  .simp only [cF];exact zrJ p K n (i+1) acc (by omega)
  .simp only [cT];rw[zd5 (by simp[ap];omega),cT,zrJ p K n (i+1) _ (by simp[ap];omega)]
   simp[ap]
abbrev zsl (l:List Slot)(_:Int):Bool:=pc (l.length<=2147483648)
abbrev zle (l:List Slot)(p:Int):List Int:=idxs (fun (s:Slot)=>ieq s.Page p) l 0
def zvt:Run:=rF2 (dS .slot) dI fun b c=>(zsl b c,[aS .int (zle b c)])
def zAh (N:Nat)(a0:lS)(a1:Int):OA:=
 (iter (σ:=(Int×(Int×(lS×((List Int)×Unit))))) N (fun r3 s4=>(cond (ilt s4.2.1 (ln s4.2.2.1)) (oN (inb s4.2.1 (ln s4.2.2.1)) (cond (ieq (ix s4.2.2.1 s4.2.1 zL).Page s4.1) (oN (few (ln (ap s4.2.2.2.1 [s4.2.1]))) (r3 (s4.1,((zG .i64 s4.2.1 1),(s4.2.2.1,((ap s4.2.2.2.1 [s4.2.1]),())))))) (r3 (s4.1,((zG .i64 s4.2.1 1),(s4.2.2.1,(s4.2.2.2.1,()))))))) (some [(aS .int s4.2.2.2.1)]))) (a1,(0,(a0,([],())))))
def zJ3:FuncId->Nat->Option Tmpl:=zo [(376,0,{ n:=26,tm:=[(0,.sl 0 []),(1,ti),(5,.sl 1 []),(6,ti)],lo:=[],ro:=[(0,.slot,false),(1,.int,true)] })]
theorem zIM (a0:List Slot)(a1:Int)(hb:zbq big [aS .slot a0,aI a1])(hc:zsl a0 a1=true):∃N,zAh N a0 a1=some [aS .int (zle a0 a1)]:=by
 have hl:=(len0 hb);have hs:=zB.1 hc;refine zbK fun N hNN=>?_;unfold zAh oN;refine (zQ a0 (fun i (t:(List Int))=>(a1,(i:Int),a0,t,())) _ (fun i (x:Slot) (t:List Int) κ=>bif ieq x.Page a1 then (cond (few (ln (ap t [(i:Int)]))) (κ (ap t [(i:Int)])) none) else κ t) (fun (t:(List Int))=>(some [(.one (.s .int t))])) (fun i hi t rec=>?_) (fun t rec=>?_) _ ([]) (hNN hl)).trans ?_
 .simp only [zbl hi,zU hi,zZ hi,zN hi hl,cT]
 .simp only [zbe,cF]
 exact zrH (fun (s:Slot)=>ieq s.Page a1) _ _ 0 [] (by simpa using hs)
theorem zDq:uV 376 zvt:=hF2 zCv zV zl zn zJ3 zIM
abbrev zrT (l:List Slot)(_:Int):Bool:=pc (l.length<=2147483648)
abbrev zhp (l:List Slot)(p:Int):List Int:=idxs (fun (s:Slot)=>ieq s.Page p) l 0
def zu8:Run:=rF2 (dS .slot) dI fun b c=>(zrT b c,[aS .int (zhp b c)])
def zzV (N:Nat)(a0:lS)(a1:Int):OA:=
 (iter (σ:=(Int×(Int×(Int×((List Int)×(lS×Unit)))))) N (fun r3 s4=>let y1:=s4.2.2.2.2.1;let y0:=s4.2.2.1; (cond (ilt y0 s4.2.1) (oN (inb y0 (ln y1)) (cond (ieq (ix y1 y0 zL).Page s4.1) (oN (few (ln (ap s4.2.2.2.1 [y0]))) (r3 (s4.1,(s4.2.1,((zG .i64 y0 1),((ap s4.2.2.2.1 [y0]),(y1,()))))))) (r3 (s4.1,(s4.2.1,((zG .i64 y0 1),(s4.2.2.2.1,(y1,())))))))) (some [(aS .int s4.2.2.2.1)]))) (a1,((ln a0),(0,([],(a0,()))))))
def zJU:FuncId->Nat->Option Tmpl:=zo [(361,0,{ n:=26,tm:=[(1,ti),(5,.sl 0 []),(9,.sl 1 []),(10,ti),(11,ti)],lo:=[],ro:=[(0,.int,true),(1,.slot,false)] })]
theorem zIo (a0:List Slot)(a1:Int)(hb:zbq big [aS .slot a0,aI a1])(hc:zrT a0 a1=true):∃N,zzV N a0 a1=some [aS .int (zhp a0 a1)]:=by
 have hl:=(len0 hb);have hs:=zB.1 hc;refine zbK fun N hNN=>?_;unfold zzV oN
 conv=>zeta
 refine (zQ a0 (fun i (t:(List Int))=>(a1,(ln a0),(i:Int),t,a0,())) _ (fun i (x:Slot) (t:List Int) κ=>bif ieq x.Page a1 then (cond (few (ln (ap t [(i:Int)]))) (κ (ap t [(i:Int)])) none) else κ t) (fun (t:(List Int))=>(some [(.one (.s .int t))])) (fun i hi t rec=>?_) (fun t rec=>?_) _ ([]) (hNN hl)).trans ?_
 .simp only [zbl hi,zU hi,zZ hi,zN hi hl,cT]
 .simp only [zbe,cF]
 exact zrH (fun (s:Slot)=>ieq s.Page a1) _ _ 0 [] (by simpa using hs)
theorem zC5:uV 361 zu8:=hF2 zCv zV zl zn zJU zIo
def zRh:zK:=[(376,zvt),(361,zu8)]++zTz
theorem zPO:zy zRh:=zf zDq (zf zC5 zCv)
def zRi:zK:=zRh
theorem zPP:zy zRi:=zPO
def zRj:zK:=zRi
theorem zHn:zy zRj:=zPP
theorem zh7 (x y:Int):ine x y = !ieq x y:=rfl
def zcw (l:List Int):Bool:=pc (l.length<=2147483648)
abbrev zct (l:List Int):List Int:=l
def zqZ:Run:=rF1 (dS .int) fun b=>(zcw b,[aS .int (zct b)])
def ztE (N:Nat)(a0:List Int):OA:=
 (oN (few (ln (ap [] a0))) (some [(aS .int (ap [] a0))]))
theorem zDV (a0:List Int)(hc:zcw a0=true):∃N,ztE N a0=some [aS .int (zct a0)]:=by
 refine ⟨0,?_⟩;unfold ztE oN;rw[ziy,zd5 (zB.1 hc),cT]
theorem zyD:uV 204 zqZ:=kF1 zHn zV zl zn (zo []) zDV
def zRk:zK:=[(204,zqZ)]++zRj
theorem zya:zy zRk:=zf zyD zHn
def zsv:List Int:=rp 4 0
def zfu (m:List (List Int))(p:Int):List Int:=bif hasB p (ln m) then ix m p [] else zsv
def zgq (m:List (List Int))(_:Int):Bool:=pc (CVB sm (.s (.sl .int) m))
def zjo (m:List (List Int))(p:Int):List Int:=zfu m p
theorem zO5 {m:List (List Int)}{p:Int}(hs:CVB sm (.s (.sl .int) m))(hh:hasB p (ln m)=true):(ix m p []).length<=2147483648 :=
 (zcA (hs.inv.2 _ (zbJ hh ([]:List Int)) (.s .int _) (qE.2 rfl)).len).2
def zvl:Run:=rF2 (dS (.sl .int)) dI fun b c=>(zgq b c,[aS .int (zjo b c)])
def zz8 (N:Nat)(a0:lM)(a1:Int):OA:=
 (oN (zT a1 0 (wsub .i64 (ln a0) 1)) (cond (nB (zba a1 0 (wsub .i64 (ln a0) 1))) (oN (cond (few 4) (ieq 4 4) false) (some [(aS .int (rp 4 0))])) (oN (inb a1 (ln a0)) (oN (few (ln (ap [] (ix a0 a1 [])))) (some [(aS .int (ap [] (ix a0 a1 [])))])))))
theorem zID (a0:List (List Int))(a1:Int)(hc:zgq a0 a1=true):∃N,zz8 N a0 a1=some [aS .int (zjo a0 a1)]:=by
 have hs:=zB.1 hc;refine ⟨0,?_⟩;unfold zz8 zjo zfu oN nB;have e:zba a1 0 (wsub .i64 (ln a0) 1)=hasB a1 (ln a0):=zr0 (zcA hs.len).1 a1;rw[e];cases hh:hasB a1 (ln a0)
 .rfl
 .simp only [zT,cT,cF,zx hh,ziy,zd5 (zO5 hs hh)]
theorem zDi:uV 178 zvl:=kF2 zya zV zl zn (zo []) zID
def zgg (m:List (List Int))(_:Int):Bool:=pc (CVB sm (.s (.sl .int) m))
def zjh (m:List (List Int))(p:Int):List Int:=zfu m p
def zuV:Run:=rF2 (dS (.sl .int)) dI fun b c=>(zgg b c,[aS .int (zjh b c)])
def zzJ (N:Nat)(a0:lM)(a1:Int):OA:=
 (oN (zbs a1 (ln a0)) (cond (nB (zbA a1 (ln a0))) (oN (cond (few 4) (ieq 4 4) false) (some [(aS .int (rp 4 0))])) (oN (inb a1 (ln a0)) (oN (zcw (ix a0 a1 [])) (some [(aS .int (zct (ix a0 a1 [])))])))))
theorem zIc (a0:List (List Int))(a1:Int)(hc:zgg a0 a1=true):∃N,zzJ N a0 a1=some [aS .int (zjh a0 a1)]:=by
 have hs:=zB.1 hc;refine ⟨0,?_⟩;unfold zzJ zjh zfu zbA oN nB;cases hh:hasB a1 (ln a0)
 .rfl
 .simp only [zbs,cT,cF,zx hh,show zcw (ix a0 a1 [])=true from zbk (zO5 hs hh),zct]
theorem zCT:uV 323 zuV:=kF2 zya zV zl zn (zo []) zIc
def zRl:zK:=[(178,zvl),(323,zuV)]++zRk
theorem zyb:zy zRl:=zf zDi (zf zCT zya)
def zdd (h:Host)(m p:Int):List Int :=
 bif hasB m (ln h.Mons) then (cond (hasB p 8) (cond (ine (zcp (ix h.Mons m zi).Outer p).Page (-1)) (zfu h.Memory (zcp (ix h.Mons m zi).Outer p).Page) (zfu (ix h.Mons m zi).Out p)) zsv) else zsv
theorem zUD (p:Int):zba p 0 7=hasB p 8:=by
 unfold zba ige ile hasB
 by_cases h1:0<=p<;>by_cases h2:p<8
 .rw [qL (p:=p≥0) (by omega),qL (p:=p<=7) (by omega),qL (p:=0<=p/\p<8) ⟨h1,h2⟩];rfl
 .rw [qK (p:=p<=7) (by omega),qK (p:=0<=p/\p<8) (by omega)];simp
 .rw [qK (p:=p≥0) (by omega),qK (p:=0<=p/\p<8) (by omega)];simp
 .rw [qK (p:=p≥0) (by omega),qK (p:=0<=p/\p<8) (by omega)];simp
def znn (h:Host)(_ _:Int):Bool:=pc (zcn h)
def zlc (h:Host)(m p:Int):List Int:=zdd h m p
def zkp:Run:=rF3 dH dI dI fun b c d=>(znn b c d,[aS .int (zlc b c d)])
def zz9 (N:Nat)(a0:Host)(a1 a2:Int):OA:=
 let y0:=(ix a0.Mons a1 zi);let y1:=(zgt y0.Outer a2).Page; (oN (zT a1 0 (wsub .i64 (ln a0.Mons) 1)) (cond (nB (zba a1 0 (wsub .i64 (ln a0.Mons) 1))) (oN (cond (few 4) (ieq 4 4) false) (some [(aS .int (rp 4 0))])) (oN (zT a2 0 7) (cond (nB (zba a2 0 7)) (oN (cond (few 4) (ieq 4 4) false) (some [(aS .int (rp 4 0))])) (oN (inb a1 (ln a0.Mons)) (oN (zif y0.Outer a2) (cond (ine y1 (-1)) (oN (zgq a0.Memory y1) (some [(aS .int (zjo a0.Memory y1))])) (oN (zgq y0.Out a2) (some [(aS .int (zjo y0.Out a2))])))))))))
theorem zIE (a0:Host)(a1 a2:Int)(hc:znn a0 a1 a2=true):∃N,zz9 N a0 a1 a2=some [aS .int (zlc a0 a1 a2)]:=by
 have hs:=zB.1 hc;refine ⟨0,?_⟩;unfold zz9 zlc zdd oN nB
 conv=>zeta
 have e:zba a1 0 (wsub .i64 (ln a0.Mons) 1)=hasB a1 (ln a0.Mons):=zr0 (zcA hs.mons.len).1 a1;rw[e,zUD];cases hh:hasB a1 (ln a0.Mons)
 .rfl
 .cases h8:hasB a2 8
  .rfl
  .have ho:CVB sm (.s (.sl .int) (ix a0.Mons a1 zi).Out):=hs.mons.inv.2 _ (zbJ hh zi) (.s (.sl .int) _) (by simp[Ty.cells])
   simp only[zT,cT,cF,zx hh,zif,zgt,show ∀p,zgq a0.Memory p=true from fun p=>zbk hs.mem,show ∀p,zgq (ix a0.Mons a1 zi).Out p=true from fun p=>zbk ho,zjo]
   cases ine (zcp (ix a0.Mons a1 zi).Outer a2).Page (-1)<;>rfl
theorem zkR:uV 72 zkp:=kF3 zyb zV zl zn (zo []) zIE
def zrQ (h:Host)(_ _:Int):Bool:=pc (zcn h)
def zrP (h:Host)(m p:Int):List Int:=zdd h m p
def zuW:Run:=rF3 dH dI dI fun b c d=>(zrQ b c d,[aS .int (zrP b c d)])
def zzK (N:Nat)(a0:Host)(a1 a2:Int):OA:=
 let y0:=(ix a0.Mons a1 zi);let y1:=(zdR y0.Outer a2).Page; (oN (zbs a1 (ln a0.Mons)) (cond (nB (zbA a1 (ln a0.Mons))) (oN (cond (few 4) (ieq 4 4) false) (some [(aS .int (rp 4 0))])) (oN (zbs a2 8) (cond (nB (zbA a2 8)) (oN (cond (few 4) (ieq 4 4) false) (some [(aS .int (rp 4 0))])) (oN (inb a1 (ln a0.Mons)) (oN (zez y0.Outer a2) (cond (ine y1 (-1)) (oN (zgg a0.Memory y1) (some [(aS .int (zjh a0.Memory y1))])) (oN (zgg y0.Out a2) (some [(aS .int (zjh y0.Out a2))])))))))))
theorem zId (a0:Host)(a1 a2:Int)(hc:zrQ a0 a1 a2=true):∃N,zzK N a0 a1 a2=some [aS .int (zrP a0 a1 a2)]:=by
 have hs:=zB.1 hc;refine ⟨0,?_⟩;unfold zzK zrP zdd zbA oN nB
 conv=>zeta
 cases hh:hasB a1 (ln a0.Mons)
 .rfl
 .cases h8:hasB a2 8
  .rfl
  .have ho:CVB sm (.s (.sl .int) (ix a0.Mons a1 zi).Out):=hs.mons.inv.2 _ (zbJ hh zi) (.s (.sl .int) _) (by simp[Ty.cells])
   simp only[zbs,cT,cF,zx hh,zez,zdR,show ∀p,zgg a0.Memory p=true from fun p=>zbk hs.mem,show ∀p,zgg (ix a0.Mons a1 zi).Out p=true from fun p=>zbk ho,zjh]
   cases ine (zcp (ix a0.Mons a1 zi).Outer a2).Page (-1)<;>rfl
theorem zCU:uV 271 zuW:=kF3 zyb zV zl zn (zo []) zId
def zRm:zK:=[(72,zkp),(271,zuW)]++zRl
theorem zPQ:zy zRm:=zf zkR (zf zCU zyb)
def zRn:zK:=zRm
theorem zPR:zy zRn:=zPQ
def zTy:zK:=zRn
theorem zSw:∀f run,zh zTy f=some run->Holds Tryz.prog f run:=zPR
def zTx:zK:=zTy
theorem zdb:zy zTx:=zSw
def zkg:zeQ:=zir
theorem zq:zdH zkg:=zV
def canRun (g:Guest):Bool:=bif (ieq g.Exit.Kind 0&&(ieq g.Exit.Page 0&&(zml g.Exit.Write false&&ieq g.Exit.N 0))) then !g.Halted else false
def zm7 (_:Guest):Bool:=true
abbrev zkT (g:Guest):Bool:=canRun g
def zuJ:Run:=rF1 (dT .guest) fun b=>(zm7 b,[aB (zkT b)])
def zzx (N:Nat)(a0:Guest):OA:=
 (cond (cond (ieq a0.Exit.Kind 0) (cond (ieq a0.Exit.Page 0) (cond (zml a0.Exit.Write false) (ieq a0.Exit.N 0) false) false) false) (some [(aB (nB a0.Halted))]) oF)
theorem zH0 (a0:Guest)(hc:zm7 a0=true):∃N,zzx N a0=some [aB (zkT a0)]:=by
 refine ⟨0,?_⟩;unfold zzx zkT canRun nB;cases ieq a0.Exit.Kind 0<;>cases ieq a0.Exit.Page 0<;>cases zml a0.Exit.Write false<;>cases ieq a0.Exit.N 0<;>simp
theorem zCH:uV 277 zuJ:=kF1 zqm zV zl zn (zo []) zH0
end
end Go.Proofs.YtnnmbkjhakbicaaGreat.E
