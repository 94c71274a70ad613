/- What is proved here: a part of the proof that the statement of this claim holds (several texts of wip/, laid together). -/
import Derived.Test.YtdaahiceaagpdaaGreatW2
import Derived.HandedShaped
import Derived.ProofKit
import Derived.KernelRfl
namespace Go.Proofs.YtdaahiceaagpdaaGreat.E
open Go
set_option linter.unusedVariables false
set_option maxRecDepth 100000
set_option linter.unusedSimpArgs false
set_option linter.unusedSectionVars false
noncomputable section
section
variable {C:Cfg} {w0 w w1:World} {S0:zV} {U:Nat->Prop} {st st1 st':St} {E E1:Env} {ts:Array Value} {sv:List (Array Value)}
def Late (w0:World)(st:St)(E:Env)(x:App)(v:Value)(w:World):Prop :=
 ∃(n0 bv offv cap:Nat) (R:Root),w0.heap.size<=n0/\(∀q Q,st.root q=some Q->∀y,E.φ q y->y<n0)/\(∀l cs,zn st.lo l=some cs->E.β l<n0) /\
  v = .slice (some ⟨bv,offv,none⟩) x.l.length cap/\Rep true w v (.s x.t x.l) (fun y=>y=bv)/\st.root x.r=some R /\
  (n0<=bv\/∃off1 len1 cap1,zQ w R.t (E.ρ x.r) x.p=some (.slice (some ⟨bv,off1,none⟩) len1 cap1))
theorem Late.states {x:App}{v:Value}(h:Late w0 st E x v w)(hr:∀n,st'.root n=st.root n)(hl:∀n,zn st'.lo n=zn st.lo n):Late w0 st' E x v w:=by
 obtain ⟨n0,bv,offv,cap,R,h1,h2,h3,h4,h5,h6,h7⟩:=h;exact ⟨n0,bv,offv,cap,R,h1,fun q Q hq=>h2 q Q (by rw[<- hr];exact hq),fun l cs hq=>h3 l cs (by rw[<- hl];exact hq),h4,h5,by rw[hr];exact h6,h7⟩
theorem zG4 {r:Nat}(a:At):zcE r [] a=a:=by
 cases a<;>simp [zcE,coarse]
theorem zG5 {r:Nat}(m:MV):zfK r [] m=m:=by
 have h:zcE r []=id:=funext fun a=>zG4 a;have hT:∀x,zlT r [] x=x:=fun x=>by cases x<;>simp [zlT,h]
 have hT':zlT r []=id:=funext hT;cases m<;>simp [zfK,hT,hT']
theorem z2r (h:Dead st){n:Nat}{R:Root}(hR:st.root n=some R):R.ep=none:=by
 obtain ⟨h1,h2⟩:=zbr hR;rcases h2 with h2|h2
 .exact h2
 .have:=h n R _ h1 h2;omega
theorem z2T {v:Value}{t:Ty}{l:List t.den}{S:zV}{b off n cap:Nat}(h:Rep true w v (.s t l) S)(hv:v = .slice (some ⟨b,off,none⟩) n cap):b<w.heap.size/\S b:=by
 cases h with
 | nil=>cases hv
 | void _ _ _ ho=>cases ho
 | sl _ _ b4 _ _ _ _ _ _ _ _ hb4 _ _ _ _ hS4 =>
  cases hv;exact ⟨(qS.1 hb4).1,hS4⟩
theorem z4K (hC:CfgOk C)(hS:Sim w0 S0 U st E ts sv w)(hd:Dead st){o:Oper}{x:App}(h:zqg C st o=some (true,x)) :
 o.guard=none/\o.dst=some x.dst/\∃(v:Value) (w':World),(execOp ({ tmps:=ts,defers:=[] }:Act).eval o).run C.P w = .ok (.value v) w' /\
  Sim w0 S0 U (st.put o.dst (.v (.at .bad))) E (({ tmps:=ts,defers:=[] }:Act).put o.dst v).tmps sv w'/\Late w0 st E x v w':=by
 unfold zqg at h;split at h
 .rename_i c d ho hdst hgu;split at h
  .rename_i hcb;split at h
   .rename_i a0 y0 T T2 hca hct;split at h
    .rename_i hTT;subst hTT;split at h
     .rename_i t r a p r2 p2 hT h1 h2;split at h
      .rename_i R cv1 cv2 hR hn1 hn2;split at h
       .rename_i hcond;simp only[qD,jA,beq_eq_false_iff_ne]at hcond;obtain ⟨⟨hown,hfl⟩,hne⟩:=hcond;split at h
        .rename_i m t2 y2 l2' hm;simp only[qC,jR]at h;obtain ⟨hfew,rfl⟩:=h;refine ⟨hgu,hdst,?_⟩;obtain ⟨l1,l2,e1,e2,rfl⟩:=zz3 hm;subst e1;have hl2:l2≠[]:=by
          intro e;subst e;cases e2
         rw[e2]at hn2
         clear e2
         generalize hp0:a :: p=pp at h1 hn1;have hM:=hS.mem;obtain ⟨hx,_⟩:=zbz hS h1;obtain ⟨hy,_⟩:=zbz hS h2;have hh:=hx.2 R hR;have hrepR:=hM.rep r R hR;rw[hown]at hrepR;obtain ⟨t',l0,S1,f1,f2,f3,f4,f5⟩:=Rep.focus pp hrepR hh;have hg1:zhq R.t R.l pp=some (.s t l1):=by
          obtain ⟨R',hR',hg'⟩:=zgI hn1;rw[hR]at hR';cases hR';exact hg'
         rw[hg1] at f1;cases f1;obtain ⟨R2,S2,hR2,g1,g2,g3,g4⟩:=zuA hS hy hn2;obtain ⟨v,w',bv,offv,cap,hrun,hv,hrep,hos,htp,hout,hcase⟩:=z8J hC hT hfl f3 g3.ro hl2 hfew o.type;have hca':c.args = #[a0,y0]:=by rw[<- hca]
         have hct':c.argTypes = #[T2,T2]:=by rw[<- hct]
         have hexec:(execOp ({ tmps:=ts,defers:=[] }:Act).eval o).run C.P w = .ok (.value v) w':=by
          simp[execOp,ho,resolve,hcb,invoke,builtin,hca',hct',hrun]
         have hβ:∀l cs,zn st.lo l=some cs->E.β l<w.heap.size:=by
          intro l cs h;obtain ⟨_,vals,e,h2,_⟩:=hM.loc l cs h;exact (qS.1 h2).1
         rcases hcase with ⟨hbv,hsz,hsame⟩|⟨off1,cap1,hv1,hS1b,hsz,hoth,hrep1⟩
         .obtain ⟨hM',hT'⟩:=hM.addRoots hS.ids.mem (dro:=[]) (w1:=w') (E1:=E) hos htp hout (by omega) hsame (fun q Q hq=>by cases hq) (fun q Q _ _ hq=>by cases hq) (fun _ _=>⟨rfl,rfl,rfl⟩)
          refine ⟨v,w',hexec,Sim.next hS (st1:=st) hM' hT' rfl rfl (fun _ h=>h) hS.ids.ro hS.ids.lo trivial (fun n hn=>by simp[MV.ids,zby,zM,At.ids,zbj,zbl]at hn),?_⟩
          exact ⟨w.heap.size,bv,offv,cap,R,hM.size,fun q Q hq y hy=>hM.rlt q Q hq y hy,hβ,hv,hrep,hR,.inl (by omega)⟩
         .obtain ⟨m,hm1,hrm,hh1,hh2⟩:=f5 w' l1 S1 (fun z _ hnz=>hoth z (fun e=>hnz (e ▸ hS1b))) (fun _ h _=>h) hrep1;have hmR:=zQN pp hg1 m hm1;subst hmR;obtain ⟨_,_,_,_,fwp⟩:=f5 w l1 S1 (fun _ _ _=>rfl) (fun _ h _=>h) f3;have hhdr:∀q u,zQ w R.t (E.ρ r) q=some u->zQ w' R.t (E.ρ r) q=some u:=by
           intro q u hq;refine hh1 q u hq (fun q' he=>?_);subst he;rw[fwp]at hq;exact z4w hfl q' _ _ hq
          have hsim:=zGq (w1:=w') (m:=R.l) (js:=[]) (S3:=E.φ r) hS hR hown hos htp hout (by omega) (fun z hz hnz=>hoth z (fun e=>hnz (f4 z (e ▸ hS1b)))) (fun z hz=>⟨.inl hz,by have:=hM.rlt r R hR z hz;omega⟩) (hrm.weak fun z hz=>by
           rcases hz with ⟨h,_⟩|h
           .exact h
           .exact f4 z h) (fun q u hq _=>hhdr q u hq)
          have hE:({ E with φ:=fun n=>if n=r then E.φ r else E.φ n }:Env)=E:=by
           have:(fun n=>if n=r then E.φ r else E.φ n)=E.φ:=by
            funext n
            split
            .rename_i e;rw[e]
            .rfl
           rw[this]
          rw[hE]at hsim;have hS':Sim w0 S0 U st E ts sv w':=by
           refine hsim.fewer (fun t=>?_) (fun n=>?_) ?_ (fun n Q hQ=>?_) (fun n Q hQ=>?_) (fun n Q e hQ he=>hM.epo n Q e hQ he)
           .simp only [zh3,qN];cases st.tm[t]? <;> simp [zG5]
           .simp only [zh3];rw[zkf];have:zcE r []=id:=funext fun a=>zG4 a;cases zn st.lo n<;>simp [this]
           .simp only [zh3];have:zfK r []=id:=funext fun a=>zG5 a;simp[this]
           .have he:=z2r hd hQ;obtain ⟨q1,_⟩:=zbr hQ;refine ziz ?_ (.inl he);simp only[zh3,zn];split
            .rename_i hb;simp only[qK]at hb;subst hb;rw[hR]at hQ;cases hQ;rfl
            .exact q1
           .simp only [zh3,zn];split
            .exact ⟨_,rfl⟩
            .exact ⟨Q,hQ⟩
          refine ⟨v,w',hexec,hS'.putV trivial (fun n hn=>by simp[MV.ids,zby,zM,At.ids,zbj,zbl]at hn),?_⟩
          refine ⟨w.heap.size,bv,offv,cap,R,hM.size,fun q Q hq y hy=>hM.rlt q Q hq y hy,hβ,hv,hrep,hR,.inr ⟨off1,l1.length,cap1,?_⟩⟩;refine hhdr pp _ ?_;rw[hh,hv1]
        .cases h
       .cases h
      .cases h
     .cases h
    .cases h
   .cases h
  .cases h
 .cases h
theorem zZ2 (hC:CfgOk C)(hS:Sim w0 S0 U st E ts sv w){o:Oper}{id:Nat}{x:App}{v:Value}{st2:St}(hL:Late w0 st E x v w)(hv0:ts[x.dst]?=some v)(h:zCy C st o x=some (true,st2)) :
 o.guard=none/\Goes C w0 S0 U st ts sv w o id (fun _=>st2.put o.dst .und)/\st2.nid=st.nid:=by
 unfold zCy at h;split at h
 .rename_i T a d ho hgu;split at h
  .rename_i t1 r p i off hT ha;split at h
   .rename_i R t l c hRr hn hsp;split at h
    .rename_i hcond;simp only[qD,qU,Nat.beq_eq_true_eq]at hcond;obtain ⟨⟨⟨hown,hdd⟩,hrr⟩,hfit⟩:=hcond;have hdd:=jQ hdd;have hrr:=jQ hrr;subst hdd hrr;split at h
     .rename_i l' hset;split at h
      .rename_i m hput;simp only[qC,jR]at h;obtain ⟨rfl,rfl⟩:=h;refine ⟨hgu,?_,rfl⟩;have hpp:=zsg hsp;obtain ⟨n0,bv,offv,capv,R',hn0,hrn,hln,hve,hvrep,hR',hwhere⟩:=hL;rw[hRr]at hR';cases hR';obtain ⟨hav,hai⟩:=zbz hS ha;obtain ⟨b,o2,len,cap,t1',e1,e2,e3,e4,e5⟩:=hav.2 R hRr;have hM:=hS.mem;have hrep:=hM.rep _ R hRr;rw[hown]at hrep;obtain ⟨t',l0,S1,f1,f2,f3,f4,f5⟩:=Rep.focus p hrep e1;have hg1:zhq R.t R.l p=some (.s t l):=by
        obtain ⟨R',hR',hg'⟩:=zgI hn;rw[hRr]at hR';cases hR';exact hg'
       rw[hg1] at f1;cases f1;rw[e2] at f2;cases f2;obtain ⟨_,_,_,_,fwp⟩:=f5 w l S1 (fun _ _ _=>rfl) (fun _ h _=>h) f3;cases f3 with
       | void _ _ _ ho=>cases ho
       | sl _ _ _ _ _ arr e' fz V K _ hb hfz hlen1 hcap hsz hS' hsub hdis hvv hcc =>
       have hfz':=hfz rfl;subst hfz';have hRows:Rows true w t l arr o2 b V K S1:=⟨hsub,hdis,hvv,hcc⟩;have hone:v.oneCell'=true:=by rw[hve];rfl
       have hcells:v.cells = #[v]:=cells_one hone;have hfit':off+[v].length<=t.width:=by simp;omega
       have hrow:(i.toNat+1)*t.width<=cap*t.width:=qR _ (by omega)
       rw[jJ]at hrow;have hrun:=zui (w:=w) (v:=v) (off:=o2+i.toNat*t.width+off) (hC.cty T false [.s t1] hT) hb (by rw[hcells];rfl) (by simp;omega) (by rw[hcells];intro u hu;simp at hu;rw[hu];exact hone)
       rw[hcells]at hrun;have hl1:(#[v]:Array Value).toList=[v]:=rfl;rw[hl1]at hrun;generalize hw1:w.setRow b (splice arr.toList (o2+i.toNat*t.width+off) [v]).toArray=w1 at hrun;have hb1:w1.heap[b]?=some (.cells (splice arr.toList (o2+i.toNat*t.width+off) [v]).toArray e' (0,0)):=by rw[<- hw1];exact setRow_heap w b _ _ e' _ hb
       have hoth:∀y,y≠b->w1.heap[y]?=w.heap[y]?:=fun y hy=>by rw[<- hw1];exact setRow_other w b y _ hy
       have hrb:E.φ x.r b:=f4 b hS';have hbn:b<n0:=hrn _ R hRr b hrb;have hold:∀i' j,i'<l.length->j<t.width->¬ Hit i.toNat off [v].length i' j->∀y,K i' j y->w1.heap[y]?=w.heap[y]?:=fun i' j hi' hj _ y hy=>hoth y ((hsub i' j y hi' hj hy).2 rfl)
       have hbv:n0<=bv\/K i.toNat off bv:=by
        rcases hwhere with h|⟨off1,len1,cap1,h⟩
        .exact .inl h
        .right
         rw[<- hpp,fwp]at h;simp only[zQ]at h;rw[if_pos ⟨e3,e4⟩]at h;split at h
         .rename_i t3 hsh;rw[cell_of_block hb,hvv i.toNat off e4 hfit]at h;simp only[qC]at h;obtain ⟨c,hc,hct⟩:=zzB (x:=ix l i t.dflt) hsh;obtain ⟨l3,rfl⟩:=zld hct;have hr3:=hcc i.toNat _ (zlq e4) off _ hc;rw[h]at hr3;cases hr3 with
          | void _ _ _ ho=>cases ho
          | sl _ _ _ _ _ _ _ _ _ _ _ _ _ _ _ _ hS3=>exact hS3
         .cases h
       have hbvb:bv≠b:=by
        rcases hbv with h|h
        .omega
        .exact (hsub _ _ bv e4 hfit h).2 rfl
       have hset1:=Rep.setCells (w:=w) (w1:=w1) (us:=[v]) (Kn:=fun _ y=>y=bv) hlen1 hcap hsz hRows e4 rfl hfit' hset hb1 (fun k c u hc hu=>by
        cases k with
        | zero =>
         simp only[qH,qC]at hc hu;subst hc hu;exact hvrep.frame (fun y hy=>hoth y (by rw[hy];exact hbvb))
        | succ k=>simp at hc)
        hold
        (fun k y _ hy=>by rw[hy];exact hbvb)
        (fun k k' y hk hk' _ _=>by simp at hk hk';omega)
        (fun k y i' j hk hy hi' hj hnh hy'=>by
         subst hy;rcases hbv with h|h
         .have:=hrn _ R hRr y (f4 y (hsub i' j y hi' hj hy').1);omega
         .have:=hdis rfl _ _ _ _ y e4 hfit hi' hj h hy';exact hnh ⟨this.1.symm,by omega,by simp;omega⟩)
       have hS2:∀y,(y=b\/(∃i' j,i'<l.length/\j<t.width/\¬ Hit i.toNat off [v].length i' j/\K i' j y)\/∃k,k<[v].length/\y=bv)->S1 y\/(n0<=y/\y=bv):=by
        intro y hy;rcases hy with rfl|⟨i',j,hi',hj,_,hk⟩|⟨k,hk,rfl⟩
        .exact .inl hS'
        .exact .inl (hsub i' j y hi' hj hk).1
        .rcases hbv with h|h
         .exact .inr ⟨h,rfl⟩
         .exact .inl (hsub _ _ _ e4 hfit h).1
       obtain ⟨m',hm',hrm,hh1,hh2⟩:=f5 w1 l' _ (fun y hy hny=>hoth y (fun e=>hny (e ▸ hS'))) (fun y hy hy'=>by
        rcases hS2 y hy with h|⟨h,_⟩
        .exact h
        .have:=hrn _ R hRr y hy';omega) hset1
       rw[hput]at hm';cases hm';have hsz1:w1.heap.size=w.heap.size:=by rw[<- hw1];simp
       have hbvlt:bv<w.heap.size:=(z2T hvrep hve).1;have hsim:=zCt (w1:=w1) (m:=m) (js:=[cols p++[off]]) hn0 hrn hln hS hRr hown (by rw[<- hw1];rfl) (by rw[<- hw1];rfl) (by rw[<- hw1];rfl) (by omega) (fun y _ hny=>hoth y (fun e=>hny (e ▸ hrb))) (fun y hy=>by
        rcases hy with ⟨hy,_⟩|hy
        .exact ⟨.inl hy,by have:=hM.rlt _ R hRr y hy;omega⟩
        .rcases hS2 y hy with h|⟨h,rfl⟩
         .exact ⟨.inl (f4 y h),by have:=hM.rlt _ R hRr y (f4 y h);omega⟩
         .exact ⟨.inr h,by omega⟩) hrm (fun q u hq hns=>by
        rcases zzg p q with ⟨q',rfl⟩|hnp
        .rw [hh2 q'];rw[fwp q']at hq;refine ztF (us:=[v]) hcap hsz hRows hb e4 rfl hfit' hset hb1 hold q' (fun i' j q'' he k c hj hck=>?_) hoth hq;subst he hj;cases k with
         | succ k=>simp at hck
         | zero =>
          exfalso;have h9:=kU.1 hns (cols p++[off]) (by simp)
          exact absurd (zwe p i' off q'') h9
        .exact hh1 q u hq (fun q' he=>absurd ⟨q',he⟩ hnp))
       have hput2:=hsim.putV (dst:=o.dst) (m:=.und) (v:=undef) rfl (fun n hn=>by simp[MV.ids,zby]at hn)
       refine zB9 (w':=w1) ?_ ⟨hput2.mem,⟨fun n R hn=>.inl (hput2.ids.ro n R hn),fun n cs hn=>⟨.inl (hput2.ids.lo n cs hn).1,fun a ha m hm=>.inl ((hput2.ids.lo n cs hn).2 a ha m hm)⟩,fun m hm n hn=>.inl (hput2.ids.tm m hm n hn),fun f hf m hm n hn=>.inl (hput2.ids.stk f hf m hm n hn)⟩,hput2.tm,hput2.stk⟩;have hev:({ tmps:=ts,defers:=[] }:Act).eval (.tmp x.dst)=v:=by simp[Act.eval,hv0]
       simp[execOp,ho,Instr.storeAt,e5,Instr.sureAddr,hev,hrun]
      .cases h
     .cases h
    .cases h
   .cases h
  .cases h
 .cases h
end
section
variable {C:Cfg} {w0 w w1:World} {S0:zV} {U:Nat->Prop} {st st1:St} {E E1:Env} {ts:Array Value} {sv:List (Array Value)}
variable {ops:Array Oper} {b:Bool} {base:Nat} {cl:List (List Nat)} {ss:List Step} {st0:St}
theorem zKB {w w':World}(h:w'.heap=w.heap):∀(p:List (Int×Nat)) (t:Ty) (v:Value),zQ w' t v p=zQ w t v p
 | [],t,v=>by simp only[zQ]
 | (i,j) :: p,t,v=>by
  have hc:∀a,w'.cell? a=w.cell? a:=fun a=>by simp only[World.cell?,h]
  have ih:=zKB h p;cases v with
  | slice a len cap=>cases a<;>simp only [zQ,hc,ih]
  | _=>simp only[zQ]
theorem Sim.heap (hS:Sim w0 S0 U st E ts sv w){w':World}(h1:w'.heap=w.heap)(h2:w'.os=w.os)(h3:w'.tape=w.tape)(h4:w'.output=w.output):Sim w0 S0 U st E ts sv w':=by
 have T:Trans st E w st E w' (fun _=>True):=⟨fun r _ R h=>⟨R,h,rfl,fun p u hu=>by rw[zKB h1];exact hu⟩,fun l _ cs h=>⟨⟨cs,h⟩,rfl⟩,rfl⟩
 have hM:=hS.mem;refine ⟨⟨by rw[h2];exact hM.os,by rw[h3];exact hM.tape,by rw[h4];exact hM.output,by rw[h1];exact hM.size,fun b hb hn=>by rw[h1];exact hM.keep b hb hn,
  fun r R h=>(hM.rep r R h).frame (fun x _=>by rw[h1]),fun r R h x hx=>by rw[h1];exact hM.rlt r R h x hx,hM.mine,hM.apart,fun l cs hl=>?_,hM.linj,hM.lro,hM.epo,hM.κ⟩,hS.ids,
  Slots.tr T (fun _ _ _ _=>trivial) hS.tm,Stack.tr T (fun _ _ _ _ _ _=>trivial) hS.stk⟩
 obtain ⟨g1,vals,e,g2,g3,g4⟩:=hM.loc l cs hl;exact ⟨g1,vals,e,by rw[h1];exact g2,g3,fun j c u hc hu=>⟨(g4 j c u hc hu).1,VA.tr T (fun _ _=>trivial) (g4 j c u hc hu).2⟩⟩
theorem Sim.blind (hS:Sim w0 S0 U st E ts sv w)(c:Bool)(n:Nat):Sim w0 S0 U { st with nid:=n,ep:=if c then st.ep+1 else st.ep } E ts sv w:=by
 have h:=hS.nid n;cases c with
 | false=>exact h
 | true =>
  refine h.fewer (fun _=>rfl) (fun _=>rfl) rfl (fun r R hR=>?_) (fun r R hR=>⟨R,hR⟩) (fun r R e hR he=>?_)
  .obtain ⟨g1,g2⟩:=zbr hR;have hn:R.ep=none:=by
    rcases g2 with g2|g2
    .exact g2
    .have:=hS.mem.epo r R _ g1 g2;simp only[if_true] at this;omega
   show St.root { st with nid:=n } r=some R
   unfold St.root;have g3:zn ({ st with nid:=n }:St).ro r=some R:=g1;rw[g3];simp only[hn]
  .have:=hS.mem.epo r R e hR he
   show e<=st.ep+1
   omega
theorem cnt_lt {p q:Nat->Bool}:∀(l:List Nat),(∀x∈l,q x=true->p x=true)->(∃x∈l,p x=true/\q x=false)->l.countP q<l.countP p
 | [],_,h=>by obtain ⟨x,hx,_⟩:=h;cases hx
 | a :: l,h1,h2=>by
  have hle:∀(m:List Nat),(∀x∈m,q x=true->p x=true)->m.countP q<=m.countP p:=fun m hm=>List.countP_mono_left hm;have hm:=hle l (fun x hx=>h1 x (by simp[hx]))
  simp only[vD];cases hq:q a with
  | true =>
   rw[h1 a (by simp) hq]
   have:l.countP q<l.countP p:=cnt_lt l (fun x hx=>h1 x (by simp[hx])) (by
    obtain ⟨x,hx,g1,g2⟩:=h2;rcases qI.1 hx with rfl|hx
    .rw [hq] at g2;cases g2
    .exact ⟨x,hx,g1,g2⟩)
   simp only[if_true];omega
  | false =>
   cases hp:p a with
   | true=>simp;omega
   | false =>
    have:l.countP q<l.countP p:=cnt_lt l (fun x hx=>h1 x (by simp[hx])) (by
     obtain ⟨x,hx,g1,g2⟩:=h2;rcases qI.1 hx with rfl|hx
     .rw [hp] at g1;cases g1
     .exact ⟨x,hx,g1,g2⟩)
    simp;omega
def left (n:Nat)(listed:Array Bool):Nat:=(List.range n).countP fun i=>!listed.getD i true
theorem zID {listed:Array Bool}{n i:Nat}(hi:i<n)(hl:listed.getD i true=false):left n (listed.setIfInBounds i true)<left n listed:=by
 unfold left;have hlt:i<listed.size:=by
  rcases u1 i listed.size with h|h
  .exact h
  .simp [uV h]at hl
 refine cnt_lt _ (fun x _ hx=>?_) ⟨i,kI.2 hi,by rw[hl];rfl,by simp[hlt]⟩
 by_cases hxi:i=x
 .subst hxi;simp[hlt]at hx
 .rwa [getD_set_ne true hxi]at hx
structure Waits (md:Region.Mode) (ops:Array Oper) (cl:List (List Nat)):Prop where
 at':∀i,i<ops.size->cl.getD i []=waits ops (cl.take i) i
 lt:∀i,i<ops.size->∀j∈cl.getD i [],j<i
 sub:∀e,Region.binds .any e=true->Region.binds md e=true
 rk:∃rk:Nat->Nat,∀(i:Nat) (o:Oper),ops[i]?=some o->∀e∈o.after,Region.binds md e=true->e.on<ops.size/\rk e.on<rk i
variable {md:Region.Mode}
theorem z8d (hat:∀i,i<ops.size->cl.getD i []=waits ops (cl.take i) i){i:Nat}{o:Oper}(ho:ops[i]?=some o){e:Edge}(he:e∈o.after)(hb:Region.binds .any e=true):e.on∈cl.getD i []:=by
 have hi:=(qS.1 ho).1;rw[hat i hi];simp only[waits,ho];exact zMV (by simpa using he) hb
theorem zSv {l:List (List Nat)}{i j k:Nat}(h:k∈(l.take i).getD j []):k∈l.getD j []:=by
 rw[j7,jI]at h;rw[j7];split at h
 .exact h
 .simp at h
theorem Waits.inv (W:Waits md ops cl){i j:Nat}{o:Oper}(ho:ops[i]?=some o)(hj:j∈cl.getD i []):∃e∈o.after,Region.binds .any e=true/\(j=e.on\/j∈cl.getD e.on []):=by
 have hi:=(qS.1 ho).1;rw[W.at' i hi]at hj;simp only[waits,ho]at hj;obtain ⟨e,he,hb,h⟩:=zMW hj;exact ⟨e,by simpa using he,hb,h.imp id zSv⟩
def XL (listed:Array Bool)(k:Nat):Bool:=listed.getD k false
theorem zGx (W:Waits md ops cl){listed:Array Bool}(hX:zhr cl (XL listed)){i:Nat}(hi:i∈Region.ready md ops listed):∀j∈cl.getD i [],XL listed j=true:=by
 obtain ⟨_,o,ho,hall⟩:=mem_ready.1 hi;intro j hj;obtain ⟨e,he,hb,h|h⟩:=W.inv ho hj
 .subst h;exact hall e he (W.sub e hb)
 .exact hX _ (hall e he (W.sub e hb)) j h
theorem least {p:Nat->Prop}:∀n,p n->∃m,m<=n/\p m/\∀j,j<m->¬ p j:=by
 intro n
 induction n using Nat.strongRecOn with
 | _ n ih =>
  intro hp
  by_cases h:∃j,j<n/\p j
  .obtain ⟨j,h1,h2⟩:=h;obtain ⟨m,g1,g2,g3⟩:=ih j h1 h2;exact ⟨m,by omega,g2,g3⟩
  .exact ⟨n,qV _,hp,fun j hj hpj=>h ⟨j,hj,hpj⟩⟩
theorem zMd (W:Waits md ops cl){listed:Array Bool}(hsz:listed.size=ops.size){i0:Nat}(hi0:i0<ops.size)(hl0:listed.getD i0 true=false):∃i,i∈Region.ready md ops listed:=by
 obtain ⟨rk,hrk⟩:=W.rk;obtain ⟨n,_,⟨i,hi,hl,hn⟩,hmin⟩:=least (p:=fun n=>∃i,i<ops.size/\listed.getD i true=false/\rk i=n) (rk i0) ⟨i0,hi0,hl0,rfl⟩;refine ⟨i,mem_ready.2 ⟨hl,ops[i],by simp[hi],fun e he hb=>?_⟩⟩
 obtain ⟨h1,h2⟩:=hrk i ops[i] (by simp[hi]) e he hb
 cases h:listed.getD e.on false with
 | true=>rfl
 | false =>
  exfalso;refine hmin (rk e.on) (by omega) ⟨e.on,h1,?_,rfl⟩
  have hlt:e.on<listed.size:=by omega
  simp only[Array.getD,hlt,dif_pos]at h ⊢;exact h
theorem zsu {listed:Array Bool}{i:Nat}(hi:i<listed.size):XL listed i=listed.getD i true:=by
 simp[XL,hi]
theorem zJ1 {listed:Array Bool}{i:Nat}(hi:i<listed.size)(k:Nat):XL (listed.setIfInBounds i true) k=(XL listed k||k==i):=by
 unfold XL
 by_cases h:i=k
 .subst h;simp[hi]
 .rw [getD_set_ne false h];have:(k==i)=false:=by simp;omega
  rw[this,uJ]
theorem z01 {P:Program}{Q Q':Exit->Act->World->Prop}(hQ:∀e,e≠.normal->∀a w,Q' e a w->Q e a w){i:Nat}{K:Act->World->Prop}{a:Act}{w:World}(h:wpOp P ops Q' i K a w):wpOp P ops Q i K a w:=by
 have hlo:LetsOut Q'->LetsOut Q:=by
  rintro ⟨a,w,h⟩
  exact ⟨a,w,hQ _ (by simp) a w h⟩
 unfold wpOp at h ⊢;split
 .rename_i hn;rw[hn]at h;exact h
 .rename_i o ho;simp only[ho]at h;split
  .rename_i hw;rw[if_pos hw]at h;rcases h with h|⟨h1,h2⟩
   .left
    unfold Oper.wp at *;generalize (execOp a.eval o).run P w=r at *;cases r with
    | ok n w' =>
     cases n<;>simp only [Oper.upon]at h ⊢ <;>
      first
       | exact h
       | exact h.mono (fun e w'' he=>by
        cases e with
        | returned v=>exact he
        | panicked c=>exact hQ _ (by simp) _ _ he
        | outgrown=>exact hlo he)
    | halt x w' =>
     cases x<;>simp only [Oper.upon]at h ⊢ <;> first|exact hQ _ (by simp) _ _ h|exact h
   .exact .inr ⟨h1,hlo h2⟩
  .rename_i hw;rw[if_neg hw]at h;exact h
theorem zmQ (W:Waits md ops cl){listed:Array Bool}{m:Nat}(hsz:listed.size=ops.size)(hl:∀i,i<ops.size->listed.getD i true=decide (i<m)):zhr cl (XL listed):=by
 intro k hk j hj;have hks:k<ops.size:=by
  rcases u1 k listed.size with h|h
  .omega
  .simp [XL,uV h]at hk
 rw[zsu (by omega),hl k hks]at hk
 simp at hk;have:=W.lt k hks j hj;rw[zsu (by omega),hl j (by omega)]
 simp;omega
theorem z4Q {P:Program}{Q:Exit->Act->World->Prop}{fuel:Nat}{listed:Array Bool}{a:Act}{w:World}(hl:∀i,i<ops.size->listed.getD i true=true)(h:Q .normal a w):wpAny P md ops Q fuel listed a w:=by
 have hr:Region.ready md ops listed=[]:=by
  refine List.eq_nil_iff_forall_not_mem.2 (fun i hi=>?_);obtain ⟨h0,o,ho,_⟩:=mem_ready.1 hi;have hi:=(qS.1 ho).1;rw[hl i hi]at h0;cases h0
 cases fuel with
 | zero=>exact ⟨hr,h⟩
 | succ fuel=>exact ⟨fun _=>h,fun i hi=>by rw[hr]at hi;cases hi⟩
theorem zYH (W:Waits md ops cl){P:Program}{Q:Exit->Act->World->Prop}{fuel m:Nat}{listed:Array Bool}{a:Act}{w:World}(hsz:listed.size=ops.size)(hm:m<ops.size)(hp:Pinned ops.size cl m)(hl:∀i,i<ops.size->listed.getD i true=decide (i<m))(hf:left ops.size listed<=fuel)(h:∀fl l',l'.size=ops.size->(∀i,i<ops.size->l'.getD i true=decide (i<m+1))->left ops.size l'<=fl->fuel=fl+1->l'=listed.setIfInBounds m true->wpOp P ops Q m (wpAny P md ops Q fl l') a w):wpAny P md ops Q fuel listed a w:=by
 have hu:listed.getD m true=false:=by rw[hl m hm];simp
 obtain ⟨i1,hmr⟩:=zMd W hsz hm hu;have hlt:=zID (listed:=listed) (n:=ops.size) (i:=m) hm hu;obtain ⟨fuel,rfl⟩:∃f,fuel=f+1:=⟨fuel-1,by omega⟩
 refine ⟨fun h=>(by rw[h]at hmr;cases hmr),fun i hi=>?_⟩
 obtain ⟨h0,o,ho,_⟩:=mem_ready.1 hi;have his:=(qS.1 ho).1;rw[hl i his]at h0;simp only[decide_eq_false_iff_not,Nat.not_lt]at h0;have hieq:i=m:=by
  by_cases hne:i=m
  .exact hne
  .exfalso;have:=zGx W (zmQ W hsz hl) hi m (hp.wait i (by omega) his)
   rw[zsu (by omega),hu] at this
   cases this
 subst hieq;refine h fuel _ (by simp[hsz]) (fun k hk=>?_) (by omega) rfl rfl
 by_cases hik:i=k
 .subst hik;simp[hsz,his]
 .rw [getD_set_ne true hik,hl k hk]
  congr 1
  simp only[eq_iff_iff];omega
theorem zJ2 {a T:Nat}(W:Waits md ops cl)(hTs:T<=ops.size)(hpin:T<ops.size->Pinned ops.size cl T){P:Program}{Q:Exit->Act->World->Prop}{J:(Nat->Bool)->Env->Array Value->World->Prop}(hcongr:∀X Y E ts w,(∀k,a<=k->k<T->X k=Y k)->J X E ts w->J Y E ts w)(hstep:∀X Y i,zhr cl X->a<=i->i<T->X i=false->(∀j∈cl.getD i [],X j=true)->(∀k,Y k=(X k||k==i))->∀E ts w,J X E ts w->∀K:Act->World->Prop,(∀E' ts' w',J Y E' ts' w'->K { tmps:=ts',defers:=[] } w')->wpOp P ops Q i K { tmps:=ts,defers:=[] } w)(htail:∀(fl:Nat) (l':Array Bool) (E':Env) (ts':Array Value) (w':World),l'.size=ops.size->(∀i,i<ops.size->l'.getD i true=decide (i<T))->left ops.size l'<=fl->J (fun _=>true) E' ts' w'->wpAny P md ops Q fl l' { tmps:=ts',defers:=[] } w') :
 ∀(fuel:Nat) (listed:Array Bool) (E:Env) (ts:Array Value) (w:World),listed.size=ops.size->zhr cl (XL listed)->(∀i,i<a->XL listed i=true)->(∀m,T<=m->m<ops.size->XL listed m=false)->left ops.size listed<=fuel ->
  J (XL listed) E ts w->wpAny P md ops Q fuel listed { tmps:=ts,defers:=[] } w
 | fuel,listed,E,ts,w,hsz,hX,hbel,hlow,hf,hS=>by
  by_cases hall:∀i,i<T->XL listed i=true
  .have hl:∀i,i<ops.size->listed.getD i true=decide (i<T):=by
    intro i hi;rw[<- zsu (by omega)]
    by_cases h:i<T
    .rw [hall i h];simp[h]
    .rw [hlow i (by omega) hi];simp[h]
   exact htail fuel listed E ts w hsz hl hf (hcongr _ _ E ts w (fun k _ hk=>hall k hk) hS)
  .have hex:∃i,i<T/\XL listed i=false:=by
    refine Classical.byContradiction (fun hn=>hall (fun i hi=>?_));cases h:XL listed i with
    | true=>rfl
    | false=>exact absurd ⟨i,hi,h⟩ hn
   obtain ⟨i0,hi0,hi0X⟩:=hex;have hu0:listed.getD i0 true=false:=by rw[<- zsu (by omega)];exact hi0X
   obtain ⟨i1,hmr⟩:=zMd W hsz (by omega) hu0
   have hpos:0<left ops.size listed:=by
    have:=zID (listed:=listed) (n:=ops.size) (i:=i0) (by omega) hu0
    omega
   obtain ⟨fuel,rfl⟩:∃f,fuel=f+1:=⟨fuel-1,by omega⟩
   refine ⟨fun h=>(by rw[h]at hmr;cases hmr),fun i hi=>?_⟩
   obtain ⟨h0,o,ho,_⟩:=mem_ready.1 hi;have his:=(qS.1 ho).1;have hiX:XL listed i=false:=by rw[zsu (by omega)];exact h0
   have hw:=zGx W hX hi;have hia:a<=i:=by
    refine Classical.byContradiction (fun hn=>?_);rw[hbel i (by omega)]at hiX
    cases hiX
   have hiT:i<T:=by
    refine Classical.byContradiction (fun hn=>?_);have hp:=hpin (by omega)
    by_cases hiT:i=T
    .subst hiT;have:=hw i0 (hp.full i0 hi0);rw[hi0X] at this;cases this
    .have:=hw T (hp.wait i (by omega) his)
     rw[hlow T (qV _) (by omega)] at this
     cases this
   refine hstep _ (XL (listed.setIfInBounds i true)) i hX hia hiT hiX hw (zJ1 (by omega)) E ts w hS _ (fun E' ts' w' hS'=>?_)
   refine zJ2 W hTs hpin hcongr hstep htail fuel (listed.setIfInBounds i true) E' ts' w' (by simp[hsz]) ?_ ?_ ?_ ?_ hS'
   .intro k hk j hj;rw[zJ1 (by omega)]at hk ⊢
    by_cases hki:k=i
    .subst hki;rw[hw j hj];rfl
    .have:(k==i)=false:=by simp[hki]
     rw[this,uJ]at hk;rw[hX k hk j hj];rfl
   .intro k hk;rw[zJ1 (by omega),hbel k hk];rfl
   .intro m hm hms;rw[zJ1 (by omega),hlow m hm hms]
    simp;omega
   .have:=zID (listed:=listed) (n:=ops.size) his h0;omega
theorem z4y (hC:CfgOk C)(hH:CtrOk C){a T:Nat}(W:Waits md ops cl)(hT:a+ss.length=T)(hTs:T<=ops.size)(hpin:T<ops.size->Pinned ops.size cl T)(F:Free C ops cl b base a ss st0)(hb:b=false->∀k,a<=k->k<T->zlu ops k=false)(hd:b=true->Dead st0/\0<st0.ep)(hM:∀k,a<=k->k<T->∀n,Mine (base+32*k) n->¬ U n){Q:Exit->Act->World->Prop}(htail:∀(fl:Nat) (l':Array Bool) (E':Env) (ts':Array Value) (w':World),l'.size=ops.size->(∀i,i<ops.size->l'.getD i true=decide (i<T))->left ops.size l'<=fl ->
 Sim w0 S0 (UX U base a T (fun _=>true)) (zbf ops b (fun _=>true) a ss st0) E' ts' sv w'->wpAny C.P md ops Q fl l' { tmps:=ts',defers:=[] } w') :
 ∀(fuel:Nat) (listed:Array Bool) (E:Env) (ts:Array Value) (w:World),listed.size=ops.size->zhr cl (XL listed)->(∀i,i<a->XL listed i=true)->(∀m,T<=m->m<ops.size->XL listed m=false)->left ops.size listed<=fuel ->
  Sim w0 S0 (UX U base a T (XL listed)) (zbf ops b (XL listed) a ss st0) E ts sv w->wpAny C.P md ops Q fuel listed { tmps:=ts,defers:=[] } w :=
 zJ2 (J:=fun X E ts w=>Sim w0 S0 (UX U base a T X) (zbf ops b X a ss st0) E ts sv w) W hTs hpin
  (fun X Y E ts w h hS=>by
   rw[zh0 ss a st0 (fun k h1 h2=>h k h1 (by omega))]at hS
   refine hS.uses ?_
   rintro n (h1|⟨k,h0,h1,h2,h3⟩)
   .exact .inl h1
   .exact .inr ⟨k,h0,h1,by rw[<- h k h0 h1];exact h2,h3⟩)
  (fun X Y i hX hia hi hXi hr hY E ts w hS K hK=>zB7 hC hH hT F hX hia hi hXi hr hb hd hM hY hS hK) htail
theorem get_put {st:St}{d:Nat}{m:MV}{κ:Key}(h:κ≠.tm d):(st.put (some d) m).get κ=st.get κ:=by
 cases κ with
 | tm t =>
  have:d≠t:=fun e=>h (by rw[e])
  simp[St.get,St.put,jE,this]
 | ro n=>rfl
 | lo n=>rfl
theorem z3y {st st':St}{o:Oper}(hep:st'.ep=st.ep)(htm:∀t∈zhg o,st'.get (.tm t)=st.get (.tm t))(hro:∀n∈(zvd st o).flatMap zbj,st'.get (.ro n)=st.get (.ro n))(hlo:∀n∈(zvd st o).flatMap zbl,st'.get (.lo n)=st.get (.lo n)):Agree st st' o.op.operands.toList:=by
 refine ⟨hep,fun x hx=>?_,fun x hx m hm a ha=>?_⟩
 .cases x with
  | tmp t =>
   have ht:t∈zhg o:=by
    unfold zhg;exact kX.2 ⟨_,hx,rfl⟩
   simp only[St.opnd,zKw (htm t ht)]
  | _=>rfl
 .have hA:a∈zvd st o:=by
   unfold zvd;exact qP.2 ⟨m,kX.2 ⟨x,hx,hm⟩,ha⟩
  exact ⟨fun n hn=>zKv (hro n (qP.2 ⟨a,hA,hn⟩)),fun n hn=>zKu (hlo n (qP.2 ⟨a,hA,hn⟩))⟩
theorem zWJ {st st':St}{o:Oper}(h:Agree st st' o.op.operands.toList):zqg C st' o=zqg C st o:=by
 cases hop:o.op with
 | call c =>
  rw[hop]at h;have hp:∀x∈c.args.toList,x∈(Op.call c).operands.toList:=fun x hx=>by simp only[Op.operands,Call.operands,Array.toList_append,jK];exact .inr hx
  simp only[zqg,hop];cases hd:o.dst with
  | none=>rfl
  | some d =>
   cases hg:o.guard with
   | some g=>rfl
   | none =>
    simp only;cases hcb:c.callee with
    | builtin b =>
     cases b with
     | append =>
      simp only;split
      .rename_i x y T T2 hca hct;have hx:=hp x (by rw[hca];simp)
       have hy:=hp y (by rw[hca];simp)
       rw[h.at hx,h.at hy];split
       .cases hT:C.sty T with
        | none=>rfl
        | some t =>
         cases e:st.at x with
         | none=>rfl
         | some a =>
          cases a with
          | sl r p =>
           cases p with
           | nil=>rfl
           | cons ij p =>
            cases e2:st.at y with
            | none=>rfl
            | some b =>
             cases b with
             | sl r2 p2=>simp only[h.root (zdV hx e),h.node (zdV hx e),h.node (zdV hy e2)]
             | _=>rfl
          | _=>rfl
       .rfl
      .rfl
     | _=>rfl
    | _=>rfl
 | _=>simp only[zqg,hop]
theorem zsK (hC:CfgOk C)(hS:Sim w0 S0 U st E ts sv w){o:Oper}{id:Nat}{d:Dl}(hp:zmw o=true)(h:delta C st o id=some d)(hc:d.c=true):o.guard=none/\zst C U st E ts w o d:=by
 unfold zmw at hp;simp only[qD,j9]at hp;obtain ⟨hg,hp⟩:=hp;refine ⟨hg,?_⟩;cases hop:o.op
 case move x =>
  rw[hop]at hp;cases x with
  | tmp t =>
   simp only[delta,hop]at h;split at h
   .rename_i v hv;cases h;exact z2K hS (.inl hop) hv
   .cases h
  | _=>simp at hp
 case load T x=>exact z2J hC hS hop h
 case fieldAddr T x f=>exact zGv hC hS hop h
 case indexAddr T x y=>exact zGw hC hS hop h hc
 case nilCheck x=>exact zL7 hS hop h
 all_goals (rw [hop]at hp;simp at hp)
theorem pure_run {o:Oper}{i:Nat}{d:Dl}{v:Value}{Q:Exit->Act->World->Prop}{K:Act->World->Prop}(ho:ops[i]?=some o)(hg:o.guard=none)(hr:(execOp ({ tmps:=ts,defers:=[] }:Act).eval o).run C.P w = .ok (.value v) w1)(h:K { tmps:=(({ tmps:=ts,defers:=[] }:Act).put o.dst v).tmps,defers:=[] } w1):wpOp C.P ops Q i K { tmps:=ts,defers:=[] } w:=by
 unfold wpOp;simp only[ho];rw[if_pos (by simp[Region.wanted,hg])]
 left
 unfold Oper.wp;rw[hr,Oper.upon_value,zhs];exact h
theorem zVH {d t:Nat}{v u:Value}(h:ts[t]?=some u)(hne:d≠t):(({ tmps:=ts,defers:=[] }:Act).put (some d) v).tmps[t]?=some u:=by
 simp[Act.put,uZ hne,h]
theorem z4H (hC:CfgOk C)(hH:CtrOk C){a A:Nat}(W:Waits md ops cl)(hA:a+ss.length=A)(hTs:A+1<=ops.size)(hpin:A+1<ops.size->Pinned ops.size cl (A+1))(F:Free C ops cl b base a ss st0)(hb:b=false->∀k,a<=k->k<A->zlu ops k=false)(hbt:b=true)(hd:b=true->Dead st0/\0<st0.ep)(hM:∀k,a<=k->k<A->∀n,Mine (base+32*k) n->¬ U n){oA:Oper}{x:App}(hoA:ops[A]?=some oA)(hap:zqg C (zbf ops b (fun _=>true) a ss st0) oA=some (true,x))(hlo:zxr ops cl a A=true)(hlen:x.dst<(zbf ops b (fun _=>true) a ss st0).tm.length)(hfoot:∀i s o f,ss[i]?=some s->ops[a+i]?=some o->At1 C ops base (a+i) o (zbf ops b (fun j=>decide (j<a+i)) a ss st0) f s->a+i∉cl.getD A []->f.apart (ze1 (zbf ops b (fun _=>true) a ss st0) ops oA zEa)=true){Q:Exit->Act->World->Prop}(htail:∀(fl:Nat) (l':Array Bool) (E':Env) (ts':Array Value) (w':World) (v:Value),l'.size=ops.size->(∀i,i<ops.size->l'.getD i true=decide (i<A+1))->left ops.size l'<=fl->ts'[x.dst]?=some v ->
 Sim w0 S0 (UX U base a A (fun _=>true)) ((zbf ops b (fun _=>true) a ss st0).put oA.dst (.v (.at .bad))) E' ts' sv w'->Late w0 ((zbf ops b (fun _=>true) a ss st0).put oA.dst (.v (.at .bad))) E' x v w'->wpAny C.P md ops Q fl l' { tmps:=ts',defers:=[] } w')(fuel:Nat)(listed:Array Bool)(E:Env)(ts:Array Value)(w:World)(hsz:listed.size=ops.size)(hX:zhr cl (XL listed))(hbel:∀i,i<a->XL listed i=true)(hlow:∀m,A<=m->m<ops.size->XL listed m=false)(hf:left ops.size listed<=fuel)(hS:Sim w0 S0 (UX U base a A (XL listed)) (zbf ops b (XL listed) a ss st0) E ts sv w):wpAny C.P md ops Q fuel listed { tmps:=ts,defers:=[] } w:=by
 have hdst:oA.dst=some x.dst/\oA.guard=none:=by
  unfold zqg at hap;split at hap
  .rename_i c d ho hdst hgu;refine ⟨?_,hgu⟩;rw[hdst]
   congr 1
   repeat' (first|(split at hap)|(cases hap))
   all_goals first|rfl|(simp only [qC,jR]at hap;obtain ⟨_,rfl⟩:=hap;rfl)
  .cases hap
 have huses:∀{X Y:Nat->Bool} {i:Nat},(∀k,Y k=(X k||k==i))->∀n,UX U base a A X n->UX U base a A Y n:=by
  intro X Y i hY n h;rcases h with h|⟨k,h0,h1,h2,h3⟩
  .exact .inl h
  .exact .inr ⟨k,h0,h1,by rw[hY,h2];rfl,h3⟩
 have hfA:∀{X:Nat->Bool} (κ:Key),(∀j∈cl.getD A [],X j=true)->(ze1 (zbf ops b (fun _=>true) a ss st0) ops oA zEa).reads κ->(zbf ops b X a ss st0).get κ=(zbf ops b (fun _=>true) a ss st0).get κ:=by
  intro X κ hr hκ;refine zqk ss a st0 st0 rfl rfl (fun k s' o' hk ho' hne hw=>?_);obtain ⟨o2,f',ho2,h2⟩:=F.at1 k s' hk;rw[ho']at ho2;cases ho2;have hXk:X (a+k)=false:=by
   cases h:X (a+k) with
   | false=>rfl
   | true=>exact absurd h hne
  have hn:a+k∉cl.getD A []:=fun h=>by rw[hr _ h]at hXk;cases hXk
  exact ((apart_spec (hfoot k s' o' f' hk ho' h2 hn)).1 κ ((zBR h2 κ).1 hw)).1 hκ
 refine zJ2 (T:=A+1) (J:=fun X E ts w=>(X A=false->Sim w0 S0 (UX U base a A X) (zbf ops b X a ss st0) E ts sv w) /\
  (X A=true->∃v,ts[x.dst]?=some v/\Sim w0 S0 (UX U base a A X) ((zbf ops b X a ss st0).put oA.dst (.v (.at .bad))) E ts sv w/\Late w0 (zbf ops b X a ss st0) E x v w)) W hTs hpin ?_ ?_ ?_
  fuel listed E ts w hsz hX hbel (fun m h1 h2=>hlow m (by omega) h2) hf ⟨fun _=>hS,fun h=>(by rw[hlow A (qV _) (by omega)]at h;cases h)⟩
 .intro X Y E ts w h hJ;have hXA:X A=Y A:=h A (by omega) (by omega)
  have e:=zh0 (ops:=ops) (b:=b) ss a st0 (X:=X) (Y:=Y) (fun k h1 h2=>h k h1 (by omega))
  have hu:∀n,UX U base a A X n->UX U base a A Y n:=by
   rintro n (h1|⟨k,h0,h1,h2,h3⟩)
   .exact .inl h1
   .exact .inr ⟨k,h0,h1,by rw[<- h k h0 (by omega)];exact h2,h3⟩
  refine ⟨fun hYA=>?_,fun hYA=>?_⟩
  .have:=hJ.1 (hXA.trans hYA);rw[e] at this;exact this.uses hu
  .obtain ⟨v,h1,h2,h3⟩:=hJ.2 (hXA.trans hYA);rw[e]at h2 h3;exact ⟨v,h1,h2.uses hu,h3⟩
 .intro X Y i hX hia hi hXi hr hY E ts w hJ K hK
  by_cases hiA:i=A
  .subst hiA;have hSX:=hJ.1 hXi;have hYX:zbf ops b Y a ss st0=zbf ops b X a ss st0:=zh0 ss a st0 (fun k h1 h2=>by
    rw[hY];have:(k==i)=false:=by simp;omega
    rw[this,uJ])
   have hag:Agree (zbf ops b (fun _=>true) a ss st0) (zbf ops b X a ss st0) oA.op.operands.toList :=
    z3y (by rw[zfC,zfC]) (fun t ht=>hfA (.tm t) hr (by simp only[Foot.reads,ze1];exact j5 _ ht)) (fun n hn=>hfA (.ro n) hr hn) (fun n hn=>hfA (.lo n) hr hn)
   have hapX:=zWJ (C:=C) hag;rw[hap]at hapX;have hdX:Dead (zbf ops b X a ss st0):=by
    subst hbt;exact zyB ss a st0 (hd rfl).1 (hd rfl).2
   obtain ⟨hg,hdA,v,w',hrun,hS',hL⟩:=z4K hC hSX hdX hapX;refine pure_run (d:=zEa) hoA hg hrun (hK E _ w' ⟨fun h=>(by rw[hY]at h;simp at h),fun _=>⟨v,?_,?_,?_⟩⟩)
   .rw [hdA];have hlt:x.dst<ts.size:=by
     rw[hSX.tm.1,znz];rw[znz]at hlen;exact hlen
    simp[Act.put,hlt]
   .rw [hYX];exact hS'.uses (huses hY)
   .rw [hYX];exact hL
  .have hiA':i<A:=by omega
   have hYA:Y A=X A:=by
    rw[hY];have:(A==i)=false:=by simp;omega
    rw[this,uJ]
   cases hXA:X A with
   | false =>
    refine zB7 hC hH hA F hX hia hiA' hXi hr hb hd hM hY (hJ.1 hXA) (fun E' ts' w' hS'=>hK E' ts' w' ⟨fun _=>hS',fun h=>(by rw[hYA,hXA]at h;cases h)⟩)
   | true =>
    obtain ⟨v,hv,hSX,hL⟩:=hJ.2 hXA;obtain ⟨j,rfl⟩:∃j,i=a+j:=⟨i-a,by omega⟩
    obtain ⟨s,hs⟩:∃s,ss[j]?=some s:=⟨_,qB (by omega)⟩
    obtain ⟨o,f,ho,h1,h2⟩:=zKt F hX hs hXi hr;have hnA:a+j∉cl.getD A []:=fun h=>by rw[hX A hXA _ h]at hXi;cases hXi
    have hpo:zmw o=true:=by
     have:=qM.1 hlo (a+j) (by simp;omega)
     simp only[ho,jU,jF,qU] at this;rcases this with h|h
     .exact absurd h hnA
     .exact h
    have hapf:=apart_spec (hfoot j s o f hs ho h1 hnA);have hwA:(ze1 (zbf ops b (fun _=>true) a ss st0) ops oA zEa).writes (.tm x.dst):=by simp only[Foot.writes,ze1];exact hdst.1
    have hne:∀κ,f.reads κ->κ≠.tm x.dst:=fun κ hκ e=>hapf.2 (.tm x.dst) hwA (e ▸ hκ);have hdne:o.dst≠some x.dst:=fun e=>(hapf.1 (.tm x.dst) ((zBR h1 (.tm x.dst)).1 (by cases s<;>exact e))).2 hwA
    have hep:∀Z,(zbf ops b Z a ss st0).ep=st0.ep:=fun Z=>zfC ss a st0;have hdoes:=zTe (S':=(zbf ops b X a ss st0).put oA.dst (.v (.at .bad))) h1 (by rw[hep,hdst.1];exact hep X) (fun κ hκ=>by rw[hdst.1,get_put (hne κ hκ)];exact h2 κ hκ)
    have hg0:o.guard=none:=by
     unfold zmw at hpo;simp only[qD,j9]at hpo;exact hpo.1
    cases s with
    | none =>
     exfalso;have:zcN ops o ((zbf ops b X a ss st0).put oA.dst (.v (.at .bad)))=some false:=hdoes;simp[zcN,hg0] at this
    | some d =>
     obtain ⟨_,d2,d3⟩:=hdoes;obtain ⟨_,v2,hrun,hvm,hids,e1,e2,e3⟩:=zsK hC hSX hpo d2 d3;have hput:∀κ,(zbf ops b Y a ss st0).get κ=((zbf ops b X a ss st0).put o.dst d.v).get κ:=by
      intro κ;rw[zHz F hX hs ho hXi hY κ];simp only[St.step,St.effD,e1,e2,List.map_nil,jN]
     have hS2:Sim w0 S0 (UX U base a A X) (((zbf ops b X a ss st0).put oA.dst (.v (.at .bad))).put o.dst d.v) E (({ tmps:=ts,defers:=[] }:Act).put o.dst v2).tmps sv w:=hSX.putV hvm hids;refine pure_run (d:=d) ho hg0 hrun (hK E _ w ⟨fun h=>(by rw[hYA,hXA]at h;cases h),fun _=>⟨v,?_,?_,?_⟩⟩)
     .cases hod:o.dst with
      | none=>exact hv
      | some t=>exact zVH hv (fun e=>hdne (by rw[hod,e]))
     .refine (hS2.same (fun κ=>?_) ?_ ?_).uses (huses hY)
      .rw [hdst.1];cases κ with
       | tm t =>
        have hk:=hput (.tm t);have hl1:(zbf ops b Y a ss st0).tm.length=(zbf ops b X a ss st0).tm.length:=by rw[znz,znz]
        by_cases ht:t=x.dst
        .subst ht;cases hod:o.dst with
         | none=>simp[St.get,St.put,jE,hl1]
         | some t' =>
          have:t'≠x.dst:=fun e=>hdne (by rw[hod,e])
          simp[St.get,St.put,jE,hl1,this]
        .have hne':x.dst≠t:=fun e=>ht e.symm;rw[get_put (by simpa using ht),hk]
         cases hod:o.dst with
         | none=>simp[St.get,St.put,jE,hne']
         | some t' =>
          simp only[St.get,St.put,jE,List.length_set];split
          .rfl
          .first|rfl|rw[if_neg hne']
       | ro n =>
        have hk:=hput (.ro n);rw[get_put (by simp),hk]
        cases o.dst<;>rfl
       | lo n =>
        have hk:=hput (.lo n);rw[get_put (by simp),hk]
        cases o.dst<;>rfl
      .rw [hdst.1];have h1:(zbf ops b Y a ss st0).stk=(zbf ops b X a ss st0).stk:=by rw[zkl,zkl]
       cases o.dst<;>exact h1
      .rw [hdst.1];have h1:(zbf ops b Y a ss st0).ep=(zbf ops b X a ss st0).ep:=by rw[zfC,zfC]
       cases o.dst<;>exact h1
     .have hro:∀n,zn (zbf ops b Y a ss st0).ro n=zn (zbf ops b X a ss st0).ro n:=fun n=>by
       rw[zKv (hput (.ro n))];cases o.dst<;>rfl
      have hlo':∀n,zn (zbf ops b Y a ss st0).lo n=zn (zbf ops b X a ss st0).lo n:=fun n=>by
       rw[zKu (hput (.lo n))];cases o.dst<;>rfl
      exact hL.states (fun n=>by
       unfold St.root;rw[hro n,hep Y,hep X]) hlo'
 .intro fl l' E' ts' w' hsz' hl' hf' hJ;obtain ⟨v,h1,h2,h3⟩:=hJ.2 rfl;refine htail fl l' E' ts' w' v hsz' hl' hf' h1 h2 (h3.states (fun n=>?_) (fun n=>?_))
  .rw [hdst.1];rfl
  .rw [hdst.1];rfl
theorem zQV {a b:At}(h:sameAt a b=true):a=b:=by
 cases a<;>cases b<;>simp only [sameAt]at h<;>try cases h
 case i.i k n k' n' =>
  by_cases hk:k=k'
  .subst hk;simp only[decide_true,cond_true,ieq,qK]at h;rw[h]
  .simp [hk]at h
 case b.b x y=>simp only[ziX,qK]at h;rw[h]
 case sl.sl r p r' p' =>
  cases hr:Nat.beq r r' with
  | false=>rw[hr]at h;cases h
  | true =>
   rw[hr,cond_true]at h;rw[jQ hr,zrb h]
 case lp.lp l o l' o' =>
  simp only[qD]at h;rw[jQ h.1,jQ h.2]
 case ep.ep r p i o r' p' i' o' =>
  cases hr:(Nat.beq r r'&&Nat.beq o o') with
  | false=>rw[hr]at h;cases h
  | true =>
   rw[hr,cond_true]at h;simp only[qD]at hr h;simp only[ieq,qK]at h;rw[jQ hr.1,jQ hr.2,h.1,zrb h.2]
 case fn.fn f c f' c' =>
  simp only[qD,qK]at h;rw[jQ h.1,h.2]
theorem zMq:∀{l m:List At},zEz l m=true->l=m
 | [],[],_=>rfl
 | a :: l,b :: m,h=>by
  simp only[zEz,qD]at h;rw[zQV h.1,zMq h.2]
 | [],_ :: _,h=>by cases h
 | _ :: _,[],h=>by cases h
theorem z2Z {x y:MV}(h:zMr x y=true):x=y:=by
 unfold zMr at h;split at h
 .rw [zQV h]
 .rw [zMq h]
 .cases h
theorem zrV {k:St->Option Ans}{ans:Ans}:∀{js:List Nat},znc C ops base k js st=some ans ->
 k st=some ans/\∀j∈js,∃o d t,ops[j]?=some o/\delta C st o (base+32*j)=some d/\d.c=true/\o.dst=some t/\st.tm[t]?=some d.v
 | [],h=>⟨h,fun _ h=>by cases h⟩
 | j :: r,h=>by
  unfold znc at h;split at h
  .rename_i o ho;split at h
   .rename_i d t hd ht;split at h
    .rename_i m hm;cases hc:(d.c&&zMr d.v m) with
     | false=>rw[hc]at h;cases h
     | true =>
      rw[hc,cond_true]at h;obtain ⟨h1,h2⟩:=zrV h;simp only[qD]at hc;refine ⟨h1,fun i hi=>?_⟩;rcases qI.1 hi with rfl|hi
      .exact ⟨o,d,t,ho,hd,hc.1,ht,by rw[hm,z2Z hc.2]⟩
      .exact h2 i hi
    .cases h
   .cases h
  .cases h
theorem zKm {ts ts1:Array Value}{x:Operand}(h:∀t,x = .tmp t->ts[t]?=ts1[t]?):({ tmps:=ts,defers:=[] }:Act).eval x=({ tmps:=ts1,defers:=[] }:Act).eval x:=by
 cases x with
 | tmp t=>simp only[Act.eval,Array.getD_eq_getD_getElem?,h t rfl]
 | _=>rfl
theorem zLV {o:Oper}{x:Operand}{t:Nat}(hx:x∈o.op.operands.toList)(ht:x = .tmp t):t∈zhg o:=by
 subst ht;exact kX.2 ⟨_,hx,rfl⟩
theorem z0z {o:Oper}(hp:zmw o=true){ts ts1:Array Value}(h:∀t∈zhg o,ts[t]?=ts1[t]?):execOp ({ tmps:=ts,defers:=[] }:Act).eval o=execOp ({ tmps:=ts1,defers:=[] }:Act).eval o:=by
 have he:∀x∈o.op.operands.toList,({ tmps:=ts,defers:=[] }:Act).eval x=({ tmps:=ts1,defers:=[] }:Act).eval x:=fun x hx=>zKm fun t ht=>h t (zLV hx ht);unfold zmw at hp;simp only[qD]at hp;obtain ⟨_,hp⟩:=hp;cases hop:o.op
 case move x=>simp only[execOp,hop,he x (by rw[hop];simp[Op.operands])]
 case load T x=>simp only[execOp,hop,he x (by rw[hop];simp[Op.operands])]
 case fieldAddr T x f=>simp only[execOp,hop,he x (by rw[hop];simp[Op.operands])]
 case indexAddr T x y=>simp only[execOp,hop,he x (by rw[hop];simp[Op.operands]),he y (by rw[hop];simp[Op.operands])]
 case nilCheck x=>simp only[execOp,hop,he x (by rw[hop];simp[Op.operands])]
 all_goals (rw [hop]at hp;simp at hp)
theorem zCv {o:Oper}(h:zpA o=true):o.guard=none/\∃c x,o.op = .call c/\c.callee = .value x:=by
 unfold zpA at h;simp only[qD,j9]at h;refine ⟨h.1.1,?_⟩;have h2:=h.2;split at h2
 .rename_i c hc;split at h2
  .rename_i x hx;exact ⟨c,x,hc,hx⟩
  .cases h2
 .cases h2
theorem zZi {o:Oper}(hc:zpA o=true){ts ts1:Array Value}(h:∀t∈zhg o,ts[t]?=ts1[t]?):execOp ({ tmps:=ts,defers:=[] }:Act).eval o=execOp ({ tmps:=ts1,defers:=[] }:Act).eval o:=by
 have he:∀x∈o.op.operands.toList,({ tmps:=ts,defers:=[] }:Act).eval x=({ tmps:=ts1,defers:=[] }:Act).eval x:=fun x hx=>zKm fun t ht=>h t (zLV hx ht);obtain ⟨_,c,x,hop,hcb⟩:=zCv hc;have hx:=he x (by rw[hop];simp[Op.operands,Call.operands,hcb])
 have ha:c.args.map ({ tmps:=ts,defers:=[] }:Act).eval=c.args.map ({ tmps:=ts1,defers:=[] }:Act).eval:=by
  apply Array.map_congr_left;intro y hy;exact he y (by rw[hop];simp[Op.operands,Call.operands,hcb,hy])
 simp only[execOp,hop,resolve,hcb,hx,ha]
theorem z02 {P:Program}{o:Oper}{i:Nat}(ho:ops[i]?=some o)(hc:zpA o=true){ts ts1:Array Value}(h:∀t∈zhg o,ts[t]?=ts1[t]?){K1 K:Act->World->Prop}{Q1 Q:Exit->Act->World->Prop}(hQ:∀e a w,Q1 e a w->e = .normal)(hK:∀a' w',K1 a' w'->a'.defers=[])(hKK:∀v w',K1 (({ tmps:=ts1,defers:=[] }:Act).put o.dst v) w'->K (({ tmps:=ts,defers:=[] }:Act).put o.dst v) w')(hw:wpOp P ops Q1 i K1 { tmps:=ts1,defers:=[] } w):wpOp P ops Q i K { tmps:=ts,defers:=[] } w:=by
 obtain ⟨hg,_⟩:=zCv hc;unfold wpOp at hw ⊢;simp only[ho]at hw ⊢;rw[if_pos (by simp[Region.wanted,hg])]at hw ⊢
 rcases hw with hw|⟨_,a,w,hl⟩
 .refine .inl ?_;unfold Oper.wp at hw ⊢;rw[zZi hc h];generalize (execOp ({ tmps:=ts1,defers:=[] }:Act).eval o).run P w=r at hw;cases r with
  | ok n w' =>
   cases n with
   | value v=>exact hKK v w' hw
   | skip=>exact hKK undef w' hw
   | defer d =>
    exfalso;have:=hK _ _ hw;cases hd:o.dst<;>simp [Act.put,hd] at this
   | enter f args =>
    refine Calls.mono hw ?_;intro e w2 he;cases e with
    | returned v=>exact hKK v w2 he
    | panicked chain=>exact absurd (hQ _ _ _ he) (by simp)
    | outgrown =>
     obtain ⟨a,w3,hl⟩:=he;exact absurd (hQ _ _ _ hl) (by simp)
   | row row args=>exact Rows.mono hw fun v w2 he=>hKK v w2 he
   | _=>exact hw.elim
  | halt hh w' =>
   cases hh with
   | panic v=>exact absurd (hQ _ _ _ hw) (by simp)
   | _=>exact hw.elim
 .exact absurd (hQ _ _ _ hl) (by simp)
theorem zrn {m a j:Nat}:j∈zls cl m a↔(m<=j/\j<m+(a-m))/\j∉cl.getD a []:=by
 unfold zls;rw[List.mem_filter];simp
def VV (U:Nat->Prop)(base size m n:Nat):Prop:=U n\/(base<=n/\n<base+32*m)\/base+32*size<=n
theorem z3E (hC:CfgOk C)(hH:CtrOk C)(hG:GraftOk C)(hN:NameOk C){call:zf0}(hcall:zq4 C call){a A:Nat}(W:Waits md ops cl)(haA:a<=A)(hA:a+ss.length=A)(hTs:A+1<=ops.size)(hpin:A+1<ops.size->Pinned ops.size cl (A+1))(F:Free C ops cl b base a ss st0)(hb:b=false->∀k,a<=k->k<A->zlu ops k=false)(hd:b=true->Dead st0/\0<st0.ep)(hM:∀k,a<=k->k<A->∀n,Mine (base+32*k) n->¬ U n){oA:Oper}(hoA:ops[A]?=some oA)(hcv:zpA oA=true)(hlo:zxr ops cl a A=true)(hlr:zIm ops cl (zls cl a A) oA=true){V:Nat->Prop}(hVV:∀n,UX U base a A (fun _=>true) n->VV V base ops.size A n)(hVb:∀n,base<=n->¬ V n)(hnid:base+32*ops.size<=st0.nid)(hF:∀n,st0.nid<=n->¬ UX U base a A (fun _=>true) n){k:St->Option Ans}{ans:Ans}(hden:zmb C call ops base (znc C ops base k (zls cl a A)) [A] (zbf ops b (fun _=>true) a ss st0)=some ans){Q:Exit->Act->World->Prop}(htail:∀(fl:Nat) (l':Array Bool) (U':Nat->Prop) (st':St) (E':Env) (ts':Array Value) (w':World),l'.size=ops.size->(∀i,i<ops.size->l'.getD i true=decide (i<A+1))->left ops.size l'<=fl ->
 Sim w0 S0 U' st' E' ts' sv w'->(∀n,U' n->VV V base ops.size (A+1) n)->base+32*ops.size<=st'.nid->(∀n,st'.nid<=n->¬ U' n)->k st'=some ans->wpAny C.P md ops Q fl l' { tmps:=ts',defers:=[] } w')(fuel:Nat)(listed:Array Bool)(E:Env)(ts:Array Value)(w:World)(hsz:listed.size=ops.size)(hX:zhr cl (XL listed))(hbel:∀i,i<a->XL listed i=true)(hlow:∀m,A<=m->m<ops.size->XL listed m=false)(hf:left ops.size listed<=fuel)(hS:Sim w0 S0 (UX U base a A (XL listed)) (zbf ops b (XL listed) a ss st0) E ts sv w):wpAny C.P md ops Q fuel listed { tmps:=ts,defers:=[] } w:=by
 have huses:∀{X Y:Nat->Bool},(∀k,X k=true->Y k=true)->∀n,UX U base a A X n->UX U base a A Y n:=by
  intro X Y hXY n h;rcases h with h|⟨k,h0,h1,h2,h3⟩
  .exact .inl h
  .exact .inr ⟨k,h0,h1,hXY k h2,h3⟩
 have hlate:∀j∈zls cl a A,∃p t,ops[j]?=some p/\p.dst=some t/\zmw p=true/\t∉zhg oA/\∀i∈zls cl a A,∀q,ops[i]?=some q->(t∈zhg q->j∈cl.getD i [])/\(i=j\/q.dst≠some t):=by
  intro j hj;have h1:=qM.1 hlr j hj;split at h1
  .rename_i p hp;split at h1
   .rename_i t ht;simp only[qD,jA,qM]at h1;have h2:=qM.1 hlo j (by obtain ⟨⟨g1,g2⟩,_⟩:=zrn.1 hj;simp;omega)
    simp only[hp,jU,jF,qU]at h2;refine ⟨p,t,hp,ht,h2.resolve_left (zrn.1 hj).2,by simpa using h1.1,fun i hi q hq=>?_⟩
    have h3:=h1.2 i hi;simp only[hq,qD,jU,jA,qK,jF,qU,decide_eq_false_iff_not]at h3;refine ⟨fun hm=>h3.1.resolve_left (fun hn=>hn hm),?_⟩;rcases h3.2 with h|h
    .exact .inl h
    .exact .inr (by simpa using h)
   .cases h1
  .cases h1
 have late_of:∀{X:Nat->Bool} {i:Nat},a<=i->i<A->X i=false->(∀j∈cl.getD A [],X j=true)->i∈zls cl a A:=by
  intro X i h1 h2 h3 h4;exact zrn.2 ⟨⟨h1,by omega⟩,fun h=>by rw[h4 i h]at h3;cases h3⟩
 let Ag:(Nat->Bool)->Array Value->Array Value->Prop:=fun X ts ts1=>ts.size=ts1.size/\∀t,(∀j∈zls cl a A,X j=false->∀o,ops[j]?=some o->o.dst≠some t)->ts[t]?=ts1[t]?
 refine zJ2 (T:=A+1) (J:=fun X E ts w=>(X A=false->Sim w0 S0 (UX U base a A X) (zbf ops b X a ss st0) E ts sv w) /\
  (X A=true->∃(U1:Nat->Prop) (st1:St) (ts1:Array Value),Sim w0 S0 U1 st1 E ts1 sv w/\(∀n,U1 n->VV V base ops.size (A+1) n)/\base+32*ops.size<=st1.nid/\(∀n,st1.nid<=n->¬ U1 n)/\znc C ops base k (zls cl a A) st1=some ans/\Ag X ts ts1)) W hTs hpin ?_ ?_ ?_
  fuel listed E ts w hsz hX hbel (fun m h1 h2=>hlow m (by omega) h2) hf ⟨fun _=>hS,fun h=>(by rw[hlow A (qV _) (by omega)]at h;cases h)⟩
 .intro X Y E ts w h hJ;have hXA:X A=Y A:=h A (by omega) (by omega)
  have e:=zh0 (ops:=ops) (b:=b) ss a st0 (X:=X) (Y:=Y) (fun k h1 h2=>h k h1 (by omega))
  refine ⟨fun hYA=>?_,fun hYA=>?_⟩
  .have:=hJ.1 (hXA.trans hYA);rw[e] at this;refine this.uses ?_
   rintro n (h1|⟨k,h0,h1,h2,h3⟩)
   .exact .inl h1
   .exact .inr ⟨k,h0,h1,by rw[<- h k h0 (by omega)];exact h2,h3⟩
  .obtain ⟨U1,st1,ts1,h1,h2,h3,h4,h5,h6,h7⟩:=hJ.2 (hXA.trans hYA);refine ⟨U1,st1,ts1,h1,h2,h3,h4,h5,h6,fun t ht=>h7 t (fun j hj hXj=>ht j hj ?_)⟩;have:=zrn.1 hj;rw[<- h j this.1.1 (by omega)]
   exact hXj
 .intro X Y i hX hia hi hXi hr hY E ts w hJ K hK
  by_cases hiA:i=A
  .subst hiA;have hSX:=hJ.1 hXi
   have ghost:∀n,a<=n->n<=i->∃ts1,Sim w0 S0 (UX U base a i (fun k=>X k||decide (k<n))) (zbf ops b (fun k=>X k||decide (k<n)) a ss st0) E ts1 sv w/\Ag X ts ts1:=by
    intro n
    induction n with
    | zero =>
     intro h0 _;have e:(fun k=>X k||decide (k<0))=X:=by funext k;simp
     rw[e];exact ⟨ts,hSX,rfl,fun _ _=>rfl⟩
    | succ n ih =>
     intro h1 h2
     by_cases han:a=n+1
     .have e:zbf ops b (fun k=>X k||decide (k<n+1)) a ss st0=zbf ops b X a ss st0:=zh0 ss a st0 (fun k g1 g2=>by
       have:¬ k<n+1:=by omega
       simp[this])
      rw[e];refine ⟨ts,hSX.uses (huses fun k hk=>by simp[hk]),rfl,fun _ _=>rfl⟩
     .obtain ⟨ts1,hS1,hA1⟩:=ih (by omega) (by omega)
      have hset:∀k,(X k||decide (k<n+1))=((X k||decide (k<n))||k==n):=fun k=>by
       by_cases hk:k<n
       .have:k<n+1:=by omega
        simp[hk,this]
       .by_cases hk2:k=n
        .subst hk2;simp
        .have:¬ k<n+1:=by omega
         simp[hk,hk2,this]
      cases hXn:X n with
      | true =>
       have e:(fun k=>X k||decide (k<n+1))=fun k=>X k||decide (k<n):=by
        funext k
        rw[hset k]
        by_cases hk:k=n
        .subst hk;simp[hXn]
        .simp [hk]
       rw[e];exact ⟨ts1,hS1,hA1⟩
      | false =>
       have hln:=late_of (by omega) (by omega) hXn hr
       obtain ⟨p,t,hp,ht,hpo,_⟩:=hlate n hln;have hcX:zhr cl (fun k=>X k||decide (k<n)):=by
        intro k hk j hj;simp only[jU,qU]at hk ⊢;rcases hk with hk|hk
        .exact .inl (hX k hk j hj)
        .have:=W.lt k (by omega) j hj
         exact .inr (by omega)
       obtain ⟨q,rfl⟩:∃q,n=a+q:=⟨n-a,by omega⟩
       obtain ⟨s,hs⟩:∃s,ss[q]?=some s:=⟨_,qB (by omega)⟩
       have hXn2:(X (a+q)||decide (a+q<a+q))=false:=by simp[hXn]
       obtain ⟨o,ho,hdo⟩:=zQu F hcX hs hXn2 (fun j hj=>by
        have:=W.lt (a+q) (by omega) j hj
        simp[this])
       rw[hp]at ho;cases ho;have hg0:p.guard=none:=by
        unfold zmw at hpo;simp only[qD,j9]at hpo;exact hpo.1
       cases s with
       | none =>
        exfalso;have:zcN ops p (zbf ops b (fun k=>X k||decide (k<a+q)) a ss st0)=some false:=hdo;simp[zcN,hg0] at this
       | some d =>
        obtain ⟨_,d2,d3⟩:=hdo;obtain ⟨_,v2,hrun,hvm,hids,e1,e2,e3⟩:=zsK hC hS1 hpo d2 d3;have hput:∀κ,(zbf ops b (fun k=>X k||decide (k<a+q+1)) a ss st0).get κ=((zbf ops b (fun k=>X k||decide (k<a+q)) a ss st0).put p.dst d.v).get κ:=by
         intro κ;rw[zHz F hcX hs hp hXn2 (fun k=>hset k) κ];simp only[St.step,St.effD,e1,e2,List.map_nil,jN]
        have hS2:=hS1.putV (dst:=p.dst) hvm hids;refine ⟨(({ tmps:=ts1,defers:=[] }:Act).put p.dst v2).tmps,(hS2.same hput ?_ ?_).uses (huses fun k hk=>?_),?_,?_⟩
        .rw [zkl,zPg,zkl]
        .rw [zfC,zVG,zfC]
        .simp only [jU,qU]at hk ⊢;rcases hk with hk|hk
         .exact .inl hk
         .exact .inr (by omega)
        .rw [ht];simp[Act.put,hA1.1]
        .intro t' ht';rw[hA1.2 t' ht',ht];have hne:t≠t':=fun e=>ht' _ hln hXn p hp (by rw[ht,e])
         simp[Act.put,uZ hne]
   obtain ⟨ts1,hS1,hA1⟩:=ghost i haA (qV _);have e:=zh0 (ops:=ops) (b:=b) ss a st0 (X:=fun k=>X k||decide (k<i)) (Y:=fun _=>true) (fun k h1 h2=>by
    have:k<i:=by omega
    simp[this])
   rw[e]at hS1;have hS1:=hS1.uses (huses (Y:=fun _=>true) fun _ _=>rfl)
   let Q1:Exit->Act->World->Prop:=fun e a' w'=>e = .normal/\a'.defers=[]/\∃(U1:Nat->Prop) (st1:St) (E1:Env),Sim w0 S0 U1 st1 E1 a'.tmps sv w'/\(∀n,U1 n->VV V base ops.size (i+1) n)/\base+32*ops.size<=st1.nid/\(∀n,st1.nid<=n->¬ U1 n)/\znc C ops base k (zls cl a i) st1=some ans
   have hnidf:(zbf ops b (fun _=>true) a ss st0).nid=st0.nid:=zu3 ss a st0;have key:=zkk (Q:=Q1) hC hH hG hN hcall (ops:=ops) (base:=base) (V:=VV V base ops.size (i+1)) (nid0:=base+32*ops.size) (fun n hn'=>.inr (.inr hn'))
    (fun U' st' E' ts' w' hS' hU' hn' hF' h'=>⟨rfl,rfl,U',st',E',hS',hU',hn',hF',h'⟩)
    [i] _ _ E ts1 w hS1 ?_ (by rw[hnidf];exact hF) ?_ (by simp) (by rw[hnidf];exact hnid) ?_ hden
   .rw [wpOps_cons] at key;refine z02 hoA hcv (fun t ht=>hA1.2 t (fun j hj hXj o ho hdt=>?_)) (fun e a w h=>h.1) (fun a' w' h=>h.2.1) (fun v w' h=>?_) key
    .obtain ⟨p,t',hp,hpt,_,hn,_⟩:=hlate j hj;rw[hp]at ho;cases ho;rw[hpt]at hdt;cases hdt;exact hn ht
    .obtain ⟨_,_,U1,st1,E1,g1,g2,g3,g4,g5⟩:=h;rw[zhs];refine hK E1 _ w' ⟨fun h=>(by rw[hY]at h;simp at h),fun _=>⟨U1,st1,_,g1,g2,g3,g4,g5,?_,?_⟩⟩
     .cases oA.dst<;>simp [Act.put,hA1.1]
     .intro t ht;have h0:ts[t]?=ts1[t]?:=hA1.2 t (fun j hj hXj=>ht j hj (by
       have:=zrn.1 hj;rw[hY,hXj];simp;omega))
      cases hdst:oA.dst with
      | none=>simpa [Act.put,hdst] using h0
      | some d =>
       simp only[Act.put,hdst,uB,hA1.1];split
       .rfl
       .exact h0
   .rintro n hn'
    rcases hVV n hn' with h|⟨h1,h2⟩|h
    .exact .inl h
    .exact .inr (.inl ⟨h1,by omega⟩)
    .exact .inr (.inr h)
   .intro j hj n hmn;simp only[qF]at hj;subst hj;obtain ⟨g1,g2⟩:=hmn;refine ⟨fun hn'=>?_,.inr (.inl ⟨by omega,by omega⟩)⟩
    rcases hVV n hn' with h|⟨h1,h2⟩|h
    .exact hVb n (by omega) h
    .omega
    .omega
   .intro j hj;simp only[qF]at hj;subst hj;rw[hnidf];omega
  .have hiA':i<A:=by omega
   have hYA:Y A=X A:=by
    rw[hY];have:(A==i)=false:=by simp;omega
    rw[this,uJ]
   cases hXA:X A with
   | false =>
    refine zB7 hC hH hA F hX hia hiA' hXi hr hb hd hM hY (hJ.1 hXA) (fun E' ts' w' hS'=>hK E' ts' w' ⟨fun _=>hS',fun h=>(by rw[hYA,hXA]at h;cases h)⟩)
   | true =>
    obtain ⟨U1,st1,ts1,g1,g2,g3,g4,g5,g6,g7⟩:=hJ.2 hXA;have hli:=late_of hia hiA' hXi (fun j hj=>hX A hXA j hj);obtain ⟨p,t,hp,ht,hpo,_,hap⟩:=hlate i hli;obtain ⟨o,d,t2,ho,hdl,hdc,ht2,htm⟩:=(zrV g5).2 i hli;rw[hp]at ho;cases ho;rw[ht]at ht2;cases ht2;obtain ⟨hg0,v2,hrun,hvm,hids,_,_,_⟩:=zsK hC g1 hpo hdl hdc;have hag:execOp ({ tmps:=ts,defers:=[] }:Act).eval p=execOp ({ tmps:=ts1,defers:=[] }:Act).eval p:=z0z hpo (fun t' ht'=>g7 t' (fun j hj hXj o ho hdt=>by
     obtain ⟨p2,t3,hp2,hpt2,_,_,hap2⟩:=hlate j hj;rw[hp2]at ho;cases ho;rw[hpt2]at hdt;cases hdt;have:=hr j ((hap2 i hli p hp).1 ht');rw[this]at hXj;cases hXj))
    rw[<- hag]at hrun;refine pure_run (d:=d) hp hg0 hrun (hK E _ w ⟨fun h=>(by rw[hYA,hXA]at h;cases h),fun _=>⟨U1,st1,(({ tmps:=ts1,defers:=[] }:Act).put p.dst v2).tmps,?_,g2,g3,g4,g5,?_,?_⟩⟩)
    .have:=g1.putV (dst:=p.dst) hvm hids;rw[ht,zIN htm] at this;rw[ht];exact this
    .rw [ht];simp[Act.put,g6]
    .intro t' ht';rw[ht];simp only[Act.put,uB,g6];split
     .rfl
     .rename_i hne;refine g7 t' (fun j hj hXj o ho hdt=>?_)
      by_cases hji:j=i
      .subst hji;rw[hp]at ho;cases ho;rw[ht]at hdt;cases hdt;exact hne rfl
      .refine ht' j hj ?_ o ho hdt;rw[hY,hXj];simp[hji]
 .intro fl l' E' ts' w' hsz' hl' hf' hJ;obtain ⟨U1,st1,ts1,g1,g2,g3,g4,g5,g6,g7⟩:=hJ.2 rfl;have:ts'=ts1:=Array.ext_getElem? fun t=>g7 t (fun j _ h=>by cases h)
  subst this;exact htail fl l' U1 st1 E' ts' w' hsz' hl' hf' g1 g2 g3 g4 (zrV g5).1
theorem zxs (hC:CfgOk C)(W:Waits md ops cl){x:App}{kk:Nat->List Bool->St->Option Ans}{ans:Ans}{Q:Exit->Act->World->Prop}(hkk:∀(m':Nat) (r':List Bool) (U':Nat->Prop) (st':St) (E':Env) (ts':Array Value) (w':World) (fl:Nat) (l':Array Bool),r'=(zhh ops.size cl).drop m'->m'<=ops.size->l'.size=ops.size->(∀i,i<ops.size->l'.getD i true=decide (i<m'))->left ops.size l'<=fl ->
 Sim w0 S0 U' st' E' ts' sv w'->(∀n,U' n->VV U base ops.size m' n)->(∀n,st'.nid<=n->¬ U' n)->base+32*ops.size<=st'.nid->kk m' r' st'=some ans->wpAny C.P md ops Q fl l' { tmps:=ts',defers:=[] } w') :
 ∀(pins:List Bool) (m:Nat) (V:Nat->Prop) (st:St) (E:Env) (ts:Array Value) (w:World) (fuel:Nat) (listed:Array Bool) (v:Value),pins=(zhh ops.size cl).drop m->m<=ops.size->listed.size=ops.size->(∀i,i<ops.size->listed.getD i true=decide (i<m))->left ops.size listed<=fuel ->
  Sim w0 S0 V st E ts sv w->(∀n,V n->VV U base ops.size m n)->(∀n,st.nid<=n->¬ V n)->base+32*ops.size<=st.nid->ts[x.dst]?=some v->Late w0 st E x v w->zpB C ops base x kk pins m st=some ans->wpAny C.P md ops Q fuel listed { tmps:=ts,defers:=[] } w
 | [],m,V,st,E,ts,w,fuel,listed,v,_,_,_,_,_,_,_,_,_,_,_,h=>by simp[zpB]at h
 | false :: r,m,V,st,E,ts,w,fuel,listed,v,_,_,_,_,_,_,_,_,_,_,_,h=>by simp[zpB]at h
 | true :: r,m,V,st,E,ts,w,fuel,listed,v,hp,hm,hsz,hl,hf,hS,hV,hF,hn,hv,hL,h=>by
  simp only[zpB]at h;obtain ⟨hms,hpin,hr⟩:=zrq hp;have hV1:∀n,V n->VV U base ops.size (m+1) n:=by
   rintro n hn'
   rcases hV n hn' with h|⟨h1,h2⟩|h
   .exact .inl h
   .exact .inr (.inl ⟨h1,by omega⟩)
   .exact .inr (.inr h)
  refine zYH W hsz hms (zwr hpin.symm) hl hf (fun fl l' hsz' hl' hf' _ _=>?_);split at h
  .cases h
  .rename_i o ho;split at h
   .rename_i c st2 hst;cases hc:c with
    | false=>rw[hc]at h;cases h
    | true =>
     rw[hc]at h hst;simp only[cond_true,zDT]at h;obtain ⟨hg,hgo,hnid⟩:=zZ2 (id:=base+32*m) hC hS hL hv hst;unfold wpOp;simp only[ho];rw[if_pos (by simp[Region.wanted,hg])]
     refine .inl (hgo _ _ (fun E' v' w' hS'=>?_));rw[zhs];refine hkk (m+1) r _ _ E' _ w' fl l' hr (by omega) hsz' hl' hf' hS' ?_ ?_ (by rw[zfj];omega) h
     .rintro n (h|⟨h1,h2⟩)
      .exact hV1 n h
      .exact .inr (.inl ⟨by omega,by omega⟩)
     .rintro n hn' (h|⟨h1,h2⟩)
      .exact hF n (by rw[zfj]at hn';omega) h
      .rw [zfj]at hn';omega
   .split at h
    .rename_i hcond;simp only[qD,jA,beq_eq_false_iff_ne]at hcond;split at h
     .rename_i d hd;cases hc:d.c with
      | false=>rw[hc]at h;cases h
      | true =>
       rw[hc]at h;simp only[cond_true]at h;obtain ⟨hg,v2,hrun,hvm,hids,e1,e2,e3⟩:=zsK hC hS hcond.1 hd hc;have he:st.apply o.dst d=st.put o.dst d.v:=by simp[St.apply,e1,e2,e3]
       rw[he]at h;refine pure_run (d:=d) ho hg hrun ?_;refine zxs hC W hkk r (m+1) V _ E _ w fl l' v hr (by omega) hsz' hl' hf' (hS.putV hvm hids) hV1 (by rw[zfj];exact hF) (by rw[zfj];exact hn) ?_ (hL.states (fun n=>?_) (fun n=>?_)) h
       .cases hod:o.dst with
        | none=>exact hv
        | some t=>exact zVH hv (fun e=>hcond.2 (by rw[hod,e]))
       .cases o.dst<;>rfl
       .cases o.dst<;>rfl
     .cases h
    .cases h
theorem zjo (hC:CfgOk C)(hH:CtrOk C)(hG:GraftOk C)(hN:NameOk C){call:zf0}(hcall:zq4 C call)(W:Waits md ops cl){k:St->Option Ans}{ans:Ans}{Q:Exit->Act->World->Prop}(hU0:∀n,base<=n->¬ U n)(hk:∀(U':Nat->Prop) (st':St) (E':Env) (ts':Array Value) (w':World),Sim w0 S0 U' st' E' ts' sv w'->(∀n,U' n->VV U base ops.size ops.size n)->base+32*ops.size<=st'.nid->(∀n,st'.nid<=n->¬ U' n)->k st'=some ans->Q .normal { tmps:=ts',defers:=[] } w') :
 ∀(fs m:Nat) (pins:List Bool) (V:Nat->Prop) (st:St) (E:Env) (ts:Array Value) (w:World) (fuel:Nat) (listed:Array Bool),pins=(zhh ops.size cl).drop m->m<=ops.size->listed.size=ops.size->(∀i,i<ops.size->listed.getD i true=decide (i<m))->left ops.size listed<=fuel ->
  Sim w0 S0 V st E ts sv w->(∀n,V n->VV U base ops.size m n)->(∀n,st.nid<=n->¬ V n)->base+32*ops.size<=st.nid->zjJ C call ops cl base k fs m pins st=some ans->wpAny C.P md ops Q fuel listed { tmps:=ts,defers:=[] } w
 | 0,m,pins,V,st,E,ts,w,fuel,listed,_,_,_,_,_,_,_,_,_,h=>by simp[zjJ]at h
 | fs+1,m,[],V,st,E,ts,w,fuel,listed,hp,hm,hsz,hl,hf,hS,hV,hF,hn,h=>by
  simp only[zjJ]at h;have hms:=zVC hp;have e:m=ops.size:=by omega
  subst e;exact z4Q (fun i hi=>by rw[hl i hi];simp[hi]) (hk V st E ts w hS hV hn hF h)
 | fs+1,m,true :: r,V,st,E,ts,w,fuel,listed,hp,hm,hsz,hl,hf,hS,hV,hF,hn,h=>by
  simp only[zjJ]at h;obtain ⟨hms,hpin,hr⟩:=zrq hp;refine zYH W hsz hms (zwr hpin.symm) hl hf (fun fl l' hsz' hl' hf' _ _=>?_)
  let Q':Exit->Act->World->Prop:=fun e a w=>match e with
   | .normal=>wpAny C.P md ops Q fl l' a w
   | e=>Q e a w
  have hQ:∀e,e≠Exit.normal->∀a w,Q' e a w->Q e a w:=by
   intro e he a w h;cases e<;>first|exact absurd rfl he|exact h
  refine z01 hQ ?_;have key:=zkk (Q:=Q') hC hH hG hN hcall (ops:=ops) (base:=base) (V:=VV U base ops.size (m+1)) (nid0:=base+32*ops.size) (fun n hn'=>.inr (.inr hn'))
   (fun U' st' E' ts' w' hS' hU' hn' hF' h'=>zjo hC hH hG hN hcall W hU0 hk fs (m+1) r U' st' E' ts' w' fl l' hr (by omega) hsz' hl' hf' hS' hU' hF' hn' h')
   [m] V st E ts w hS ?_ hF ?_ (by simp) hn ?_ h
  .rw [wpOps_cons] at key;exact wpOp_mono (fun a w h=>h) key
  .rintro n hn'
   rcases hV n hn' with h|⟨h1,h2⟩|h
   .exact .inl h
   .exact .inr (.inl ⟨h1,by omega⟩)
   .exact .inr (.inr h)
  .intro j hj n hmn;simp only[qF]at hj;subst hj;obtain ⟨g1,g2⟩:=hmn;refine ⟨fun hn'=>?_,.inr (.inl ⟨by omega,by omega⟩)⟩
   rcases hV n hn' with h|⟨h1,h2⟩|h
   .exact hU0 n (by omega) h
   .omega
   .omega
  .intro j hj;simp only[qF]at hj;subst hj;omega
 | fs+1,m,false :: r,V,st,E,ts,w,fuel,listed,hp,hm,hsz,hl,hf,hS,hV,hF,hn,h=>by
  simp only[zjJ]at h;obtain ⟨hms,_,hr⟩:=zrq hp;obtain ⟨hfr1,hfr2,hfr3⟩:=zQM r (m+1) (by omega) hr
  generalize hb0:(List.range' m (zbS r+1)).any (zlu ops)=b at h;have hS0':Sim w0 S0 V { st with ep:=if b then st.ep+1 else st.ep } E ts sv w:=hS.blind b st.nid
  have hnid0:({ st with ep:=if b then st.ep+1 else st.ep }:St).nid=st.nid:=rfl
  have hd':b=true->Dead ({ st with ep:=if b then st.ep+1 else st.ep }:St)/\0<({ st with ep:=if b then st.ep+1 else st.ep }:St).ep:=by
   intro hb;subst hb;refine ⟨fun n R e hR he=>?_,by simp⟩
   have:=hS.mem.epo n R e hR he;simp only[if_true];omega
  have hb':b=false->∀k,m<=k->k<m+1+zbS r->zlu ops k=false:=by
   intro hb k hk1 hk2;rw[hb]at hb0;have:=kU.1 hb0 k (by simp;omega)
   simpa using this
  have hM:∀k,m<=k->k<m+1+zbS r->∀n,Mine (base+32*k) n->¬ V n:=by
   intro k h1 h2 n hn' hv;have g1:=hn'.1;have g2:=hn'.2;rcases hV n hv with h|⟨h3,h4⟩|h
   .exact hU0 n (by omega) h
   .omega
   .omega
  have hoff:∀(ss:List Step) (st0:St),zbf ops b (XL listed) m ss st0=st0:=fun ss st0=>zu4 ss m st0 (fun k hk=>by
   rcases u1 k ops.size with h|h
   .rw [zsu (by omega),hl k h];simp;omega
   .simp [XL,uV (show listed.size<=k by omega)])
  have hVX:∀{T:Nat},T<=m+(zbS r+1)->∀n,UX V base m T (fun _=>true) n->VV U base ops.size (m+(zbS r+1)) n:=by
   rintro T hT n (h|⟨k,h0,h1,_,h3⟩)
   .rcases hV n h with h|⟨h1,h2⟩|h
    .exact .inl h
    .exact .inr (.inl ⟨h1,by omega⟩)
    .exact .inr (.inr h)
   .have g1:=h3.1;have g2:=h3.2;exact .inr (.inl ⟨by omega,by omega⟩)
  have hFX:∀{T:Nat},T<=m+(zbS r+1)->∀n,st.nid<=n->¬ UX V base m T (fun _=>true) n:=by
   rintro T hT n hn' (h|⟨k,h0,h1,_,h3⟩)
   .exact hF n (by omega) h
   .have:=h3.2;omega
  have hmk:∀{gs:List (Nat×Foot)} {ss:List Step} {st0 st':St},(∀x∈gs,∀y∈gs,(¬ x.1<y.1\/x.1∈cl.getD y.1 [])\/x.2.apart y.2=true)->Trace C ops b base m ss gs st0 st'->Free C ops cl b base m ss st0:=by
   intro gs ss st0 st' hok htr;have hat:=zWw htr;refine ⟨fun i s hs=>?_,fun i k s s' o o' f f' hs hs' ho ho' h1 h2 hik hni=>?_⟩
   .obtain ⟨o,f,g1,g2,g3⟩:=hat i s hs;exact ⟨o,f,g1,g3⟩
   .obtain ⟨o1,f1,g1,g2,g3⟩:=hat i s hs;obtain ⟨o2,f2,e1,e2,e3⟩:=hat k s' hs';rw[ho] at g1;cases g1;rw[ho'] at e1;cases e1;have hf1:=zHd h1 g3;have hf2:=zHd h2 e3;subst hf1 hf2;rcases hok _ g2 _ e2 with (h|h)|h
    .exact absurd (by show m+i<m+k;omega) h
    .exact absurd h hni
    .exact h
  have hbelow:∀i,i<m->XL listed i=true:=fun i hi=>by rw[zsu (by omega),hl i (by omega)];simp[hi]
  have habove:∀k,m<=k->k<ops.size->XL listed k=false:=fun k h1 h2=>by rw[zsu (by omega),hl k h2];simp;omega
  rcases zrP (zbS r+1) m [] _ h with ⟨ss,gs,st',hlen,htr,hok,hden⟩|⟨ss,gs,st',oA,x,hlen,htr,hoA,hap,hbt,hlo,hxl,hok,hden⟩|⟨ss,gs,st',oA,hlen,htr,hoA,hcv,hlo,hlr,hok,hden⟩
  .rw [q9]at hok;unfold zlb at hok;simp only[jA,qM,jU,decide_eq_false_iff_not,jF,qU,vE]at hok;generalize hst0:({ st with ep:=if b then st.ep+1 else st.ep }:St)=st0 at htr hS0' hnid0 hd'
   have hfin:st'=zbf ops b (fun _=>true) m ss st0:=zD4 htr;refine z4y (w0:=w0) (S0:=S0) (sv:=sv) hC hH W (T:=m+1+zbS r) (by omega) hfr1 hfr3 (hmk hok htr) hb' hd' hM (fun fl l' E' ts' w' hsz' hl' hf' hS'=>?_) fuel listed E ts w hsz (zmQ W hsz hl) hbelow (fun k h1 h2=>habove k (by omega) h2) hf ?_
   .rw [<- hfin]at hS';have hnid':st'.nid=st.nid:=by rw[hfin,zu3,hnid0]
    exact zjo hC hH hG hN hcall W hU0 hk fs (m+(zbS r+1)) (r.drop (zbS r)) _ st' E' ts' w' fl l' (by rw[hfr2];congr 1;omega) (by omega) hsz' (fun i hi=>by rw[hl' i hi];congr 1;simp only[eq_iff_iff];omega) hf' hS' (hVX (by omega)) (by rw[hnid'];exact hFX (by omega)) (by omega) hden
   .rw [hoff];exact hS0'.uses (fun n h=>.inl h)
  .rw [q9]at hok;unfold zlb at hok;simp only[jA,qM,jU,decide_eq_false_iff_not,jF,qU,qI,vE]at hok;generalize hst0:({ st with ep:=if b then st.ep+1 else st.ep }:St)=st0 at htr hS0' hnid0 hd'
   have hfin:st'=zbf ops b (fun _=>true) m ss st0:=zD4 htr;subst hfin;have hA:m+ss.length=m+zbS r:=by omega
   rw[hA]at hoA hlo hok;have hat:=zWw htr;refine z4H (w0:=w0) (S0:=S0) (sv:=sv) hC hH W hA (by omega) (fun h=>by
    have e:m+zbS r+1=m+1+zbS r:=by omega
    rw[e]at h ⊢;exact hfr3 h) (hmk (fun x hx y hy=>hok x (.inr hx) y (.inr hy)) htr) (fun hb k h1 h2=>hb' hb k h1 (by omega)) hbt hd' (fun k h1 h2=>hM k h1 (by omega)) hoA hap hlo hxl (fun i s o f hs ho h1 hni=>?_)
    (fun fl l' E' ts' w' v hsz' hl' hf' hv hS' hL=>?_) fuel listed E ts w hsz (zmQ W hsz hl) hbelow (fun k h1 h2=>habove k (by omega) h2) hf ?_
   .obtain ⟨o1,f1,g1,g2,g3⟩:=hat i s hs;rw[ho] at g1;cases g1;have hf1:=zHd h1 g3;subst hf1;have hi:i<ss.length:=(qA.1 hs).1;rcases hok _ (.inr g2) _ (.inl rfl) with (h|h)|h
    .exact absurd (by show m+i<m+zbS r;omega) h
    .exact absurd h hni
    .exact h
   .have hnid':((zbf ops b (fun _=>true) m ss st0).put oA.dst (.v (.at .bad))).nid=st.nid:=by rw[zfj,zu3,hnid0]
    exact zxs hC W (fun m' r' U' st'' E'' ts'' w'' fl' l'' h1 h2 h3 h4 h5 h6 h7 h8 h9 h10=>zjo hC hH hG hN hcall W hU0 hk fs m' r' U' st'' E'' ts'' w'' fl' l'' h1 h2 h3 h4 h5 h6 h7 h8 h9 h10)
     (r.drop (zbS r)) (m+(zbS r+1)) _ _ E' ts' w' fl l' v (by rw[hfr2];congr 1;omega) (by omega) hsz' (fun i hi=>by rw[hl' i hi];congr 1) hf' hS' (hVX (by omega)) (by rw[hnid'];exact hFX (by omega)) (by omega) hv hL hden
   .rw [hoff];exact hS0'.uses (fun n h=>.inl h)
  .rw [q9]at hok;unfold zlb at hok;simp only[jA,qM,jU,decide_eq_false_iff_not,jF,qU,vE]at hok;generalize hst0:({ st with ep:=if b then st.ep+1 else st.ep }:St)=st0 at htr hS0' hnid0 hd'
   have hfin:st'=zbf ops b (fun _=>true) m ss st0:=zD4 htr;subst hfin;have hA:m+ss.length=m+zbS r:=by omega
   rw[hA]at hoA hlo hlr hden;refine z3E (w0:=w0) (S0:=S0) (sv:=sv) (V:=U) hC hH hG hN hcall W (by omega) hA (by omega) (fun h=>by
    have e:m+zbS r+1=m+1+zbS r:=by omega
    rw[e]at h ⊢;exact hfr3 h) (hmk hok htr) (fun hb k h1 h2=>hb' hb k h1 (by omega)) hd' (fun k h1 h2=>hM k h1 (by omega)) hoA hcv hlo hlr ?_ hU0 (by omega) (fun n hn'=>by rw[hnid0]at hn';exact hFX (by omega) n hn') hden
    (fun fl l' U' st'' E' ts' w' hsz' hl' hf' g1 g2 g3 g4 g5=>zjo hC hH hG hN hcall W hU0 hk fs (m+(zbS r+1)) (r.drop (zbS r)) U' st'' E' ts' w' fl l' (by rw[hfr2];congr 1;omega) (by omega) hsz' (fun i hi=>by rw[hl' i hi];congr 1) hf' g1 g2 g4 g3 g5)
    fuel listed E ts w hsz (zmQ W hsz hl) hbelow (fun k h1 h2=>habove k (by omega) h2) hf ?_
   .rintro n (h|⟨k,h0,h1,_,h3⟩)
    .rcases hV n h with h|⟨h1,h2⟩|h
     .exact .inl h
     .exact .inr (.inl ⟨h1,by omega⟩)
     .exact .inr (.inr h)
    .have g1:=h3.1;have g2:=h3.2;exact .inr (.inl ⟨by omega,by omega⟩)
   .rw [hoff];exact hS0'.uses (fun n h=>.inl h)
theorem z8b (hC:CfgOk C)(hH:CtrOk C)(hG:GraftOk C)(hN:NameOk C):DrawOk C:=by
 refine ⟨fun call hcall ops k ans Q w0 S0 sv U0 nid0 U st E ts w hk hS hU hF hn h t=>?_⟩;unfold zHw at h;simp only at h;generalize hcl:zhF ops (List.range ops.size) []=cl at h;split at h
 case isFalse=>cases h
 rename_i hok;unfold z1P at hok;simp only[qD,qM,kI,qU]at hok;obtain ⟨hdep,hlt⟩:=hok;have hatc:∀i,i<ops.size->cl.getD i []=waits ops (cl.take i) i:=fun i hi=>by rw[<- hcl];exact zZj hi
 have hord:∀(md:Region.Mode) (rk:Nat->Nat),zPc md ops rk=true->∃rk:Nat->Nat,∀(i:Nat) (o:Oper),ops[i]?=some o->∀e∈o.after,Region.binds md e=true->e.on<ops.size/\rk e.on<rk i:=by
  intro md rk h;refine ⟨rk,fun i o ho e he hb=>?_⟩;have:=qM.1 h i (kI.2 (qS.1 ho).1);rw[ho] at this;have:=qM.1 this e (by simpa using he)
  simpa [hb] using this
 have mkW:∀(md:Region.Mode),(∀e,Region.binds .any e=true->Region.binds md e=true)->(∃rk:Nat->Nat,∀(i:Nat) (o:Oper),ops[i]?=some o->∀e∈o.after,Region.binds md e=true->e.on<ops.size/\rk e.on<rk i)->Waits md ops cl :=
  fun md h1 h2=>⟨hatc,hlt,h1,h2⟩
 have hsubT:∀e,Region.binds .any e=true->Region.binds .text e=true:=fun e h=>by
  unfold Region.binds at *;cases hg:e.ground<;>rw [hg]at h<;>simp at h ⊢
 have hsubG:∀e,Region.binds .any e=true->Region.binds .gc e=true:=fun e h=>by
  unfold Region.binds at *;cases hg:e.ground<;>rw [hg]at h<;>simp at h ⊢
 have hmodes:∃md t',Region.schedule (C.P.follows .mixedOrders) ops t=Region.linearise md ops t'/\Waits md ops cl:=by
  have anyW:Waits .any ops cl:=mkW .any (fun _ h=>h) ⟨fun i=>i,fun i o ho e he hb=>by
   have h1:=z8d hatc ho he hb;have hi:=(qS.1 ho).1;have h2:=hlt i hi _ h1;exact ⟨by omega,h2⟩⟩
  unfold Region.schedule
  by_cases hm:(C.P.follows .mixedOrders || !Region.departs ops)=true
  .rw [if_pos hm];exact ⟨.any,t,rfl,anyW⟩
  .rw [if_neg hm];have hd:Region.departs ops=true:=by
    cases h:Region.departs ops with
    | true=>rfl
    | false=>rw[h]at hm;simp at hm
   rw[hd,cond_true,qD]at hdep
   by_cases ht:(t % 2==0)=true
   .rw [if_pos ht];exact ⟨.text,t / 2,rfl,mkW .text hsubT (hord .text _ hdep.1)⟩
   .rw [if_neg ht];exact ⟨.gc,t / 2,rfl,mkW .gc hsubG (hord .gc _ hdep.2)⟩
 obtain ⟨md,t',hsch,W⟩:=hmodes;rw[hsch];refine wpAny_sound ops.size t' _ _ _ ?_;have hS1:Sim w0 S0 U { st with nid:=st.nid+32*ops.size } E ts sv { w with drawn:=w.drawn+1 }:=(hS.nid _).heap (w':={ w with drawn:=w.drawn+1 }) rfl rfl rfl rfl;refine zjo hC hH hG hN hcall W hF (fun U' st' E' ts' w' hS' hU' hn' hF' h'=>hk U' st' E' ts' w' hS' ?_ (by omega) hF' h') (ops.size+1) 0 (zhh ops.size cl) U _ E ts _ ops.size _ rfl (by omega) (by simp) (fun i hi=>by simp[hi]) ?_ hS1 (fun n h=>.inl h) ?_ (qV _) h
 .intro n h;rcases hU' n h with h|⟨h1,_⟩|h
  .exact hU n h
  .exact .inr (by omega)
  .exact .inr (by omega)
 .unfold left;exact jD (List.countP_le_length) (by simp)
 .intro n hn' h;exact hF n (jD (uF _ _) hn') h
end
section
variable {P:Program}
def zWE:Value->CTy->Bool
 | .int k n,.i k'=>k==k'&&n==0
 | .bool b,.b=>!b
 | .slice none 0 0,.s _=>true
 | _,_=>false
def zzG:List Value->List CTy->Bool
 | [],[]=>true
 | v :: vs,t :: ts=>zWE v t&&zzG vs ts
 | _,_=>false
theorem z3w {v:Value}{t:CTy}(h:zWE v t=true):v=zeroV t:=by
 unfold zWE at h;split at h
 .simp only [qD,qK]at h;obtain ⟨rfl,rfl⟩:=h;rfl
 .simp only [jA]at h;subst h;rfl
 .rfl
 .cases h
theorem zHa:∀{vs:List Value} {ts:List CTy},zzG vs ts=true->vs=ts.map zeroV
 | [],[],_=>rfl
 | v :: vs,t :: ts,h=>by
  simp only[zzG,qD]at h;rw[jC,z3w h.1,zHa h.2]
 | [],_ :: _,h=>by cases h
 | _ :: _,[],h=>by cases h
def zCq (P:Program)(T:TypeId)(tys:List CTy):Bool :=
 match P.info? T with
 | some i=>i.size==tys.length&&(match i.zero with
  | some z=>zzG z.cells.toList tys
  | none=>false)
 | none=>false
theorem zCr {T:TypeId}{tys:List CTy}(h:zCq P T tys=true):∃i z,P.info? T=some i/\i.size=tys.length/\i.zero=some z/\z.cells.toList=tys.map zeroV:=by
 unfold zCq at h;split at h
 .rename_i i hi;simp only[qD,qK]at h;obtain ⟨h1,h2⟩:=h;split at h2
  .rename_i z hz;exact ⟨i,z,hi,h1,hz,zHa h2⟩
  .cases h2
 .cases h
def zn3 (P:Program)(T:TypeId):Bool :=
 (match zck P 4 T with
  | some (agg,tys)=>zCq P T tys&&(!agg||(match P.underlying T with
   | some (.struct fs)=>(fs.toList.mapM (fun f=>(P.info? f.type).map fun i=>(f.offset,i.size))).isSome
   | _=>false))
  | none=>true) &&
 (match P.underlying T with
  | some (.slice e)=>match zn zSW e with
   | some t=>zCq P e t.shape&&(match P.info? e with
    | some i=>decide (i.bytes<=1024)
    | none=>false)&&(match zck P 4 e with
    | some (_,tys)=>decide (tys=t.shape)
    | none=>false)
   | none=>true
  | _=>true)
def zu0 (P:Program):List Field->Nat->List CTy->Bool
 | [],_,[]=>true
 | f :: fs,off,ty :: tys=>f.name != "_" && f.offset==off&&(match P.underlying f.type,ty with
  | some (.int k),.i k'=>k==k'
  | some .bool,.b=>true
  | _,_=>false)&&zu0 P fs (off+1) tys
 | _,_,_=>false
def zSH (P:Program)(T:TypeId):Bool :=
 match zck P 4 T with
 | some (true,tys)=>!P.stoodInHeld T && !P.eqGuardType P.depth T&&(match P.underlying T with
  | some (.struct fs)=>zu0 P fs.toList 0 tys
  | _=>false)
 | _=>true
theorem zSG {n:Nat}{T:TypeId}{agg:Bool}{tys:List CTy}(h:zck P n T=some (agg,tys)) :
 (∃d,P.underlying T=some d/\zT3 d=agg/\(∀k,tys=[.i k]->agg=false->d = .int k)/\(tys=[.b]->agg=false->d = .bool))/\(agg=false->tys.length=1):=by
 cases n with
 | zero=>cases h
 | succ n =>
  simp only[zck]at h;split at h
  .rename_i k hu;cases h;exact ⟨⟨_,hu,rfl,fun k' h _=>by simp only[List.cons.injEq,CTy.i.injEq,and_true]at h;rw[h],fun h=>by simp at h⟩,fun _=>rfl⟩
  .rename_i hu;cases h;exact ⟨⟨_,hu,rfl,fun k' h=>by simp at h,fun _ _=>rfl⟩,fun _=>rfl⟩
  .rename_i e hu;split at h
   .cases h;exact ⟨⟨_,hu,rfl,fun k' h=>by simp at h,fun h=>by simp at h⟩,fun _=>rfl⟩
   .cases h
  .rename_i fs hu;split at h
   .cases h;exact ⟨⟨_,hu,rfl,fun k' _ h=>(by cases h),fun _ h=>(by cases h)⟩,fun h=>by cases h⟩
   .cases h
  .cases h
theorem zJ6 {α:Type}{T:Nat}{x:Option α}{y:α}(h:below T x=some y):T<zfZ/\x=some y:=by
 unfold below at h;cases hb:Nat.blt T zfZ with
 | false=>rw[hb]at h;cases h
 | true =>
  rw[hb]at h;exact ⟨by rwa [vB]at hb,h⟩
theorem mapM_at {α β:Type}{g:α->Option β}:∀{l:List α} {m:List β},l.mapM g=some m->∀{k:Nat} {x:α},l[k]?=some x->m[k]?=g x
 | [],m,h,k,x,hx=>by simp at hx
 | a :: l,m,h,k,x,hx=>by
  simp only[u4,Option.bind_eq_bind,uT,Option.pure_def,qC]at h;obtain ⟨b,hb,m',hm',rfl⟩:=h;cases k with
  | zero =>
   simp only[qH,qC]at hx;subst hx;rw[hb];rfl
  | succ k=>exact mapM_at hm' (by simpa using hx)
theorem zgJ {α β:Type}{f:α->Option β}{a:α}{l:List α}{bs:List β}(h:zcC f (a :: l)=some bs):∃b bs',f a=some b/\zcC f l=some bs'/\bs=b :: bs':=by
 simp only[zcC]at h;split at h
 .rename_i b hb;split at h
  .rename_i bs' hbs;cases h;exact ⟨b,bs',hb,hbs,rfl⟩
  .cases h
 .cases h
theorem zGi (w:World)(d:Nat)(xs ys:Array Value):∀(fs:List Field) (off:Nat) (tys:List CTy) (l m:List At) (e:Bool),zu0 P fs off tys=true->zcC zn2 l=some tys->zcC zn2 m=some tys->zuT l m=some e ->
 xs.size=off+l.length->ys.size=off+m.length->(∀(j:Nat) (a:At) (u:Value),l[j]?=some a->xs[off+j]?=some u->VS a u)->(∀(j:Nat) (a:At) (u:Value),m[j]?=some a->ys[off+j]?=some u->VS a u) ->
 (Op.eqFields (d+1) xs ys fs).run P w = .ok e w
 | [],off,tys,l,m,e,hf,hl,hm,he,_,_,_,_=>by
  cases tys with
  | cons t ts=>cases hf
  | nil =>
   cases l with
   | cons a l=>obtain ⟨_,_,_,_,h⟩:=zgJ hl;cases h
   | nil =>
    cases m with
    | cons a m=>obtain ⟨_,_,_,_,h⟩:=zgJ hm;cases h
    | nil=>cases he;simp[Op.eqFields]
 | f :: fs,off,tys,l,m,e,hf,hl,hm,he,hsx,hsy,hx,hy=>by
  cases tys with
  | nil=>cases hf
  | cons ty tys =>
   cases l with
   | nil=>cases hl
   | cons a l =>
    cases m with
    | nil=>cases hm
    | cons c m =>
     obtain ⟨ta,tys',ha,hl',h⟩:=zgJ hl;cases h;obtain ⟨tc,tys'',hc,hm',h⟩:=zgJ hm;cases h;simp only[zu0,qD,bne_iff_ne,ne_eq,qK]at hf;obtain ⟨⟨⟨hn,hoff⟩,hk⟩,hrest⟩:=hf;have hxo:xs[off]?=some (xs[off]'(by simp only[qW]at hsx;omega)):=by simp
     have hyo:ys[off]?=some (ys[off]'(by simp only[qW]at hsy;omega)):=by simp
     have hvx:=hx 0 a _ rfl hxo;have hvy:=hy 0 c _ rfl hyo;have hstep:∃e0,zTf a c=some e0/\(part f.type xs f.offset).run P w = .ok (xs[off]'(by simp only[qW]at hsx;omega)) w/\(part f.type ys f.offset).run P w = .ok (ys[off]'(by simp only[qW]at hsy;omega)) w /\
      (Op.equalIn (d+1) f.type (xs[off]'(by simp only[qW]at hsx;omega)) (ys[off]'(by simp only[qW]at hsy;omega))).run P w = .ok e0 w:=by
      rw[hoff];cases a with
      | i k n =>
       simp only[zn2,qC]at ha;subst ha;cases c with
       | i k' n' =>
        simp only[zn2,qC,CTy.i.injEq]at hc;subst hc;cases hu:P.underlying f.type with
        | none=>rw[hu]at hk;cases hk
        | some D =>
         rw[hu]at hk;cases D<;>first|(cases hk;done)|skip
         refine ⟨ieq n n',by simp[zTf],by simp[part,isAgg,run_underlying hu,hxo],by simp[part,isAgg,run_underlying hu,hyo],?_⟩
         rw[show xs[off]'(by simp only[qW]at hsx;omega) = .int k' n from hvx,show ys[off]'(by simp only[qW]at hsy;omega) = .int k' n' from hvy]
         exact run_equalIn_int w d f.type k' _ n n' hu
       | b _=>simp[zn2]at hc
       | _=>simp[zn2]at hc
      | b x =>
       simp only[zn2,qC]at ha;subst ha;cases c with
       | b x' =>
        cases hu:P.underlying f.type with
        | none=>rw[hu]at hk;cases hk
        | some D =>
         rw[hu]at hk;cases D<;>first|(cases hk;done)|skip
         refine ⟨ziX x x',by simp[zTf],by simp[part,isAgg,run_underlying hu,hxo],by simp[part,isAgg,run_underlying hu,hyo],?_⟩
         rw[show xs[off]'(by simp only[qW]at hsx;omega) = .bool x from hvx,show ys[off]'(by simp only[qW]at hsy;omega) = .bool x' from hvy]
         exact run_equalIn_bool' w d f.type x x' hu
       | i _ _=>simp[zn2]at hc
       | _=>simp[zn2]at hc
      | _=>simp[zn2]at ha
     obtain ⟨e0,he0,hp1,hp2,heq⟩:=hstep;have hcomb:∃e1,zuT l m=some e1/\e=(e0&&e1):=by
      cases l with
      | nil =>
       cases hl';cases m with
       | nil =>
        simp only[zuT,he0,qC]at he;exact ⟨true,rfl,by rw[<- he];simp⟩
       | cons c2 m=>obtain ⟨_,_,_,_,h⟩:=zgJ hm';cases h
      | cons a2 l =>
       cases m with
       | nil=>cases hm';obtain ⟨_,_,_,_,h⟩:=zgJ hl';cases h
       | cons c2 m =>
        simp only[zuT,he0]at he;split at he
        .rename_i x y h1 h2;cases h1;cases he;exact ⟨y,by simpa [zuT] using h2,rfl⟩
        .cases he
     obtain ⟨e1,he1,rfl⟩:=hcomb;have ih:=zGi w d xs ys fs (off+1) tys l m e1 hrest hl' hm' he1 (by simp only[qW]at hsx;omega) (by simp only[qW]at hsy;omega)
      (fun j a' u h1 h2=>hx (j+1) a' u (by simpa using h1) (by rw[<- h2];congr 1;omega)) (fun j a' u h1 h2=>hy (j+1) a' u (by simpa using h1) (by rw[<- h2];congr 1;omega))
     simp only[Op.eqFields,ne_eq,hn,not_false_eq_true,if_true,Sem.run_bind,hp1,hp2,Result.andThen_ok,heq,Sem.run_ite,ih];cases e0<;>simp
theorem z3G {C:Cfg}(hP:C.P=P)(hs:∀T,C.sty T=below T (zv5 P T))(hc:∀T,C.cty T=below T (zck P 4 T))(hf:∀T f,C.fof T f=ztA P T f)(hchk:(List.range zfZ).all (zn3 P)=true)(heq:∀T,C.eqt T=true->T<zfZ->zSH P T=true):CfgOk C:=by
 subst hP;have chk:∀T,T<zfZ->zn3 C.P T=true:=fun T hT=>qM.1 hchk T (kI.2 hT);have hcty:∀T agg tys,C.cty T=some (agg,tys)->T<zfZ/\zck C.P 4 T=some (agg,tys):=fun T agg tys h=>zJ6 (by rw[<- hc];exact h)
 refine ⟨fun T agg tys h=>?_,fun T t h=>?_,fun T f off n h=>?_,fun T tys h=>?_,fun T tys he h l m e xs ys w x y op hl hm hq hxs hys=>?_⟩
 .obtain ⟨hT,h⟩:=hcty T agg tys h;obtain ⟨h1,h2⟩:=zSG h;have:=chk T hT;unfold zn3 at this;rw[h] at this;simp only[qD] at this;exact ⟨h1,zCr this.1.1,h2⟩
 .rw [hs]at h;obtain ⟨hT,h⟩:=zJ6 h;unfold zv5 at h;split at h
  .rename_i e hu;have:=chk T hT;unfold zn3 at this;rw[hu] at this;simp only[h,qD] at this;obtain ⟨_,⟨h1,h2⟩,_⟩:=this;obtain ⟨i,z,g1,g2,g3,g4⟩:=zCr h1;rw[g1]at h2;exact ⟨e,hu,i,z,g1,by rw[g2,zer],g3,g4,by simpa using h2⟩
  .cases h
 .rw [hf]at h;unfold ztA at h;split at h
  .rename_i fs hu;split at h
   .rename_i x hx;split at h
    .rename_i i hi;split at h
     .cases h
     .rename_i hne;cases h;exact ⟨fs,x,i,hu,hx,rfl,hi,rfl,hne⟩
    .cases h
   .cases h
  .cases h
 .obtain ⟨hT,h⟩:=hcty T true tys h;have:=chk T hT;unfold zn3 at this;rw[h] at this;simp only[qD,jU,kB,kA,false_or] at this;obtain ⟨⟨_,h2⟩,_⟩:=this;split at h2
  .rename_i fs hu;obtain ⟨places,hp⟩:=uR.1 h2;refine ⟨fs,places,hu,hp,fun f off n hfo=>?_⟩;rw[hf]at hfo;unfold ztA at hfo;rw[hu]at hfo;simp only at hfo;split at hfo
   .rename_i x hx;split at hfo
    .rename_i i hi;split at hfo
     .cases hfo
     .cases hfo;rw[mapM_at hp (by simpa using hx),hi]
      rfl
    .cases hfo
   .cases hfo
  .cases h2
 .obtain ⟨hT,h⟩:=hcty T true tys h;have:=heq T he hT;unfold zSH at this;rw[h] at this;simp only[qD,jA] at this;obtain ⟨⟨h1,h2⟩,h3⟩:=this;split at h3
  .rename_i fs hu;have hfe:C.P.fieldsOf T=fs:=by simp[Program.fieldsOf,hu]
   refine ⟨run_eqGuard_agg w op T x y xs ys h2,?_⟩
   show (Op.equalIn (9999+1) T (.agg xs) (.agg ys)).run C.P w=_
   rw[run_equalIn_struct w 9999 T xs ys (by rw[hfe];exact hu) h1,hfe]
   exact zGi w 9998 xs ys fs.toList 0 tys l m e h3 hl hm hq (by rw[hxs.1];omega) (by rw[hys.1];omega) (fun j a u h1 h2=>hxs.2 j a u h1 (by simpa using h2)) (fun j a u h1 h2=>hys.2 j a u h1 (by simpa using h2))
  .cases h3
end
inductive CVOk:CV->Prop
 | i (k:IntKind) (n:Int) (h:k.min<=n/\n<=k.max):CVOk (.i k n)
 | b (x:Bool):CVOk (.b x)
 | s (t:Ty) (l:List t.den) (hl:l.length<=big) (h:∀(i:Nat) (x:t.den),l[i]?=some x->∀(j:Nat) (c:CV),(t.cells x)[j]?=some c->CVOk c):CVOk (.s t l)
section
variable {P:Program}
def zxw (P:Program)(tot:Nat):List Field->Nat->Bool
 | [],off=>off==tot
 | f :: fs,off=>f.offset==off&&Nat.blt f.type zfZ&&zxw P tot fs (off+P.cellsOf f.type)
def zys (P:Program)(T:TypeId):Bool :=
 match P.underlying T with
 | some (.struct fs)=>match zck P 4 T with
  | some _=>zxw P (P.cellsOf T) fs.toList 0
  | none=>true
 | some (.slice e)=>match zn zSW e with
  | some _=>Nat.blt e zfZ&&Nat.ble 1 (P.bytesOf e)
  | none=>true
 | _=>true
theorem zGt {α β:Type}{f g:α->Option β}(hfg:∀x y,f x=some y->g x=some y):∀{l:List α} {bs:List β},zcC f l=some bs->zcC g l=some bs
 | [],_,h=>h
 | a :: l,bs,h=>by
  obtain ⟨b,bs',h1,h2,rfl⟩:=zgJ h;simp only[zcC,hfg a b h1,zGt hfg h2]
theorem zyl:∀{n:Nat} {T:TypeId} {x:Bool×List CTy},zck P n T=some x->zck P (n+1) T=some x
 | 0,_,_,h=>by cases h
 | n+1,T,x,h=>by
  rw[zck]at h;rw[zck];split at h
  .exact h
  .exact h
  .exact h
  .rename_i fs hu;split at h
   .rename_i l hl;rw[zGt (f:=_) (g:=_) ?_ hl]
    .exact h
    .intro f y hy;split at hy
     .rename_i z hz;cases hy;rw[zyl hz]
     .cases hy
   .cases h
  .cases h
theorem zWL {T:TypeId}{tys:List CTy}(h:zCq P T tys=true):P.cellsOf T=tys.length:=by
 obtain ⟨i,z,h1,h2,_⟩:=zCr h;simp[Program.cellsOf,h1,h2]
theorem z5G {k:IntKind}{n:Int}(h:(Lit.int k n).wf=true):k.min<=n/\n<=k.max:=by
 simpa [Lit.wf] using h
theorem all_append {l m:List Nat}(h:(l++m).all (·<=reachBytes)=true):l.all (·<=reachBytes)=true/\m.all (·<=reachBytes)=true:=by
 simpa [List.all_append] using h
theorem zAU {H:Type}{e:TypeId}:∀{l:List (DataW H)},(DataW.weightsAll P e l).all (·<=reachBytes)=true->∀{i:Nat} {d:DataW H},l[i]?=some d->(d.weights P e).all (·<=reachBytes)=true
 | [],_,i,d,h=>by simp at h
 | x :: l,hw,i,d,h=>by
  simp only[DataW.weightsAll]at hw;obtain ⟨h1,h2⟩:=all_append hw;cases i with
  | zero=>simp at h;subst h;exact h1
  | succ i=>exact zAU h2 (by simpa using h)
def Opened (W:World)(cs:List Value)(tys:List CTy):Prop :=
 ∃cvs:List CV,cvs.map CV.ty=tys/\cs.length=cvs.length/\∀(j:Nat) (c:CV) (u:Value),cvs[j]?=some c->cs[j]?=some u->Rep false W u c (fun b=>b<W.heap.size)/\CVOk c
theorem Opened.append {W:World}{cs ds:List Value}{t1 t2:List CTy}(h1:Opened W cs t1)(h2:Opened W ds t2):Opened W (cs++ds) (t1++t2):=by
 obtain ⟨c1,a1,b1,d1⟩:=h1;obtain ⟨c2,a2,b2,d2⟩:=h2;refine ⟨c1++c2,by simp[a1,a2],by simp[b1,b2],fun j c u hc hu=>?_⟩
 by_cases hj:j<c1.length
 .rw [qT hj]at hc;rw[qT (by omega)]at hu
  exact d1 j c u hc hu
 .rw [qO (by omega)]at hc
  rw[qO (by omega)]at hu
  exact d2 _ c u hc (by rw[<- b1];exact hu)
theorem zJ9 {α:Type}:∀(n:Nat) (p:Nat->α->Prop),(∀i,i<n->∃x,p i x)->∃l:List α,l.length=n/\∀i x,l[i]?=some x->p i x
 | 0,p,_=>⟨[],rfl,fun i x h=>by simp at h⟩
 | n+1,p,h=>by
  obtain ⟨x,hx⟩:=h 0 (by omega)
  obtain ⟨l,h1,h2⟩:=zJ9 n (fun i=>p (i+1)) (fun i hi=>h (i+1) (by omega))
  refine ⟨x :: l,by simp[h1],fun i y hy=>?_⟩
  cases i with
  | zero=>simp at hy;subst hy;exact hx
  | succ i=>exact h2 i y (by simpa using hy)
theorem cells?_get {W:World}{a:Addr}{n:Nat}{cs:List Value}(h:W.cells? 0 a n=some cs):cs.length=n/\∀i,i<n->W.cell? (a.add i)=cs[i]?:=by
 unfold World.cells? at h;rw[if_pos (jV _)]at h;refine ⟨by simpa using mapM_some_length h,fun i hi=>mapM_some_get h i i (by simp[hi])⟩
theorem addr_add (a:Addr)(h:a.spot=none)(n m:Nat):(a.add n).add m=⟨a.block,a.off+n+m,none⟩:=by
 obtain ⟨b,o,s⟩:=a;simp only at h;subst h;rw[add_lit,add_lit]
theorem z0i (hchk:∀T,T<zfZ->zn3 P T=true/\zys P T=true){H:Type}{enc:TypeId×Value->H}{W:World} :
 ∀(fuel:Nat) (T:TypeId) (cs:List Value) (x:DataW H×List MemPlace),T<zfZ->∀(agg:Bool) (tys:List CTy),zck P 4 T=some (agg,tys) ->
  DataW.trod enc P W 0 (fun _=>true) true fuel T cs=some x->(x.1.weights P T).all (·<=reachBytes)=true->Opened W cs tys:=by
 intro fuel
 induction fuel using Nat.strongRecOn with
 | _ fuel ih =>
  intro T cs x hT agg tys hty hx hw;obtain ⟨hc1,hc2⟩:=hchk T hT;have hty0:=hty;rw[zck]at hty;split at hty
  .rename_i k hu;cases hty;obtain ⟨n,rfl,rfl,hwf⟩:=DataW.trod_int hu hx;refine ⟨[.i k n],rfl,rfl,fun j c u hc hu'=>?_⟩;cases j with
   | zero=>simp at hc hu';subst hc hu';exact ⟨.i k n _,.i k n (z5G hwf)⟩
   | succ j=>simp at hc
  .rename_i hu;cases hty;obtain ⟨b,rfl,rfl⟩:=DataW.trod_bool hu hx;refine ⟨[.b b],rfl,rfl,fun j c u hc hu'=>?_⟩;cases j with
   | zero=>simp at hc hu';subst hc hu';exact ⟨.b b _,.b b⟩
   | succ j=>simp at hc
  .rename_i e hu;split at hty
   .rename_i t het;cases hty;have fin:∀(v:Value) (l:List t.den),Rep false W v (.s t l) (fun b=>b<W.heap.size)->CVOk (.s t l)->Opened W [v] [.s t]:=by
     intro v l h1 h2;refine ⟨[.s t l],rfl,rfl,fun j c u hc hu'=>?_⟩;cases j with
     | zero=>simp at hc hu';subst hc hu';exact ⟨h1,h2⟩
     | succ j=>simp at hc
    have empty:CVOk (.s t []):=.s t [] (jV _) (fun i x h=>by simp at h)
    rcases DataW.trod_slice hu hx with ⟨rfl,rfl⟩|⟨a,len,cap,elems,rest,n,rfl,rfl,rfl,_,hlc,hcm,hel,hget,hsp,_⟩
    .exact fin _ [] (.nil t _) empty
    .obtain ⟨hrl,hrget⟩:=hsp rfl
     by_cases hcap:cap=0
     .subst hcap;have hl0:len=0:=by omega
      subst hl0;exact fin _ [] (.void t a _ rfl) empty
     .unfold zn3 at hc1;rw[hu]at hc1;simp only[het,qD]at hc1;obtain ⟨_,⟨hinfo,_⟩,hec⟩:=hc1;unfold zys at hc2;rw[hu]at hc2;simp only[het,qD,vB,Nat.ble_eq]at hc2;obtain ⟨he,hby⟩:=hc2;have hce:P.cellsOf e=t.width:=by rw[zWL hinfo,zer]
      have hwpos:0<t.width:=by cases t<;>simp [Ty.width]
      rw[hce]at hget hrget
      have helem:∀i,i<cap->∃cs',W.cells? 0 (a.add (i*t.width)) t.width=some cs'/\(i<len->∃y,DataW.trod enc P W 0 (fun _=>true) true n e cs'=some y/\elems[i]?=some y):=by
       intro i hi
       by_cases hil:i<len
       .have h1:=hget i hil;rw[qB (by omega)]at h1
        obtain ⟨cs',h2,h3⟩:=uT.1 h1;exact ⟨cs',h2,fun _=>⟨_,h3,qB (by omega)⟩⟩
       .have h1:=hrget (i-len) (by omega)
        rw[qB (by omega)]at h1
        obtain ⟨cs',h2,h3⟩:=uT.1 h1;have e1:len+(i-len)=i:=by omega
        rw[e1]at h2;exact ⟨cs',h2,fun h=>absurd h hil⟩
      have hcell:∀i j,i<cap->j<t.width->∃v,W.cell? ((a.add (i*t.width)).add j)=some v:=by
       intro i j hi hj;obtain ⟨cs',h1,_⟩:=helem i hi;obtain ⟨h2,h3⟩:=cells?_get h1;exact ⟨_,(h3 j hj).trans (qB (by omega))⟩
      obtain ⟨v0,hv0⟩:=hcell 0 0 (by omega) hwpos
      have hadd0:(a.add (0*t.width)).add 0=a:=by simp[Addr.add]
      rw[hadd0]at hv0;obtain ⟨arr,et,fz,hb,hspot⟩:∃arr et fz,W.heap[a.block]?=some (.cells arr et fz)/\a.spot=none:=by
       unfold World.cell? at hv0;split at hv0
       .rename_i c et fz hb;split at hv0
        .cases hv0
        .rename_i hs;exact ⟨c,et,fz,hb,by simpa using hs⟩
       .cases hv0
      have hcarr:∀i j,W.cell? ((a.add (i*t.width)).add j)=arr[a.off+i*t.width+j]?:=by
       intro i j;rw[addr_add a hspot,cell_of_block hb]
      have hsize:a.off+cap*t.width<=arr.size:=by
       obtain ⟨v,hv⟩:=hcell (cap-1) (t.width-1) (by omega) (by omega)
       rw[hcarr]at hv;have:=(qS.1 hv).1;have h1:(cap-1)*t.width+t.width=cap*t.width:=by
        rw[<- jJ];congr 1;omega
       omega
      have hwl:((DataW.slice (elems.map (·.1)) (rest.map (·.1))).weights P T).all (·<=reachBytes)=true:=hw;simp only[DataW.weights,hu,uI,qD,qU,uN]at hwl;obtain ⟨hbytes,hwe⟩:=hwl;obtain ⟨hwe,_⟩:=all_append hwe;have hlen:len<=big:=by
       have h1:(elems.length+rest.length)*1<=(elems.length+rest.length)*P.bytesOf e:=Nat.mul_le_mul_left _ hby;have:reachBytes<=big:=by decide
       omega
      split at hec
      .rename_i agg' tys' hte;simp only[qU]at hec;subst hec
       have hex:∀i,i<len->∃y:t.den,∀(j:Nat) (c:CV) (u:Value),(t.cells y)[j]?=some c->arr[a.off+i*t.width+j]?=some u->Rep false W u c (fun b=>b<W.heap.size)/\CVOk c:=by
        intro i hi;obtain ⟨cs',h1,h2⟩:=helem i (by omega)
        obtain ⟨y,h3,h4⟩:=h2 hi;obtain ⟨cvs,g1,g2,g3⟩:=ih n (by omega) e cs' y he agg' t.shape hte h3 (zAU hwe (by rw[qN,h4];rfl))
        obtain ⟨z,hz⟩:=zL1 g1;refine ⟨z,fun j c u hc hu'=>g3 j c u ?_ ?_⟩
        .rw [<- zjw hz];exact hc
        .obtain ⟨k1,k2⟩:=cells?_get h1;have hj:j<t.width:=by have:=(qA.1 hc).1;rwa [zc2] at this
         rw[<- k2 j hj,hcarr];exact hu'
       obtain ⟨l,hl1,hl2⟩:=zJ9 len _ hex;have hvv:∀i j,i<l.length->j<t.width->arr[a.off+i*t.width+j]?=some ((arr[a.off+i*t.width+j]?).getD undef):=by
        intro i j hi hj;have h1:(i+1)*t.width<=cap*t.width:=qR _ (by omega)
        rw[jJ]at h1;have:a.off+i*t.width+j<arr.size:=by omega
        simp[this]
       have hrep:Rep false W (.slice (some ⟨a.block,a.off,none⟩) l.length cap) (.s t l) (fun b=>b<W.heap.size):=by
        refine .sl t l a.block a.off cap arr et fz (fun i j=>(arr[a.off+i*t.width+j]?).getD undef) (fun _ _ b=>b<W.heap.size) _ hb (fun h=>by cases h) (by omega) (by omega) hsize ?_ (fun i j x _ _ hx=>⟨hx,fun h=>by cases h⟩) (fun h=>by cases h) hvv ?_
        .exact (qS.1 hb).1
        .intro i z hz j c hc;have hi:i<l.length:=(qA.1 hz).1;have hj:j<t.width:=by have:=(qA.1 hc).1;rwa [zc2] at this
         exact (hl2 i z hz j c _ hc (hvv i j hi hj)).1
       have ha:a=⟨a.block,a.off,none⟩:=by
        obtain ⟨b,o,s⟩:=a;simp only at hspot;subst hspot;rfl
       rw[hl1,<- ha]at hrep;refine fin _ l hrep (.s t l (by omega) (fun i z hz j c hc=>?_))
       have hi:i<l.length:=(qA.1 hz).1;have hj:j<t.width:=by have:=(qA.1 hc).1;rwa [zc2] at this
       exact (hl2 i z hz j c _ hc (hvv i j hi hj)).2
      .cases hec
   .cases hty
  .rename_i fs hu;split at hty
   .rename_i l hl;cases hty;obtain ⟨xs,n,rfl,rfl,hcl,hxl,hfld⟩:=DataW.trod_struct hu hx;unfold zys at hc2;rw[hu,hty0]at hc2;simp only at hc2;have hww:(DataW.weightsEach P (fs.toList.map (·.type)) (xs.map (·.1))).all (·<=reachBytes)=true:=by
     have:((DataW.agg (xs.map (·.1))).weights P T).all (·<=reachBytes)=true:=hw;simpa only [DataW.weights,hu] using this
    have key:∀(gs:List Field) (ys:List (DataW H×List MemPlace)) (ls:List (List CTy)) (off:Nat),zxw P (P.cellsOf T) gs off=true->gs.length=ys.length ->
     (∀(i:Nat) (f:Field),gs[i]?=some f->DataW.trod enc P W 0 (fun _=>true) true n f.type ((cs.drop f.offset).take (P.cellsOf f.type))=ys[i]?) ->
     zcC (fun (f:Field)=>match zck P 3 f.type with|some x=>some x.2|none=>none) gs=some ls->(DataW.weightsEach P (gs.map (·.type)) (ys.map (·.1))).all (·<=reachBytes)=true ->
     off<=P.cellsOf T/\Opened W (cs.drop off) ls.flatten:=by
     intro gs
     induction gs with
     | nil =>
      intro ys ls off ho _ _ hls _;cases hls;simp only[zxw,qK]at ho;subst ho;refine ⟨qV _,[],rfl,by simp[hcl],fun j c u h=>by simp at h⟩
     | cons f gs ihg =>
      intro ys ls off ho hlen hf hls hwt;obtain ⟨b,ls',hb1,hb2,rfl⟩:=zgJ hls;cases ys with
      | nil=>simp at hlen
      | cons y ys =>
       simp only[zxw,qD,qK,vB]at ho;obtain ⟨⟨ho1,ho2⟩,ho3⟩:=ho;split at hb1
       .rename_i z hz;cases hb1;obtain ⟨agg',tys'⟩:=z;have hy:=hf 0 f rfl;simp only[qH]at hy;simp only[jC,DataW.weightsEach]at hwt;obtain ⟨hw1,hw2⟩:=all_append hwt;have h4:=zyl hz;obtain ⟨g1,g2⟩:=ihg ys ls' (off+P.cellsOf f.type) ho3 (by simpa using hlen) (fun i g hg=>by simpa using hf (i+1) g (by simpa using hg)) hb2 hw2
        have o1:=ih n (by omega) f.type _ y ho2 agg' tys' h4 hy hw1
        rw[ho1] at o1;refine ⟨by omega,?_⟩
        have e1:cs.drop off=(cs.drop off).take (P.cellsOf f.type)++cs.drop (off+P.cellsOf f.type):=by
         rw[<- List.drop_drop,List.take_append_drop]
        rw[e1];exact Opened.append o1 g2
       .cases hb1
    have:=(key fs.toList xs l 0 hc2 (by simp[hxl]) (fun i f hf=>hfld i f (by simpa using hf)) hl hww).2
    simpa using this
   .cases hty
  .cases hty
end
theorem zYi:(List.range zfZ).all (zn3 Tryz.prog)=true:=by kernel_rfl
theorem z9d:zEg.all (fun T=>!Nat.blt T zfZ||zSH Tryz.prog T)=true:=by kernel_rfl
theorem z3I:Tryz.prog.funcs.toList.all (fun fn=>!(fn.name == "runtime.NumGoroutine"))=true:=by kernel_rfl
theorem z7E (T:TypeId)(h0:zEg.contains T=true)(hT:T<zfZ):zSH Tryz.prog T=true:=by
 have h1:T∈zEg:=by
  revert h0
  generalize zEg=l;intro h0;simpa using h0
 have hb:Nat.blt T zfZ=true:=by rw[vB];exact hT
 have h2:=qM.1 z9d T h1;rw[hb,kB,Bool.false_or]at h2;exact h2
theorem z9b (ctr:FuncId->Option (List AV->Option (Bool×List AV)))(mct:FuncId->Option (CV->Int->Option (Bool×CV×Int)))(pct:FuncId->Option (List Bool×(List CV->List AV->Option (Bool×List CV×List AV))))(tct:FuncId->Option (List Bool×Option (Nat×Nat×List (List Nat))×(List AV->Option (Bool×List AV)))):CfgOk (zlY ctr mct pct tct):=by
 have h1:(zlY ctr mct pct tct).P=Tryz.prog:=by simp only[zlY]
 have h2:∀T,(zlY ctr mct pct tct).sty T=below T (zv5 Tryz.prog T):=fun _=>by simp only[zlY]
 have h3:∀T,(zlY ctr mct pct tct).cty T=below T (zck Tryz.prog 4 T):=fun _=>by simp only[zlY]
 have h4:∀T f,(zlY ctr mct pct tct).fof T f=ztA Tryz.prog T f:=fun _ _=>by simp only[zlY]
 have h5:∀T,(zlY ctr mct pct tct).eqt T=zEg.contains T:=fun _=>by simp only[zlY]
 refine z3G h1 h2 h3 h4 zYi ?_;intro T h hT;rw[h5]at h;exact z7E T h hT
theorem z8z (ctr:FuncId->Option (List AV->Option (Bool×List AV)))(mct:FuncId->Option (CV->Int->Option (Bool×CV×Int)))(pct:FuncId->Option (List Bool×(List CV->List AV->Option (Bool×List CV×List AV))))(tct:FuncId->Option (List Bool×Option (Nat×Nat×List (List Nat))×(List AV->Option (Bool×List AV)))):NameOk (zlY ctr mct pct tct):=by
 refine ⟨fun f fn hf=>?_⟩;have:=qM.1 z3I fn (by
  have:Tryz.prog.funcs[f]?=some fn:=hf;rw[<- kQ] at this;exact qL this)
 simpa using this
theorem zc7 {ctr:FuncId->Option (List AV->Option (Bool×List AV))}{mct:FuncId->Option (CV->Int->Option (Bool×CV×Int))}{pct:FuncId->Option (List Bool×(List CV->List AV->Option (Bool×List CV×List AV)))}{tct:FuncId->Option (List Bool×Option (Nat×Nat×List (List Nat))×(List AV->Option (Bool×List AV)))}(h:∀f run,ctr f=some run->Holds Tryz.prog f run)(hm:∀f run,mct f=some run->zJZ Tryz.prog f run)(hp:∀f own run,pct f=some (own,run)->zdJ Tryz.prog f own run)(ht:∀f own inp run,tct f=some (own,inp,run)->zdY Tryz.prog f own inp run):EngOk (zlY ctr mct pct tct):=by
 have hC:=z9b ctr mct pct tct;have hH:CtrOk (zlY ctr mct pct tct):=⟨h,fun f inp run hf=>ht f [] inp run hf⟩;have hG:=z4B hC ⟨hm⟩ ⟨hp⟩ ⟨ht⟩;have hN:=z8z ctr mct pct tct;exact ⟨hC,hH,hG,hN,z8b hC hH hG hN⟩
section
open Go Go.ChangeShapes Go.WideShapes Go.ChangeAt
def AV.sh:AV->Bool×List CTy
 | .one c=>(false,[c.ty])
 | .agg l=>(true,l.map CV.ty)
section
variable {P:Program}
theorem zPz {T:TypeId}{agg:Bool}{tys:List CTy}(h:zck P 4 T=some (agg,tys)) :
 (agg=true/\∃fs,P.underlying T=some (.struct fs))\/(agg=false/\tys.length=1/\((∃k,P.underlying T=some (.int k))\/P.underlying T=some .bool\/∃e,P.underlying T=some (.slice e))):=by
 rw[zck]at h;split at h
 .rename_i k hu;cases h;exact .inr ⟨rfl,rfl,.inl ⟨k,hu⟩⟩
 .rename_i hu;cases h;exact .inr ⟨rfl,rfl,.inr (.inl hu)⟩
 .rename_i e hu;split at h
  .cases h;exact .inr ⟨rfl,rfl,.inr (.inr ⟨e,hu⟩)⟩
  .cases h
 .rename_i fs hu;split at h
  .cases h;exact .inl ⟨rfl,fs,hu⟩
  .cases h
 .cases h
theorem z2D {W:World}{T:TypeId}{v:Value}{base:Nat}(hu:(∃k,P.underlying T=some (.int k))\/P.underlying T=some .bool\/∃e,P.underlying T=some (.slice e))(h:Value.okWide P W .any base T v):v.cells = #[v]:=by
 cases v with
 | agg cs =>
  exfalso;rcases hu with ⟨k,hu⟩|hu|⟨e,hu⟩<;>simp [Value.okWide,hu,Cell.okWide,Cell.ok]at h
 | _=>rfl
theorem zQG (hchk:∀T,T<zfZ->zn3 P T=true/\zys P T=true){H:Type}{enc:TypeId×Value->H}{W:World}{base:Nat} :
 ∀(ts:List TypeId) (vs:List Value) (ds:List (DataW H)) (p:List MemPlace),DataW.TrodAll enc P W 0 (fun _=>true) true ts vs ds p ->
  (∀(j:Nat) (t:TypeId) (v:Value),ts[j]?=some t->vs[j]?=some v->Value.okWide P W .any base t v)->(∀t∈ts,t<zfZ/\(zck P 4 t).isSome=true) ->
  (DataW.weightsEach P ts ds).all (·<=reachBytes)=true ->
  ∃(avs:List AV) (xs:List Value),avs.map (fun a=>some a.sh)=ts.map (zck P 4)/\zdv false W (zA avs) xs (fun _ b=>b<W.heap.size)/\zbV avs xs=vs/\∀c∈zA avs,CVOk c
 | [],vs,ds,p,h,_,_,_=>by
  obtain ⟨rfl,rfl,rfl⟩:=trodAll_nil h;exact ⟨[],[],rfl,⟨rfl,fun i c x h=>by simp[zA]at h⟩,rfl,fun c h=>by simp[zA]at h⟩
 | T :: ts,vs,ds,p,h,hv,ht,hw=>by
  obtain ⟨v,vs',d,ds',p1,q,rfl,rfl,rfl,h1,h2⟩:=trodAll_cons h;simp only[DataW.weightsEach]at hw;obtain ⟨hw1,hw2⟩:=all_append hw;obtain ⟨avs,xs,g1,g2,g3,g4⟩:=zQG hchk ts vs' ds' q h2 (fun j t v h1 h2=>hv (j+1) t v (by simpa using h1) (by simpa using h2)) (fun t h=>ht t (by simp[h])) hw2
  obtain ⟨hT,hsome⟩:=ht T (by simp)
  obtain ⟨⟨agg,tys⟩,htc⟩:=uR.1 hsome;obtain ⟨fuel,hf⟩:=h1;obtain ⟨cvs,e1,e2,e3⟩:=z0i hchk fuel T _ _ hT agg tys htc hf hw1;have hv0:=hv 0 T v rfl rfl;have app:∀a:AV,a.cvs=cvs->zdv false W (zA (a :: avs)) (v.cells.toList++xs) (fun _ b=>b<W.heap.size)/\∀c∈zA (a :: avs),CVOk c:=by
   intro a ha;have e:zA (a :: avs)=cvs++zA avs:=by simp[zA,ha]
   rw[e];refine ⟨zdv.append ⟨e2,fun i c x hc hx=>(e3 i c x hc hx).1⟩ g2,fun c hc=>?_⟩;rcases jK.1 hc with hc|hc
   .obtain ⟨i,hi⟩:=qQ.1 hc;have hlt:i<v.cells.toList.length:=by rw[e2];exact (qA.1 hi).1
    exact (e3 i c _ hi (qB hlt)).2
   .exact g4 c hc
  rcases zPz htc with ⟨rfl,fs,hu⟩|⟨rfl,hl1,hu⟩
  .obtain ⟨cs,rfl,_⟩:∃cs,v = .agg cs/\True:=by
    simp only[Value.okWide,hu]at hv0;obtain ⟨cs,h,_⟩:=hv0;exact ⟨cs,h,trivial⟩
   obtain ⟨a1,a2⟩:=app (.agg cvs) rfl;refine ⟨.agg cvs :: avs,_,?_,a1,?_,a2⟩
   .rw [jC,jC,g1,htc];simp only[AV.sh,e1]
   .simp only [Value.cells] at e2;simp only[zbV,Value.cells,<- e2,kS,uL,g3,jS]
  .have hcells:=z2D hu hv0;rw[<- e1]at hl1;obtain ⟨c,rfl⟩:∃c,cvs=[c]:=by
    match cvs,hl1 with
    | [c],_=>exact ⟨c,rfl⟩
   obtain ⟨a1,a2⟩:=app (.one c) rfl;refine ⟨.one c :: avs,_,?_,a1,?_,a2⟩
   .rw [jC,jC,g1,htc,<- e1];rfl
   .rw [hcells];simp only[zbV];simp[g3]
theorem zAT (hl:laidOutB P=true){H:Type}{enc:TypeId×Value->H}{W W':World}(hb:Go.RowKit.Below W.heap.size W W'){sp:Nat->Bool}:∀(ts:List TypeId) (vs:List Value) (ds:List (DataW H)) (ps:List MemPlace),(∀t∈ts,P.readableRec t=true/\t<P.types.size) ->
 DataW.TrodAll enc P W 0 (fun _=>true) true ts vs ds ps->(∀x∈ps,x.block<W.heap.size/\sp x.block=true)->DataW.TrodAll enc P W' 0 sp true ts vs ds ps
 | [],vs,ds,ps,_,h,_=>by
  obtain ⟨rfl,rfl,rfl⟩:=trodAll_nil h;exact rfl
 | T :: ts,vs,ds,ps,ht,h,hlt=>by
  obtain ⟨v,vs',d,ds',p,q,rfl,rfl,rfl,h1,h2⟩:=trodAll_cons h;obtain ⟨hr,hrow⟩:=ht T (by simp)
  exact ⟨p,q,WideElems.Trod_stays hl hr hrow h1 (fun x hx=>hb.same (hlt x (j5 _ hx)).1) (fun x hx=>(hlt x (j5 _ hx)).2),
   zAT hl hb ts vs' ds' q (fun t h=>ht t (by simp[h])) h2 (fun x hx=>hlt x (kR _ hx)),rfl⟩
theorem zRz {W W':World}(h:Grown W W')(may:MemPlace->Prop):W.keptBut W' may:=by
 refine ⟨h.os,h.output,fun i hi=>?_⟩;rw[h.keep i hi];cases hc:W.heap[i]? with
 | none=>rfl
 | some o =>
  cases o<;>first|rfl|exact ⟨rfl,rfl,rfl,fun _ _=>rfl⟩|exact .inr ⟨rfl,rfl⟩
def z2M (P:Program)(ts:List TypeId):Bool:=ts.all fun T=>Nat.blt T zfZ&&(zck P 4 T).isSome&&P.readableRec T&&Nat.blt T P.types.size
def z5J (P:Program)(ts:List TypeId)(avs:List AV):Prop:=avs.map (fun a=>some a.sh)=ts.map (zck P 4)/\∀c∈zA avs,CVOk c
def zSY (P:Program)(f:FuncId)(ts:List TypeId):Prop :=
 ∃run,Holds P f run/\∀avs,z5J P ts avs->run avs=some (true,[.one (.b true)])
theorem zLw (hchk:∀T,T<zfZ->zn3 P T=true/\zys P T=true)(hlo:laidOutB P=true){s:ChangeSpec}{f:FuncId}{fn:Func}{B:TypeId}(hvars:s.vars=[])(hfn:∀(H:Type) (ds:List (DataW H)),ds.length=fn.params.toList.length->s.fn H ds={ results:=[.lit (.bool true)],args:=ds })(hpars:z2M P fn.params.toList=true)(hres:fn.resultTypes = #[B])(hB:P.underlying B=some .bool)(hl:zSY P f fn.params.toList){H:Type}{enc:TypeId×Value->H}{apart fresh handsOn:Bool}(W:World)(base:Nat)(args:Array Value)(ds gs:List (DataW H))(before:List MemPlace)(hval:∀(j:Nat) t v,fn.params[j]?=some t->args[j]?=some v->Value.okWide P W .any base t v)(hW:DataW.Whole enc P fn.params.toList s.vars apart W args.toList ds gs before)(hsz:(DataW.weightsEach P (fn.params.toList++s.plain.varTypes P) (ds++gs)).all (·<=reachBytes)=true) :
 Calls P f args W fun e W'=>∃v,e = .returned v/\s.post enc P fn apart fresh handsOn false W args v W':=by
 have hW':=hW;obtain ⟨p,q,hA,hV,rfl,hfz,hnd⟩:=hW;rw[hvars]at hV;obtain ⟨rfl,rfl⟩:=trodVars_none hV;have hvt:s.plain.varTypes P=[]:=by
  unfold DataSpec.varTypes
  show s.vars.filterMap _=[]
  rw[hvars];rfl
 rw[hvt,q9,q9]at hsz;unfold z2M at hpars;simp only[qM,qD,vB]at hpars;have hval':∀(j:Nat) (t:TypeId) (v:Value),fn.params.toList[j]?=some t->args.toList[j]?=some v->Value.okWide P W .any base t v:=by
  intro j t v h1 h2;rw[kQ]at h1 h2;exact hval j t v h1 h2
 obtain ⟨avs,xs,g1,g2,g3,g4⟩:=zQG hchk fn.params.toList args.toList ds p hA hval' (fun t ht=>⟨(hpars t ht).1.1.1,(hpars t ht).1.1.2⟩) hsz;obtain ⟨run,hH,hrun⟩:=hl;have hcall:=hH.2 W avs xs _ g2 (hrun avs ⟨g1,g4⟩);have hargs:(zbV avs xs).toArray=args:=by rw[g3,jS]
 rw[hargs]at hcall;have hlen:∀(ts:List TypeId) (vs:List Value) (ds:List (DataW H)) (ps:List MemPlace),DataW.TrodAll enc P W 0 (fun _=>true) true ts vs ds ps->ds.length=ts.length:=by
  intro ts
  induction ts with
  | nil=>intro vs ds ps h;obtain ⟨_,rfl,_⟩:=trodAll_nil h;rfl
  | cons t ts ih =>
   intro vs ds ps h;obtain ⟨v,vs',d,ds',p,q,rfl,rfl,rfl,_,h2⟩:=trodAll_cons h;simp[ih vs' ds' q h2]
 refine hcall.mono ?_;intro e W1 he;cases e with
 | panicked c=>exact he.elim
 | outgrown=>exact he.elim
 | returned v =>
  obtain ⟨hg,ys,K,hrep,hv,_⟩:=he;have hv1:v = .bool true:=by
   match ys,hrep with
   | [],h=>exact absurd h.1 (by simp[zA,AV.cvs])
   | [y],h =>
    have:=(h.2 0 (.b true) y rfl rfl).bool_inv;rw[hv,this];rfl
   | y :: z :: r,h=>exact absurd h.1 (by simp[zA,AV.cvs])
  subst hv1;refine ⟨_,rfl,ds,[],p++[],[],p,[],hW',?_,?_,?_,zRz hg _,fun h=>by cases h⟩
  .rw [q9,hfn H ds (hlen _ _ _ _ hA),hres];exact ⟨[],[],⟨1,by simp[DataW.trod,hB,Value.cells]⟩,rfl,rfl⟩
  .rw [q9,hfn H ds (hlen _ _ _ _ hA)];have hb:Go.RowKit.Below W.heap.size W W1:=⟨hg.os,hg.tape,hg.output,hg.size,hg.keep⟩;have hlt:∀x∈p,x.block<W.heap.size:=fun x hx=>by simpa using hW'.lt x (j5 _ hx)
   exact zAT hlo hb _ _ _ _ (fun t ht=>⟨(hpars t ht).1.2,(hpars t ht).2⟩) hA (fun x hx=>⟨hlt x hx,by simpa using hlt x hx⟩)
  .rw [hvars,q9,hfn H ds (hlen _ _ _ _ hA)];rfl
end
theorem z9e:(List.range zfZ).all (zys Tryz.prog)=true:=by kernel_rfl
theorem z4G:laidOutB Tryz.prog=true:=by kernel_rfl
theorem own:ownKnob Tryz.prog.godebug=none:=by kernel_rfl
theorem z3H (T:TypeId)(hT:T<zfZ):zn3 Tryz.prog T=true/\zys Tryz.prog T=true :=
 ⟨qM.1 zYi T (kI.2 hT),qM.1 z9e T (kI.2 hT)⟩
abbrev Good (ts:List TypeId)(avs:List AV):Prop:=z5J Tryz.prog ts avs
abbrev zX6 (f:FuncId)(ts:List TypeId):Prop:=zSY Tryz.prog f ts
theorem zWI {ctr:FuncId->Option (List AV->Option (Bool×List AV))}{mct:FuncId->Option (CV->Int->Option (Bool×CV×Int))}{pct:FuncId->Option (List Bool×(List CV->List AV->Option (Bool×List CV×List AV)))}{tct:FuncId->Option (List Bool×Option (Nat×Nat×List (List Nat))×(List AV->Option (Bool×List AV)))}(hctr:∀f run,ctr f=some run->Holds Tryz.prog f run)(hmct:∀f run,mct f=some run->zJZ Tryz.prog f run)(hpct:∀f own run,pct f=some (own,run)->zdJ Tryz.prog f own run)(htct:∀f own inp run,tct f=some (own,inp,run)->zdY Tryz.prog f own inp run){f:FuncId}{ts:List TypeId}(hf:FnOk Tryz.prog f)(h:∀avs,Good ts avs->∃tms N D,evalFn (zlY ctr mct pct tct) tms N D f avs=some [.one (.b true)]):zX6 f ts:=by
 refine ⟨fun avs=>open Classical in if Good ts avs then some (true,[.one (.b true)]) else none,zz6 (zc7 hctr hmct hpct htct) hf ?_,fun avs hg=>by simp[hg]⟩
 intro avs rs _ hr;split at hr
 .rename_i hg;cases hr;exact h avs hg
 .cases hr
end
def St.blkEnd (st:St):List Bool->List At->List MV->Option (List CV×List Nat)
 | [],[],[]=>some ([],[])
 | own :: ms,a :: r,h :: hs =>
  match St.blkEnd st ms r hs with
  | none=>none
  | some (cs,ks) =>
   match a with
   | .i k n=>some (.i k n :: cs,ks)
   | .b x=>some (.b x :: cs,ks)
   | .sl q [] =>
    match st.root q with
    | some R =>
     match own with
     | true=>if R.own && !ks.contains q then some (.s R.t R.l :: cs,q :: ks) else none
     | false =>
      match h with
      | .v (.at (.sl q' []))=>if q==q' then some (.s R.t R.l :: cs,ks) else none
      | _=>none
    | none=>none
   | _=>none
 | _,_,_=>none
def zej:List Bool->List CV->Nat->List (Nat×Root)
 | own :: ms,.s t l :: cs,id=>(id,⟨t,l,own,none⟩) :: zej ms cs (id+1)
 | _ :: ms,_ :: cs,id=>zej ms cs (id+1)
 | _,_,_=>[]
def zYl (own:List Bool)(cs:List CV)(args:List AV):St :=
 { tm:=.v (.at (.lp 0 0)) :: (zgr cs 0).map fun a=>.v (.at a),lo:=[(0,zgr cs 0)],ro:=zej own cs 0++zdd false args cs.length,stk:=[],nid:=cs.length+(args.flatMap AV.cvs).length+1,ep:=0 }
def zgz (C:Cfg)(tms:FuncId->Nat->Option Tmpl)(N D:Nat)(f:FuncId)(own:List Bool)(cs:List CV)(args:List AV):Option Ans :=
 zuY C tms N (ztu C tms N D) f (.v (.at (.lp 0 0)) :: (zcP args cs.length).map .v) (zYl own cs args) fun rs st =>
  match st.tm with
  | .v (.at (.lp l 0)) :: hs =>
   match zn st.lo l with
   | some cells =>
    match st.blkEnd own cells hs with
    | some (cs',ks) =>
     match zqf st rs ks with
     | some ans=>some (.agg cs' :: ans)
     | none=>none
    | none=>none
   | none=>none
  | _=>none
section
variable {C:Cfg} {w0 w w1:World} {S0:zV} {U:Nat->Prop} {st st1:St} {E E1:Env} {ts:Array Value} {sv:List (Array Value)}
structure BlkEnd (st:St) (own:List Bool) (cells:List At) (hs:List MV) (cs:List CV) (ks:List Nat):Prop where
 len:cs.length=cells.length
 hlen:hs.length=cells.length
 ownk:∀r∈ks,∃j,zT own j/\cells[j]?=some (.sl r [])
 get:∀(j:Nat) (a:At),cells[j]?=some a->(∃k n,a = .i k n/\cs[j]?=some (.i k n))\/(∃x,a = .b x/\cs[j]?=some (.b x)) \/
  ∃r R,a = .sl r []/\st.root r=some R/\cs[j]?=some (.s R.t R.l)/\((zT own j/\R.own=true/\r∈ks)\/(¬ zT own j/\hs[j]?=some (.v (.at (.sl r [])))))
 inj:∀(i j r:Nat),zT own i->zT own j->cells[i]?=some (.sl r [])->cells[j]?=some (.sl r [])->i=j
theorem zP9:∀(own:List Bool) (cells:List At) (hs:List MV) (cs:List CV) (ks:List Nat),st.blkEnd own cells hs=some (cs,ks)->BlkEnd st own cells hs cs ks
 | [],[],[],cs,ks,h=>by
  cases h;exact ⟨rfl,rfl,fun r h=>by simp at h,fun j a h=>by simp at h,fun i j r h=>by simp[zT]at h⟩
 | o :: ms,a :: r,hd :: hs,cs,ks,h=>by
  simp only[St.blkEnd]at h;split at h
  .cases h
  .rename_i cs0 ks0 h0;have ih:=zP9 ms r hs cs0 ks0 h0;have tail:∀(ks1:List Nat) (c:CV),(∀x∈ks0,x∈ks1)->∀(j:Nat) (b:At),r[j]?=some b->(∃k n,b = .i k n/\(c :: cs0)[j+1]?=some (.i k n))\/(∃x,b = .b x/\(c :: cs0)[j+1]?=some (.b x)) \/
    ∃q R,b = .sl q []/\st.root q=some R/\(c :: cs0)[j+1]?=some (.s R.t R.l)/\((zT (o :: ms) (j+1)/\R.own=true/\q∈ks1)\/(¬ zT (o :: ms) (j+1)/\(hd :: hs)[j+1]?=some (.v (.at (.sl q []))))):=by
    intro ks1 c hks j b hb;rcases ih.get j b hb with h|h|⟨q,R,g1,g2,g3,g4⟩
    .exact .inl (by simpa using h)
    .exact .inr (.inl (by simpa using h))
    .refine .inr (.inr ⟨q,R,g1,g2,by simpa using g3,?_⟩)
     rcases g4 with ⟨h1,h2,h3⟩|⟨h1,h2⟩
     .exact .inl ⟨by simpa [zT] using h1,h2,hks q h3⟩
     .exact .inr ⟨by simpa [zT] using h1,by simpa using h2⟩
   have flat:∀(c:CV),(∀q,a≠.sl q [])->((∃k n,a = .i k n/\c = .i k n)\/(∃x,a = .b x/\c = .b x))->BlkEnd st (o :: ms) (a :: r) (hd :: hs) (c :: cs0) ks0:=by
    intro c hne hc;refine ⟨by simp[ih.len],by simp[ih.hlen],fun q hq=>?_,fun j b hb=>?_,fun i j q hi hj h1 h2=>?_⟩
    .obtain ⟨j,h1,h2⟩:=ih.ownk q hq;exact ⟨j+1,by simpa [zT] using h1,by simpa using h2⟩
    .cases j with
     | zero =>
      simp only[qH,qC]at hb;subst hb;rcases hc with ⟨k,n,h1,h2⟩|⟨x,h1,h2⟩
      .exact .inl ⟨k,n,h1,by simp[h2]⟩
      .exact .inr (.inl ⟨x,h1,by simp[h2]⟩)
     | succ j=>exact tail ks0 c (fun _ h=>h) j b (by simpa using hb)
    .cases i with
     | zero=>simp only[qH,qC]at h1;exact absurd h1 (hne q)
     | succ i =>
      cases j with
      | zero=>simp only[qH,qC]at h2;exact absurd h2 (hne q)
      | succ j =>
       have:=ih.inj i j q (by simpa [zT] using hi) (by simpa [zT] using hj) (by simpa using h1) (by simpa using h2)
       omega
   split at h
   .rename_i k n;cases h;exact flat _ (fun q h=>by cases h) (.inl ⟨k,n,rfl,rfl⟩)
   .rename_i x;cases h;exact flat _ (fun q h=>by cases h) (.inr ⟨x,rfl,rfl⟩)
   .rename_i q;split at h
    .rename_i R hR;split at h
     .split at h
      .rename_i hcond;simp only[qD,jA,jF,decide_eq_false_iff_not]at hcond;obtain ⟨hown,hnk⟩:=hcond;cases h;refine ⟨by simp[ih.len],by simp[ih.hlen],fun x hx=>?_,fun j b hb=>?_,fun i j x hi hj h1 h2=>?_⟩
       .rcases qI.1 hx with rfl|hx
        .exact ⟨0,rfl,rfl⟩
        .obtain ⟨j,h1,h2⟩:=ih.ownk x hx;exact ⟨j+1,by simpa [zT] using h1,by simpa using h2⟩
       .cases j with
        | zero =>
         simp only[qH,qC]at hb;subst hb;exact .inr (.inr ⟨q,R,rfl,hR,by simp,.inl ⟨rfl,hown,jO⟩⟩)
        | succ j=>exact tail _ _ (fun x hx=>qY _ hx) j b (by simpa using hb)
       .have old:∀(i:Nat),zT ms i->r[i]?=some (.sl q [])->False:=by
         intro i hi hq;rcases ih.get i _ hq with ⟨_,_,h,_⟩|⟨_,h,_⟩|⟨r',R',g1,g2,g3,g4⟩
         .cases h
         .cases h
         .cases g1;rcases g4 with ⟨_,_,h⟩|⟨h,_⟩
          .exact hnk h
          .exact h hi
        cases i with
        | zero =>
         cases j with
         | zero=>rfl
         | succ j =>
          simp only[qH,qC,At.sl.injEq,and_true]at h1;subst h1;exact (old j (by simpa [zT] using hj) (by simpa using h2)).elim
        | succ i =>
         cases j with
         | zero =>
          simp only[qH,qC,At.sl.injEq,and_true]at h2;subst h2;exact (old i (by simpa [zT] using hi) (by simpa using h1)).elim
         | succ j =>
          have:=ih.inj i j x (by simpa [zT] using hi) (by simpa [zT] using hj) (by simpa using h1) (by simpa using h2)
          omega
      .cases h
     .split at h
      .rename_i q';split at h
       .rename_i he;simp only[qK]at he;subst he;cases h;refine ⟨by simp[ih.len],by simp[ih.hlen],fun x hx=>?_,fun j b hb=>?_,fun i j x hi hj h1 h2=>?_⟩
        .obtain ⟨j,h1,h2⟩:=ih.ownk x hx;exact ⟨j+1,by simpa [zT] using h1,by simpa using h2⟩
        .cases j with
         | zero =>
          simp only[qH,qC]at hb;subst hb;exact .inr (.inr ⟨q,R,rfl,hR,by simp,.inr ⟨by simp[zT],rfl⟩⟩)
         | succ j=>exact tail _ _ (fun x hx=>hx) j b (by simpa using hb)
        .cases i with
         | zero=>simp[zT]at hi
         | succ i =>
          cases j with
          | zero=>simp[zT]at hj
          | succ j =>
           have:=ih.inj i j x (by simpa [zT] using hi) (by simpa [zT] using hj) (by simpa using h1) (by simpa using h2)
           omega
       .cases h
      .cases h
    .cases h
   .cases h
 | [],_ :: _,_,_,_,h=>by simp[St.blkEnd]at h
 | [],[],_ :: _,_,_,h=>by simp[St.blkEnd]at h
 | _ :: _,[],_,_,_,h=>by simp[St.blkEnd]at h
 | _ :: _,_ :: _,[],_,_,h=>by simp[St.blkEnd]at h
theorem z3A (a:Value)(vs:Array Value):(#[a]++vs)[0]?=some a:=by
 rw[jX (by simp)]
 rfl
theorem z3B (a:Value)(vs:Array Value)(i:Nat):(#[a]++vs)[i+1]?=vs[i]?:=by
 rw[kE (by simp)]
 simp
theorem zkg:∀(own:List Bool) (cs:List CV) (id n:Nat) (R:Root),zn (zej own cs id) n=some R->id<=n/\∃t l,cs[n-id]?=some (.s t l)/\R.t=t/\HEq R.l l/\own[n-id]?=some R.own/\R=⟨t,l,R.own,none⟩
 | [],_,_,_,_,h=>by cases h
 | o :: ms,[],_,_,_,h=>by cases h
 | o :: ms,c :: cs,id,n,R,h=>by
  have hr:zn (zej ms cs (id+1)) n=some R->id<=n/\∃t l,(c :: cs)[n-id]?=some (.s t l)/\R.t=t/\HEq R.l l/\(o :: ms)[n-id]?=some R.own/\R=⟨t,l,R.own,none⟩:=fun h=>by
   obtain ⟨h1,t,l,h2,h3,h4,h5,h6⟩:=zkg ms cs (id+1) n R h;have e:n-id=(n-(id+1))+1:=by omega
   exact ⟨by omega,t,l,by rw[e,jL];exact h2,h3,h4,by rw[e,jL];exact h5,h6⟩
  cases c with
  | i k x=>exact hr h
  | b x=>exact hr h
  | s t l =>
   simp only[zej,zn]at h;split at h
   .rename_i he;simp only[qK]at he;subst he;cases h;exact ⟨qV _,t,l,by simp,rfl,HEq.rfl,by simp,rfl⟩
   .exact hr h
theorem zb5 (hO:EngOk C){f:FuncId}{own:List Bool}{run:List CV->List AV->Option (Bool×List CV×List AV)}(hf:FnOk C.P f)(h:∀(cs:List CV) (avs:List AV) (cs':List CV) (rs:List AV),own.length=cs.length->(∃(w:World) (xs:Nat->Value) (K:Nat->zV),∀(j:Nat) (c:CV),(cs++zA avs)[j]?=some c->Rep false w (xs j) c (K j))->run cs avs=some (true,cs',rs)->cs'.length=cs.length/\∃tms N D,zgz C tms N D f own cs avs=some (.agg cs' :: rs)):zdJ C.P f own run:=by
 refine ⟨hf,fun w blk vals e cs K avs xs Ka cs' rs hb hvs hol hcell hKlt hKd hxs hKa hrun=>?_⟩;obtain ⟨hcl,tms,N,D,hev⟩:=h cs avs cs' rs hol ⟨w,fun j=>if j<cs.length then (vals[j]?).getD undef else (xs[j-cs.length]?).getD undef,fun j=>if j<cs.length then K j else Ka,fun j c hc=>by
  by_cases hj:j<cs.length
  .rw [qT hj]at hc;have hu:=j3 (show j<vals.size by omega)
   simp only[if_pos hj,hu,j6];exact (hcell j c _ hc hu).ro
  .rw [qO (by omega)]at hc
   have hlt:=(qA.1 hc).1;have hu:=qB (show j-cs.length<xs.length by rw[hxs.1];exact hlt)
   simp only[if_neg hj,hu,j6];exact hxs.2 _ c _ hc hu⟩ hrun
 unfold zgz at hev;have hblt:blk<w.heap.size:=(qS.1 hb).1;generalize hst:zYl own cs avs=st at hev;have hro:st.ro=zej own cs 0++zdd false avs cs.length:=by rw[<- hst];rfl
 have hloe:st.lo=[(0,zgr cs 0)]:=by rw[<- hst];rfl
 have hstk:st.stk=[]:=by rw[<- hst];rfl
 have hnid:st.nid=cs.length+(zA avs).length+1:=by rw[<- hst];rfl
 have htme:st.tm = .v (.at (.lp 0 0)) :: (zgr cs 0).map fun a=>.v (.at a):=by rw[<- hst];rfl
 have hroot0:∀r R,zn st.ro r=some R->R.ep=none/\((r<cs.length/\own[r]?=some R.own/\cs[r]?=some (.s R.t R.l))\/(cs.length<=r/\r<cs.length+(zA avs).length/\R.own=false/\(zA avs)[r-cs.length]?=some (.s R.t R.l))):=by
  intro r R hR;rw[hro,zbF]at hR;split at hR
  .rename_i Q hQ;cases hR;obtain ⟨_,t,l,h2,_,_,h5,h6⟩:=zkg own cs 0 r R hQ;rw[h6]at h5 ⊢;simp only[vF]at h2 h5;exact ⟨rfl,.inl ⟨(qA.1 h2).1,h5,h2⟩⟩
  .obtain ⟨h1,t,l,h2,rfl⟩:=zhK false avs cs.length r R hR;have:=(qA.1 h2).1;exact ⟨rfl,.inr ⟨h1,by omega,rfl,h2⟩⟩
 have hroot:∀r R,st.root r=some R->(r<cs.length/\own[r]?=some R.own/\cs[r]?=some (.s R.t R.l))\/(cs.length<=r/\R.own=false/\(zA avs)[r-cs.length]?=some (.s R.t R.l)):=by
  intro r R hR;rcases (hroot0 r R (zbr hR).1).2 with h|⟨h1,_,h2,h3⟩
  .exact .inl h
  .exact .inr ⟨h1,h2,h3⟩
 let E:Env:={ ρ:=fun n=>if n<cs.length then (vals[n]?).getD undef else (xs[n-cs.length]?).getD undef,φ:=fun n=>if n<cs.length then K n else Ka,β:=fun _=>blk,κ:=w }
 have hE1:∀n,n<cs.length->E.ρ n=(vals[n]?).getD undef/\E.φ n=K n:=fun n hn=>by simp only[E,if_pos hn,and_self]
 have hE2:∀n,cs.length<=n->E.ρ n=(xs[n-cs.length]?).getD undef/\E.φ n=Ka:=fun n hn=>by simp only[E,if_neg (show ¬ n<cs.length by omega),and_self]
 have hva:∀(j:Nat) (a:At) (u:Value),(zgr cs 0)[j]?=some a->vals[j]?=some u->u.oneCell'=true/\VA w st E a u:=by
  intro j a u ha hu;rw[ztW,jZ]at ha;cases hc:cs[j]? with
  | none=>rw[hc]at ha;cases ha
  | some c =>
   rw[hc]at ha;cases ha;have hr:=hcell j c u hc hu;have hj:j<cs.length:=(qA.1 hc).1;refine ⟨hr.one,?_⟩;cases c with
   | i k n=>exact hr.int_inv
   | b x=>exact hr.bool_inv
   | s t l =>
    obtain ⟨⟨a,cap,hv,_⟩,_⟩:=hr.len;refine ⟨⟨a,_,cap,hv⟩,fun R _=>?_⟩;rw[(hE1 j hj).1,hu];rfl
 have hlo:∀l cells,zn st.lo l=some cells->l=0/\cells=zgr cs 0:=by
  intro l cells h;rw[hloe]at h;simp only[zn]at h;split at h
  .rename_i he;simp only[qK]at he;cases h;exact ⟨he.symm,rfl⟩
  .cases h
 have hp:VA w st E (.lp 0 0) (.pointer (some ⟨blk,0,none⟩)):=⟨⟨_,rfl⟩,fun _ _=>rfl⟩;have hids:∀a∈zgr cs 0,∀m∈a.ids,m<cs.length:=by
  intro a ha m hm;obtain ⟨j,hj⟩:=qQ.1 ha;rw[ztW,jZ]at hj;cases hc:cs[j]? with
  | none=>rw[hc]at hj;cases hj
  | some c =>
   rw[hc]at hj;cases hj;have:=zy7 hm;have:=(qA.1 hc).1;omega
 let S0:zV:=fun b=>b=blk\/∃j,j<cs.length/\zT own j/\K j b
 have hS:Sim w S0 (fun n=>n<st.nid) st E (#[.pointer (some ⟨blk,0,none⟩)]++vals) [] w:=by
  refine ⟨⟨rfl,rfl,rfl,qV _,fun _ _ _=>rfl,fun r R hR=>?_,fun r R hR x hx=>?_,fun r R hR ho=>?_,fun r R r' R' hR ho hR' he hne x hx=>?_,fun l cells hl=>?_,fun l l' c1 c2 h1 h2 _=>?_,fun l cells r R hl hR=>?_,fun r R e hR he=>?_,rfl⟩,⟨fun n R hn=>?_,fun n cells hn=>?_,fun m hm n hn=>?_,fun f hf=>?_⟩,⟨?_,fun i m v hm hv=>?_⟩,?_⟩
  .rcases hroot r R hR with ⟨h1,h2,h3⟩|⟨h1,h2,h3⟩
   .have hu:=j3 (show r<vals.size by omega)
    rw[(hE1 r h1).1,(hE1 r h1).2,hu];have:=hcell r _ _ h3 hu;rw[h2] at this;exact this
   .have hlt:=(qA.1 h3).1;have hu:=qB (show r-cs.length<xs.length by rw[hxs.1];exact hlt)
    rw[(hE2 r h1).1,(hE2 r h1).2,hu,h2];exact hxs.2 _ _ _ h3 hu
  .rcases hroot r R hR with ⟨h1,h2,h3⟩|⟨h1,h2,h3⟩
   .rw [(hE1 r h1).2]at hx;exact (hKlt r x h1 hx).1
   .rw [(hE2 r h1).2]at hx;exact (hKa x hx).1
  .rcases hroot r R hR with ⟨h1,h2,h3⟩|⟨h1,h2,h3⟩
   .refine ⟨(hroot0 r R (zbr hR).1).1,fun x hx=>.inl (.inr ⟨r,h1,?_,?_⟩)⟩
    .show own[r]?=some true
     rw[h2,ho]
    .rw [(hE1 r h1).2]at hx;exact hx
   .rw [h2]at ho;cases ho
  .rcases hroot r R hR with ⟨h1,h2,h3⟩|⟨h1,h2,h3⟩
   .have hor:zT own r:=by show own[r]?=some true;rw[h2,ho]
    rw[(hE1 r h1).2]at hx;rcases hroot r' R' hR' with ⟨h1',h2',h3'⟩|⟨h1',h2',h3'⟩
    .rw [(hE1 r' h1').2];exact hKd r r' x h1 h1' hor hne hx
    .rw [(hE2 r' h1').2];exact fun hk=>(hKa x hk).2.2 r h1 hor hx
   .rw [h2]at ho;cases ho
  .obtain ⟨rfl,rfl⟩:=hlo l cells hl;exact ⟨.inl (.inl rfl),vals,e,hb,by rw[hvs,zy6],fun j c u hc hu=>hva j c u hc hu⟩
  .rw [(hlo l c1 h1).1,(hlo l' c2 h2).1]
  .intro hx;rcases hroot r R hR with ⟨h1,h2,h3⟩|⟨h1,h2,h3⟩
   .rw [(hE1 r h1).2]at hx;exact (hKlt r _ h1 hx).2 rfl
   .rw [(hE2 r h1).2]at hx;exact (hKa _ hx).2.1 rfl
  .rw [(hroot0 r R hR).1]at he;cases he
  .rcases (hroot0 n R hn).2 with ⟨h1,_⟩|⟨_,h1,_⟩<;>omega
  .obtain ⟨rfl,rfl⟩:=hlo n cells hn;refine ⟨by omega,fun a ha m hm=>?_⟩
   have:=hids a ha m hm;omega
  .rw [htme]at hm;rcases qI.1 hm with rfl|hm
   .simp only [MV.ids,zby,zM,At.ids,zbj,zbl,jN,j8,uG,q9,qF]at hn;omega
   .obtain ⟨a,ha,rfl⟩:=jB.1 hm;simp only[MV.ids,zby,zM,j8,uG,q9]at hn;have:=hids a ha n hn;omega
  .rw [hstk]at hf;simp at hf
  .rw [htme];simp[zy6,hvs];omega
  .rw [htme]at hm;cases i with
   | zero=>rw[z3A]at hv;simp at hm hv;subst hm hv;exact hp
   | succ i =>
    simp only[jL,qN]at hm;have hv':vals[i]?=some v:=by rw[z3B]at hv;exact hv
    cases ha:(zgr cs 0)[i]? with
    | none=>rw[ha]at hm;cases hm
    | some a=>rw[ha]at hm;cases hm;exact (hva i a v ha hv').2
  .rw [hstk];trivial
 obtain ⟨hl1,hl2⟩:=zhf (w:=w) (st:=st) (E:=E) avs xs cs.length hxs.1 (fun i c u hc hu=>by
  have hr:=hxs.2 i c u hc hu;refine ⟨?_,hr.one⟩;cases c with
  | i k n=>exact hr.int_inv
  | b x=>exact hr.bool_inv
  | s t l =>
   obtain ⟨⟨a,cap,hv,_⟩,_⟩:=hr.len;refine ⟨⟨a,_,cap,hv⟩,fun R hR=>?_⟩;have e:cs.length+i-cs.length=i:=by omega
   rw[(hE2 _ (uF _ _)).1,e,hu];rfl)
 obtain ⟨_,hcalls⟩:=zjI hO (zij hO (tms:=tms) (N:=N) D) f _ st _ _ hev w S0 _ E _ [] w (#[.pointer (some ⟨blk,0,none⟩)]++(zbV avs xs).toArray)
  (fun v w'=>w'.os=w.os/\w'.tape=w.tape/\w'.output=w.output/\w.heap.size<=w'.heap.size /\
   (∀b,b<w.heap.size->b≠blk->(∀j,j<cs.length->zT own j->¬ K j b)->w'.heap[b]?=w.heap[b]?) /\
   ∃(vals':Array Value) (e':TypeId) (K':Nat->zV) (ys:List Value) (Kr:Nat->zV),w'.heap[blk]?=some (.cells vals' e' (0,0))/\vals'.size=cs'.length/\cs'.length=cs.length /\
    (∀(j:Nat) (c:CV) (u:Value),cs'[j]?=some c->vals'[j]?=some u->match c with
     | .i k n=>u = .int k n
     | .b x=>u = .bool x
     | .s t l=>(zT own j->Rep true w' u (.s t l) (K' j))/\(¬ zT own j->vals[j]?=some u)) /\
    zdv true w' (zA rs) ys Kr/\v=zj4 (zbV rs ys) /\
    (∀j x,j<cs.length->K' j x->x<w'.heap.size/\x≠blk/\((∃i,i<cs.length/\zT own i/\K i x)\/w.heap.size<=x)) /\
    (∀i x,i<(zA rs).length->Kr i x->x<w'.heap.size/\x≠blk/\((∃i,i<cs.length/\zT own i/\K i x)\/w.heap.size<=x)) /\
    (∀i j x,i<cs.length->j<cs.length->i≠j->K' i x->¬ K' j x) /\
    (∀i j x,i<(zA rs).length->j<(zA rs).length->i≠j->Kr i x->¬ Kr j x) /\
    (∀i j x,i<cs.length->j<(zA rs).length->K' i x->¬ Kr j x)) hS (fun n hn h=>by omega)
  (by simp[hl1]) (fun i m v hm hv=>by
   cases i with
   | zero=>rw[z3A]at hv;simp at hm hv;subst hm hv;exact hp
   | succ i =>
    simp only[jL,qN]at hm;have hv':(zbV avs xs)[i]?=some v:=by rw[z3B]at hv;simpa using hv
    cases hx:(zcP avs cs.length)[i]? with
    | none=>rw[hx]at hm;cases hm
    | some x=>rw[hx]at hm;cases hm;exact hl2 i x v hx hv')
  (fun m hm n hn=>by
   rcases qI.1 hm with rfl|hm
   .simp only [MV.ids,zby,zM,At.ids,zbj,zbl,jN,j8,uG,q9,qF]at hn;omega
   .obtain ⟨x,hx,rfl⟩:=jB.1 hm;simp only[MV.ids,zby,qP]at hn;obtain ⟨a,ha,hn⟩:=hn;have:=(zfn avs cs.length n x a hx ha hn).2;omega)
  (fun U' st' E' w' tvs v hS' _ _ _ hv _ hans=>by
   split at hans
   .rename_i l hs htm;split at hans
    .rename_i cells hcells;split at hans
     .rename_i cs1 ks hbe;split at hans
      .rename_i ans hansof;simp only[qC,List.cons.injEq,AV.agg.injEq]at hans;obtain ⟨rfl,rfl⟩:=hans;have hB:=zP9 own cells hs _ ks hbe;have hM:=hS'.mem;obtain ⟨hts,htv⟩:=hS'.tm;have hlp:=htv 0 (.v (.at (.lp l 0))) (.pointer (some ⟨blk,0,none⟩)) (by rw[htm];rfl) (z3A _ _)
       have hβ:E'.β l=blk:=by
        have:=hlp.2 cells hcells;simp only[Value.pointer.injEq,qC,Addr.mk.injEq,and_true] at this;exact this.symm
       obtain ⟨us,rfl,hul,huv⟩:=zym hv;obtain ⟨ats,ys,kr,hG,hyl,hyv,rfl,hkr,_⟩:=zhY tvs ks _ us hansof hul huv;obtain ⟨_,vals',e',hb',hsz',hcv⟩:=hM.loc l cells hcells;rw[hβ]at hb';have hS0:∀x,(S0 x\/w.heap.size<=x)->x≠blk->((∃i,i<cs.length/\zT own i/\K i x)\/w.heap.size<=x):=by
        intro x h hne;rcases h with (h|h)|h
        .exact absurd h hne
        .exact .inl h
        .exact .inr h
       have hnb:∀r R x,st'.root r=some R->E'.φ r x->x≠blk:=by
        intro r R x hR hx he;subst he;rw[<- hβ]at hx;exact hM.lro l cells r R hcells hR hx
       have hget:∀i,i<(zA ans).length->∃a,ats[i]?=some a:=fun i hi=>⟨_,qB (by rw[<- hG.len];exact hi)⟩
       let K':Nat->zV:=fun j x=>zT own j/\cφ E' cells j x
       have hK':∀j x,K' j x->∃r R,cells[j]?=some (.sl r [])/\zT own j/\st'.root r=some R/\R.own=true/\r∈ks/\E'.φ r x:=by
        intro j x hx;obtain ⟨ho,hx⟩:=hx;obtain ⟨a,ha,hx⟩:=ztz hx;rcases hB.get j a ha with ⟨_,_,rfl,_⟩|⟨_,rfl,_⟩|⟨r,R,rfl,h1,h2,h3⟩
        .exact hx.elim
        .exact hx.elim
        .rcases h3 with ⟨_,h4,h5⟩|⟨h4,_⟩
         .exact ⟨r,R,ha,ho,h1,h4,h5,hx⟩
         .exact absurd ho h4
       have hKr:∀i x,cφ E' ats i x->∃r∈kr,∃R,ats[i]?=some (.sl r [])/\st'.root r=some R/\R.own=true/\E'.φ r x:=by
        intro i x hx;obtain ⟨a,ha,hx⟩:=ztz hx;obtain ⟨r,hr,rfl,hrx⟩:=hG.fi ha hx;obtain ⟨R,hR,ho⟩:=hG.own r hr;exact ⟨r,hr,R,ha,hR,ho,hrx⟩
       refine ⟨hM.os,hM.tape,hM.output,hM.size,fun b hb hne hnk=>hM.keep b hb (fun h=>?_),vals',e',K',ys,cφ E' ats,hb',by rw[hsz',hB.len],hcl,fun j c u hc hu=>?_,⟨by rw[hyl,hG.len],fun i c x hc hx=>?_⟩,rfl,fun j x hj hx=>?_,fun i x hi hx=>?_,fun i j x hi hj hne hx hx'=>?_,fun i j x hi hj hne hx hx'=>?_,fun i j x hi hj hx hx'=>?_⟩
       .rcases h with h|⟨j,hj,ho,hk⟩
        .exact hne h
        .exact hnk j hj ho hk
       .have hj:j<cells.length:=by rw[<- hB.len];exact (qA.1 hc).1
        have ha:=qB hj;obtain ⟨_,hva'⟩:=hcv j _ u ha hu;rcases hB.get j _ ha with ⟨k,n,h1,h2⟩|⟨y,h1,h2⟩|⟨r,R,h1,h2,h3,h4⟩
        .rw [hc]at h2;cases h2;rw[h1]at hva';exact hva'
        .rw [hc]at h2;cases h2;rw[h1]at hva';exact hva'
        .rw [hc]at h3;cases h3;rw[h1]at hva' ha;have hρ:=hva'.2 R h2;simp only[zQ,qC]at hρ;refine ⟨fun ho=>?_,fun hno=>?_⟩
         .rcases h4 with ⟨_,h5,_⟩|⟨h5,_⟩
          .have hr:=hM.rep r R h2;rw[h5,hρ]at hr;exact hr.weak (fun x hx=>⟨ho,by rw[zgU ha];exact hx⟩)
          .exact absurd ho h5
         .rcases h4 with ⟨h5,_⟩|⟨_,h5⟩
          .exact absurd h5 hno
          .have hjc:j<cs.length:=by rw[<- hcl,hB.len];exact hj
           have hu0:=j3 (show j<vals.size by omega)
           have hsl:=htv (j+1) (.v (.at (.sl r []))) vals[j] (by rw[htm,jL];exact h5) (by rw[z3B];exact hu0)
           have hρ':=hsl.2 R h2;simp only[zQ,qC]at hρ';rw[hu0,<- hρ',hρ]
       .obtain ⟨a,ha⟩:=hget i (qA.1 hc).1;rw[zgU ha];exact hG.rep hM ha hc (hyv i a x ha hx)
       .obtain ⟨r,R,_,ho,h1,h2,h3,h4⟩:=hK' j x hx;have:=hnb r R x h1 h4;exact ⟨hM.rlt r R h1 x h4,this,hS0 x ((hM.mine r R h1 h2).2 x h4) this⟩
       .obtain ⟨r,hr,R,_,h1,h2,h4⟩:=hKr i x hx;have:=hnb r R x h1 h4;exact ⟨hM.rlt r R h1 x h4,this,hS0 x ((hM.mine r R h1 h2).2 x h4) this⟩
       .obtain ⟨r,R,g1,ho,h1,h2,h3,h4⟩:=hK' i x hx;obtain ⟨r',R',g1',ho',h1',h2',h3',h4'⟩:=hK' j x hx';have:=hM.own_apart h1 h2 h1' h2' h4 h4';subst this;exact hne (hB.inj i j r ho ho' g1 g1')
       .obtain ⟨r,hr,R,g1,h1,h2,h4⟩:=hKr i x hx;obtain ⟨r',hr',R',g1',h1',h2',h4'⟩:=hKr j x hx';have:=hM.own_apart h1 h2 h1' h2' h4 h4';subst this;exact hne (hG.inj i j r g1 g1')
       .obtain ⟨r,R,g1,ho,h1,h2,h3,h4⟩:=hK' i x hx;obtain ⟨r',hr',R',g1',h1',h2',h4'⟩:=hKr j x hx';have:=hM.own_apart h1 h2 h1' h2' h4 h4';subst this;exact hkr r hr' h3
      .cases hans
     .cases hans
    .cases hans
   .cases hans)
 refine hcalls.mono ?_;intro ex w' he;cases ex with
 | returned v=>exact he
 | panicked chain=>exact he.elim
 | outgrown=>exact he.elim
end
def zZF (C:Cfg)(tms:FuncId->Nat->Option Tmpl)(N D:Nat)(f:FuncId)(own:List Bool)(args:List AV):Option Ans :=
 zuY C tms N (ztu C tms N D) f ((zcP args 0).map .v) { tm:=[],lo:=[],ro:=zej own (args.flatMap AV.cvs) 0,stk:=[],nid:=(args.flatMap AV.cvs).length,ep:=0 } fun rs st=>zqf st rs []
def zEh (C:Cfg)(tms:FuncId->Nat->Option Tmpl)(N D:Nat)(f:FuncId)(own:List Bool)(ja jr:Nat)(js:List (List Nat))(t:Ty)(args:List AV):Option Ans :=
 zuY C tms N (ztu C tms N D) f ((zcP args 0).map .v) { tm:=[.v (.at (.kp ja js t))],lo:=[],ro:=zej own (args.flatMap AV.cvs) 0,stk:=[],nid:=(args.flatMap AV.cvs).length,ep:=0 } fun rs st =>
  match st.tm,(rs.flatMap zM)[jr]? with
  | [.v (.at (.kp n J t'))],some (.sl m [])=>cond (Nat.beq n m&&(J==js&&decide (t'=t))) (zqf st rs []) none
  | _,_=>none
section
variable {C:Cfg} {w0 w w1:World} {S0:zV} {U:Nat->Prop} {st st1:St} {E E1:Env} {ts:Array Value} {sv:List (Array Value)}
theorem zNe (hO:EngOk C){f:FuncId}{own:List Bool}{run:List AV->Option (Bool×List AV)}(hf:FnOk C.P f)(hal0:zhD f=[[]])(h:∀(avs:List AV) (rs:List AV),own.length=(zA avs).length->(∃(w:World) (xs:Nat->Value) (K:Nat->zV),∀(j:Nat) (c:CV),(zA avs)[j]?=some c->Rep false w (xs j) c (K j))->run avs=some (true,rs)->∃tms N D,zZF C tms N D f own avs=some rs)(hne:own.isEmpty=false:=by rfl):zdY C.P f own none run:=by
 refine zdY.of (by rintro rfl;cases hne) ?_
 intro al hal;rw[hal0,qF]at hal;subst hal;refine ⟨hf,fun w K avs xs rs hxl hol hrep hKlt hKd0 _ hrun=>?_⟩;have hKd:=fun i j x hi hj ho hne=>hKd0 i j x hi hj ho hne (by simp)
 obtain ⟨tms,N,D,hev⟩:=h avs rs hol ⟨w,fun j=>(xs[j]?).getD undef,K,fun j c hc=>by
  have hlt:=(qA.1 hc).1;have hu:=qB (show j<xs.length by rw[hxl];exact hlt)
  simp only[hu,j6];exact (hrep j c _ hc hu).ro⟩ hrun
 unfold zZF at hev;generalize hst:({ tm:=[],lo:=[],ro:=zej own (avs.flatMap AV.cvs) 0,stk:=[],nid:=(avs.flatMap AV.cvs).length,ep:=0 }:St)=st at hev;have hro0:st.ro=zej own (zA avs) 0:=by rw[<- hst];rfl
 have hroot0:∀r R,zn st.ro r=some R->R.ep=none/\r<(zA avs).length/\own[r]?=some R.own/\(zA avs)[r]?=some (.s R.t R.l):=by
  intro r R hR;rw[hro0]at hR;obtain ⟨_,t,l,h2,_,_,h5,h6⟩:=zkg own (zA avs) 0 r R hR;rw[h6]at h5 ⊢;simp only[vF]at h2 h5;exact ⟨rfl,(qA.1 h2).1,h5,h2⟩
 have hlo:∀l,zn st.lo l=none:=fun l=>by rw[<- hst];rfl
 let E:Env:={ ρ:=fun n=>(xs[n]?).getD undef,φ:=K,β:=fun _=>0,κ:=w }
 let S0:zV:=fun b=>∃j,j<(zA avs).length/\zT own j/\K j b
 have hS:Sim w S0 (fun n=>n<(zA avs).length) st E #[] [] w:=by
  refine ⟨⟨rfl,rfl,rfl,qV _,fun _ _ _=>rfl,fun r R hR=>?_,fun r R hR x hx=>?_,fun r R hR ho=>?_,fun r R r' R' hR ho hR' _ hne x hx=>?_,fun l cs hl=>?_,fun l l' cs cs' hl=>?_,fun l cs r R hl=>?_,fun r R e hR he=>?_,rfl⟩,⟨fun n R hn=>?_,fun n cs hn=>?_,fun m hm=>?_,fun f hf=>?_⟩,⟨?_,fun i m v hm=>?_⟩,?_⟩
  .obtain ⟨_,h1,h2,h3⟩:=hroot0 r R (zbr hR).1;have hu:=qB (show r<xs.length by omega)
   show Rep R.own w ((xs[r]?).getD undef) _ (K r)
   have:=hrep r _ _ h3 hu;rw[h2] at this;rw[hu];exact this
  .obtain ⟨_,h1,_,_⟩:=hroot0 r R (zbr hR).1;exact hKlt r x h1 hx
  .obtain ⟨he,h1,h2,_⟩:=hroot0 r R (zbr hR).1;refine ⟨he,fun x hx=>.inl ⟨r,h1,?_,hx⟩⟩
   show own[r]?=some true
   rw[h2,ho]
  .obtain ⟨_,h1,h2,_⟩:=hroot0 r R (zbr hR).1;obtain ⟨_,h1',_,_⟩:=hroot0 r' R' (zbr hR').1;exact hKd r r' x h1 h1' (by show own[r]?=some true;rw[h2,ho]) hne hx
  .rw [hlo]at hl;cases hl
  .rw [hlo]at hl;cases hl
  .rw [hlo]at hl;cases hl
  .rw [(hroot0 r R hR).1]at he;cases he
  .exact (hroot0 n R hn).2.1
  .rw [hlo]at hn;cases hn
  .rw [<- hst]at hm;simp at hm
  .rw [<- hst]at hf;simp at hf
  .rw [<- hst];rfl
  .rw [<- hst]at hm;simp at hm
  .rw [<- hst];trivial
 obtain ⟨hl1,hl2⟩:=zhf (w:=w) (st:=st) (E:=E) avs xs 0 hxl (fun i c u hc hu=>by
  have hr:=hrep i c u hc hu;refine ⟨?_,hr.one⟩;cases c with
  | i k n=>exact hr.int_inv
  | b x=>exact hr.bool_inv
  | s t l =>
   obtain ⟨⟨a,cap,hv,_⟩,_⟩:=hr.len;refine ⟨⟨a,_,cap,hv⟩,fun R hR=>?_⟩;have e:0+i=i:=by omega
   show some ((xs[0+i]?).getD undef)=some u
   rw[e,hu];rfl)
 have hnid:st.nid=(zA avs).length:=by rw[<- hst];rfl
 obtain ⟨_,hcalls⟩:=zjI hO (zij hO (tms:=tms) (N:=N) D) f _ st _ rs hev w S0 _ E #[] [] w (zbV avs xs).toArray
  (fun v w'=>w'.os=w.os/\w'.tape=w.tape/\w'.output=w.output/\w.heap.size<=w'.heap.size /\
   (∀b,b<w.heap.size->(∀j,j<(zA avs).length->zT own j->¬ K j b)->w'.heap[b]?=w.heap[b]?) /\
   ∃(ys:List Value) (Kr:Nat->zV),zdv true w' (zA rs) ys Kr/\v=zj4 (zbV rs ys) /\
    (∀i x,i<(zA rs).length->Kr i x->x<w'.heap.size/\((∃j,j<(zA avs).length/\zT own j/\K j x)\/w.heap.size<=x)) /\
    (∀i j x,i<(zA rs).length->j<(zA rs).length->i≠j->Kr i x->¬ Kr j x) /\
    (∀ja jr js,(none:Option (Nat×Nat×List (List Nat)))=some (ja,jr,js)->∀t l u,(zA avs)[ja]?=some (.s t l)->xs[ja]?=some u->∃l',(zA rs)[jr]?=some (.s t l')/\ys[jr]?=some u /\
     ∀p v,zQ w t u p=some v->js.any (fun c=>c.isPrefixOf (cols p))=false->zQ w' t u p=some v)) hS (fun n hn h=>by omega)
  (by simp[hl1]) (fun i m v hm hv=>by
   rw[qN]at hm;cases hx:(zcP avs 0)[i]? with
   | none=>rw[hx]at hm;cases hm
   | some x=>rw[hx]at hm;cases hm;exact hl2 i x v hx (by simpa using hv))
  (fun m hm n hn=>by
   obtain ⟨x,hx,rfl⟩:=jB.1 hm;simp only[MV.ids,zby,qP]at hn;obtain ⟨a,ha,hn⟩:=hn;have:=(zfn avs 0 n x a hx ha hn).2;omega)
  (fun U' st' E' w' tvs v hS' _ _ _ hv _ hans=>by
   obtain ⟨us,rfl,hul,huv⟩:=zym hv;obtain ⟨ats,ys,ks,hG,hyl,hyv,rfl,_⟩:=zhY tvs [] rs us hans hul huv;have hM:=hS'.mem;have hget:∀i,i<(zA rs).length->∃a,ats[i]?=some a:=fun i hi=>⟨_,qB (by rw[<- hG.len];exact hi)⟩
   have hKr:∀i x,cφ E' ats i x->∃r∈ks,∃R,ats[i]?=some (.sl r [])/\st'.root r=some R/\R.own=true/\E'.φ r x:=by
    intro i x hx;obtain ⟨a,ha,hx⟩:=ztz hx;obtain ⟨r,hr,rfl,hrx⟩:=hG.fi ha hx;obtain ⟨R,hR,ho⟩:=hG.own r hr;exact ⟨r,hr,R,ha,hR,ho,hrx⟩
   refine ⟨hM.os,hM.tape,hM.output,hM.size,fun b hb hnk=>hM.keep b hb (fun ⟨j,hj,ho,hk⟩=>hnk j hj ho hk),ys,cφ E' ats,⟨by rw[hyl,hG.len],fun i c x hc hx=>?_⟩,rfl,fun i x hi hx=>?_,fun i j x hi hj hne hx hx'=>?_,fun ja jr js h=>by cases h⟩
   .obtain ⟨a,ha⟩:=hget i (qA.1 hc).1;rw[zgU ha];exact hG.rep hM ha hc (hyv i a x ha hx)
   .obtain ⟨r,hr,R,_,h1,h2,h4⟩:=hKr i x hx;exact ⟨hM.rlt r R h1 x h4,(hM.mine r R h1 h2).2 x h4⟩
   .obtain ⟨r,hr,R,g1,h1,h2,h4⟩:=hKr i x hx;obtain ⟨r',hr',R',g1',h1',h2',h4'⟩:=hKr j x hx';have:=hM.own_apart h1 h2 h1' h2' h4 h4';subst this;exact hne (hG.inj i j r g1 g1'))
 refine hcalls.mono ?_;intro ex w' he;cases ex with
 | returned v=>exact he
 | panicked chain=>exact he.elim
 | outgrown=>exact he.elim
theorem zli (hO:EngOk C){f:FuncId}{own:List Bool}{ja jr:Nat}{js:List (List Nat)}{kt:Ty}{run:List AV->Option (Bool×List AV)}(hf:FnOk C.P f)(hal0:zhD f=[[]])(h:∀(avs:List AV) (rs:List AV),own.length=(zA avs).length->(∃(w:World) (xs:Nat->Value) (K:Nat->zV),∀(j:Nat) (c:CV),(zA avs)[j]?=some c->Rep false w (xs j) c (K j))->run avs=some (true,rs)->(∃l,(zA avs)[ja]?=some (.s kt l))/\own[ja]?=some true/\∃tms N D,zEh C tms N D f own ja jr js kt avs=some rs)(hne:own.isEmpty=false:=by rfl):zdY C.P f own (some (ja,jr,js)) run:=by
 refine zdY.of (by rintro rfl;cases hne) ?_
 intro al hal;rw[hal0,qF]at hal;subst hal;refine ⟨hf,fun w K avs xs rs hxl hol hrep hKlt hKd0 _ hrun=>?_⟩;have hKd:=fun i j x hi hj ho hne=>hKd0 i j x hi hj ho hne (by simp)
 obtain ⟨⟨kl,hkl⟩,hoj,tms,N,D,hev⟩:=h avs rs hol ⟨w,fun j=>(xs[j]?).getD undef,K,fun j c hc=>by
  have hlt:=(qA.1 hc).1;have hu:=qB (show j<xs.length by rw[hxl];exact hlt)
  simp only[hu,j6];exact (hrep j c _ hc hu).ro⟩ hrun
 unfold zEh at hev;have hjl:ja<(zA avs).length:=(qA.1 hkl).1;have hjx:ja<xs.length:=by rw[hxl];exact hjl
 have hju:=qB hjx;generalize hst:({ tm:=[.v (.at (.kp ja js kt))],lo:=[],ro:=zej own (avs.flatMap AV.cvs) 0,stk:=[],nid:=(avs.flatMap AV.cvs).length,ep:=0 }:St)=st at hev;have hro0:st.ro=zej own (zA avs) 0:=by rw[<- hst];rfl
 have hroot0:∀r R,zn st.ro r=some R->R.ep=none/\r<(zA avs).length/\own[r]?=some R.own/\(zA avs)[r]?=some (.s R.t R.l):=by
  intro r R hR;rw[hro0]at hR;obtain ⟨_,t,l,h2,_,_,h5,h6⟩:=zkg own (zA avs) 0 r R hR;rw[h6]at h5 ⊢;simp only[vF]at h2 h5;exact ⟨rfl,(qA.1 h2).1,h5,h2⟩
 have hlo:∀l,zn st.lo l=none:=fun l=>by rw[<- hst];rfl
 let E:Env:={ ρ:=fun n=>(xs[n]?).getD undef,φ:=K,β:=fun _=>0,κ:=w }
 let S0:zV:=fun b=>∃j,j<(zA avs).length/\zT own j/\K j b
 have hS:Sim w S0 (fun n=>n<(zA avs).length) st E #[xs[ja]] [] w:=by
  refine ⟨⟨rfl,rfl,rfl,qV _,fun _ _ _=>rfl,fun r R hR=>?_,fun r R hR x hx=>?_,fun r R hR ho=>?_,fun r R r' R' hR ho hR' _ hne x hx=>?_,fun l cs hl=>?_,fun l l' cs cs' hl=>?_,fun l cs r R hl=>?_,fun r R e hR he=>?_,rfl⟩,⟨fun n R hn=>?_,fun n cs hn=>?_,fun m hm=>?_,fun f hf=>?_⟩,⟨?_,fun i m v hm hv=>?_⟩,?_⟩
  .obtain ⟨_,h1,h2,h3⟩:=hroot0 r R (zbr hR).1;have hu:=qB (show r<xs.length by omega)
   show Rep R.own w ((xs[r]?).getD undef) _ (K r)
   have:=hrep r _ _ h3 hu;rw[h2] at this;rw[hu];exact this
  .obtain ⟨_,h1,_,_⟩:=hroot0 r R (zbr hR).1;exact hKlt r x h1 hx
  .obtain ⟨he,h1,h2,_⟩:=hroot0 r R (zbr hR).1;refine ⟨he,fun x hx=>.inl ⟨r,h1,?_,hx⟩⟩
   show own[r]?=some true
   rw[h2,ho]
  .obtain ⟨_,h1,h2,_⟩:=hroot0 r R (zbr hR).1;obtain ⟨_,h1',_,_⟩:=hroot0 r' R' (zbr hR').1;exact hKd r r' x h1 h1' (by show own[r]?=some true;rw[h2,ho]) hne hx
  .rw [hlo]at hl;cases hl
  .rw [hlo]at hl;cases hl
  .rw [hlo]at hl;cases hl
  .rw [(hroot0 r R hR).1]at he;cases he
  .exact (hroot0 n R hn).2.1
  .rw [hlo]at hn;cases hn
  .rw [<- hst]at hm;simp only[qF]at hm;subst hm;intro n hn;simp only[MV.ids,zby,zM,j8,uG,At.ids,zbj,zbl,q9,qF]at hn;subst hn;exact hjl
  .rw [<- hst]at hf;simp at hf
  .rw [<- hst];rfl
  .rw [<- hst]at hm;cases i with
   | succ i=>simp at hm
   | zero =>
    simp only[qH,qC]at hm hv;subst hm;have hv:xs[ja]=v:=by simpa using hv
    subst hv;have hr:=hrep ja _ _ hkl hju;obtain ⟨⟨a,cap,hva,_⟩,_⟩:=hr.len;refine ⟨⟨a,_,cap,hva⟩,fun R hR=>?_⟩;obtain ⟨_,_,_,h4⟩:=hroot0 ja R (zbr hR).1;rw[hkl]at h4;cases h4;refine ⟨rfl,?_,fun p u hp _=>hp⟩
    show (xs[ja]?).getD undef=xs[ja]
    rw[hju];rfl
  .rw [<- hst];trivial
 obtain ⟨hl1,hl2⟩:=zhf (w:=w) (st:=st) (E:=E) avs xs 0 hxl (fun i c u hc hu=>by
  have hr:=hrep i c u hc hu;refine ⟨?_,hr.one⟩;cases c with
  | i k n=>exact hr.int_inv
  | b x=>exact hr.bool_inv
  | s t l =>
   obtain ⟨⟨a,cap,hv,_⟩,_⟩:=hr.len;refine ⟨⟨a,_,cap,hv⟩,fun R hR=>?_⟩;have e:0+i=i:=by omega
   show some ((xs[0+i]?).getD undef)=some u
   rw[e,hu];rfl)
 have hnid:st.nid=(zA avs).length:=by rw[<- hst];rfl
 obtain ⟨_,hcalls⟩:=zjI hO (zij hO (tms:=tms) (N:=N) D) f _ st _ rs hev w S0 _ E #[xs[ja]] [] w (zbV avs xs).toArray
  (fun v w'=>w'.os=w.os/\w'.tape=w.tape/\w'.output=w.output/\w.heap.size<=w'.heap.size /\
   (∀b,b<w.heap.size->(∀j,j<(zA avs).length->zT own j->¬ K j b)->w'.heap[b]?=w.heap[b]?) /\
   ∃(ys:List Value) (Kr:Nat->zV),zdv true w' (zA rs) ys Kr/\v=zj4 (zbV rs ys) /\
    (∀i x,i<(zA rs).length->Kr i x->x<w'.heap.size/\((∃j,j<(zA avs).length/\zT own j/\K j x)\/w.heap.size<=x)) /\
    (∀i j x,i<(zA rs).length->j<(zA rs).length->i≠j->Kr i x->¬ Kr j x) /\
    (∀ja2 jr2 js2,some (ja,jr,js)=some (ja2,jr2,js2)->∀t l u,(zA avs)[ja2]?=some (.s t l)->xs[ja2]?=some u->∃l',(zA rs)[jr2]?=some (.s t l')/\ys[jr2]?=some u /\
     ∀p v,zQ w t u p=some v->js2.any (fun c=>c.isPrefixOf (cols p))=false->zQ w' t u p=some v)) hS (fun n hn h=>by omega)
  (by simp[hl1]) (fun i m v hm hv=>by
   rw[qN]at hm;cases hx:(zcP avs 0)[i]? with
   | none=>rw[hx]at hm;cases hm
   | some x=>rw[hx]at hm;cases hm;exact hl2 i x v hx (by simpa using hv))
  (fun m hm n hn=>by
   obtain ⟨x,hx,rfl⟩:=jB.1 hm;simp only[MV.ids,zby,qP]at hn;obtain ⟨a,ha,hn⟩:=hn;have:=(zfn avs 0 n x a hx ha hn).2;omega)
  (fun U' st' E' w' tvs v hS' _ _ _ hv _ hans=>by
   obtain ⟨us,rfl,hul,huv⟩:=zym hv;split at hans
   rotate_left
   .cases hans
   rename_i n J t' m htm hrm;cases hck:(Nat.beq n m&&(J==js&&decide (t'=kt))) with
   | false=>rw[hck]at hans;cases hans
   | true =>
   rw[hck]at hans;simp only[cond_true]at hans;simp only[qD,kO,qK,qU]at hck;obtain ⟨hnm,hJ,ht⟩:=hck;subst hnm hJ ht;obtain ⟨ats,ys,ks,hG,hyl,hyv,rfl,_,hats⟩:=zhY tvs [] rs us hans hul huv;have hM:=hS'.mem;have hget:∀i,i<(zA rs).length->∃a,ats[i]?=some a:=fun i hi=>⟨_,qB (by rw[<- hG.len];exact hi)⟩
   have hKr:∀i x,cφ E' ats i x->∃r∈ks,∃R,ats[i]?=some (.sl r [])/\st'.root r=some R/\R.own=true/\E'.φ r x:=by
    intro i x hx;obtain ⟨a,ha,hx⟩:=ztz hx;obtain ⟨r,hr,rfl,hrx⟩:=hG.fi ha hx;obtain ⟨R,hR,ho⟩:=hG.own r hr;exact ⟨r,hr,R,ha,hR,ho,hrx⟩
   refine ⟨hM.os,hM.tape,hM.output,hM.size,fun b hb hnk=>hM.keep b hb (fun ⟨j,hj,ho,hk⟩=>hnk j hj ho hk),ys,cφ E' ats,⟨by rw[hyl,hG.len],fun i c x hc hx=>?_⟩,rfl,fun i x hi hx=>?_,fun i j x hi hj hne hx hx'=>?_,fun ja2 jr2 js2 he t l u hcl hxu=>?_⟩
   .obtain ⟨a,ha⟩:=hget i (qA.1 hc).1;rw[zgU ha];exact hG.rep hM ha hc (hyv i a x ha hx)
   .obtain ⟨r,hr,R,_,h1,h2,h4⟩:=hKr i x hx;exact ⟨hM.rlt r R h1 x h4,(hM.mine r R h1 h2).2 x h4⟩
   .obtain ⟨r,hr,R,g1,h1,h2,h4⟩:=hKr i x hx;obtain ⟨r',hr',R',g1',h1',h2',h4'⟩:=hKr j x hx';have:=hM.own_apart h1 h2 h1' h2' h4 h4';subst this;exact hne (hG.inj i j r g1 g1')
   .cases he;rw[hkl]at hcl;cases hcl;rw[hju]at hxu;cases hxu;have ha:ats[jr]?=some (.sl n []):=by rw[hats];exact hrm
    rcases hG.get jr _ ha with ⟨_,_,h,_⟩|⟨_,h,_⟩|⟨r,R,h,hR,_,hcs⟩
    .cases h
    .cases h
    .cases h;have hty:=hS'.tm.2 0 (.v (.at (.kp n J t'))) xs[ja] (by rw[htm];rfl) (by simp)
     obtain ⟨e1,e2,e3⟩:=hty.2 R hR;have hyl2:jr<ys.length:=by rw[hyl];exact (qA.1 ha).1
     have hy:=qB hyl2;have e4:=(hyv jr _ _ ha hy).2 R hR;simp only[zQ,qC] at e4;refine ⟨e1 ▸ R.l,?_,by rw[hy,<- e4,e2],?_⟩
     .rw [hcs];cases e1;rfl
     .rw [hM.κ] at e3;exact e3)
 refine hcalls.mono ?_;intro ex w' he;cases ex with
 | returned v=>exact he
 | panicked chain=>exact he.elim
 | outgrown=>exact he.elim
def zTc (al:List (Nat×Nat)):At->At
 | .sl r []=>match al.find? (fun x=>Nat.beq x.1 r) with
  | some x=>.sl x.2 []
  | none=>.sl r []
 | a=>a
def zSK (C:Cfg)(tms:FuncId->Nat->Option Tmpl)(N D:Nat)(f:FuncId)(own:List Bool)(al:List (Nat×Nat))(ja jr:Nat)(js:List (List Nat))(t:Ty)(args:List AV):Option Ans :=
 zuY C tms N (ztu C tms N D) f (((zcP args 0).map .v).map (zja (zTc al))) { tm:=[.v (.at (.kp ja js t))],lo:=[],ro:=(zej own (args.flatMap AV.cvs) 0).filter (fun x=>!al.any (fun y=>Nat.beq y.1 x.1)),stk:=[],nid:=(args.flatMap AV.cvs).length,ep:=0 } fun rs st =>
  match st.tm,(rs.flatMap zM)[jr]? with
  | [.v (.at (.kp n J t'))],some (.sl m [])=>cond (Nat.beq n m&&(J==js&&decide (t'=t))) (zqf st rs []) none
  | _,_=>none
def zVE (a:At):Prop:=(∃k n,a = .i k n)\/(∃b,a = .b b)\/∃r,a = .sl r []
theorem zsG:∀(cs:List CV) (id:Nat) (a:At),a∈zgr cs id->zVE a
 | [],_,_,h=>by simp[zgr]at h
 | .i k n :: cs,id,a,h=>by
  simp only[zgr,qI]at h;rcases h with rfl|h
  .exact .inl ⟨k,n,rfl⟩
  .exact zsG cs (id+1) a h
 | .b x :: cs,id,a,h=>by
  simp only[zgr,qI]at h;rcases h with rfl|h
  .exact .inr (.inl ⟨x,rfl⟩)
  .exact zsG cs (id+1) a h
 | .s t l :: cs,id,a,h=>by
  simp only[zgr,qI]at h;rcases h with rfl|h
  .exact .inr (.inr ⟨id,rfl⟩)
  .exact zsG cs (id+1) a h
theorem zwq:∀(rs:List AV) (id:Nat) (x:TV) (a:At),x∈zcP rs id->a∈zM x->zVE a
 | [],_,_,_,h,_=>by simp[zcP]at h
 | .one c :: rs,id,x,a,h,ha=>by
  simp only[zcP,qI]at h;rcases h with rfl|h
  .simp only [zM,qF]at ha;subst ha;cases c with
   | i k n=>exact .inl ⟨k,n,rfl⟩
   | b x=>exact .inr (.inl ⟨x,rfl⟩)
   | s t l=>exact .inr (.inr ⟨id,rfl⟩)
  .exact zwq rs (id+1) x a h ha
 | .agg cs :: rs,id,x,a,h,ha=>by
  simp only[zcP,qI]at h;rcases h with rfl|h
  .exact zsG cs id a ha
  .exact zwq rs (id+cs.length) x a h ha
theorem z8s {w1:World}{st1:St}{E1:Env}{w:World}{st:St}{E:Env}{f:At->At}{P:At->Prop}(T:∀a v,P a->VA w st E a v->VA w1 st1 E1 (f a) v){x:TV}{v:Value}(hP:∀a∈zM x,P a)(h:VT w st E x v):VT w1 st1 E1 (zqv f x) v:=by
 rcases x with a|l
 .exact T a v (hP a (by simp[zM])) h
 .obtain ⟨vs,h1,h2,h3⟩:=h;refine ⟨vs,h1,by simp[h2],fun j a u ha hu=>?_⟩
  rw[qN]at ha;cases hl:l[j]? with
  | none=>rw[hl]at ha;cases ha
  | some b=>rw[hl]at ha;cases ha;exact ⟨(h3 j b u hl hu).1,T _ _ (hP b (by simp only[zM];exact qL hl)) (h3 j b u hl hu).2⟩
theorem z3z {al:List (Nat×Nat)}{a:At}{n:Nat}(h:n∈(zTc al a).ids):n∈a.ids\/∃r,(r,n)∈al:=by
 unfold zTc at h;split at h
 .split at h
  .rename_i r x hx;simp only[At.ids,zbj,zbl,q9,qF]at h;subst h;exact .inr ⟨x.1,uO hx⟩
  .exact .inl h
 .exact .inl h
theorem zqe {α:Type}(q:Nat->Bool):∀(l:List (Nat×α)) (n:Nat) (x:α),zn (l.filter (fun y=>q y.1)) n=some x->q n=true/\zn l n=some x
 | [],_,_,h=>by simp[zn]at h
 | (k,v) :: l,n,x,h=>by
  cases hq:q k with
  | false =>
   rw[List.filter_cons_of_neg (by simp[hq])]at h
   obtain ⟨h1,h2⟩:=zqe q l n x h;refine ⟨h1,?_⟩;simp only[zn];cases hk:k==n with
   | false=>exact h2
   | true =>
    have:k=n:=by simpa using hk
    subst this;rw[hq]at h1;cases h1
  | true =>
   rw[List.filter_cons_of_pos (by simp[hq])]at h
   simp only[zn]at h ⊢;cases hk:k==n with
   | false =>
    rw[hk]at h;exact zqe q l n x (by simpa using h)
   | true =>
    rw[hk]at h;have:k=n:=by simpa using hk
    subst this;exact ⟨hq,by simpa using h⟩
theorem zNd (hO:EngOk C){f:FuncId}{own:List Bool}{ja jr:Nat}{js:List (List Nat)}{kt:Ty}{run:List AV->Option (Bool×List AV)}(hf:FnOk C.P f)(h:∀(al:List (Nat×Nat)) (avs:List AV) (rs:List AV),al∈zhD f->(∀j i,(j,i)∈al->(zA avs)[j]?=(zA avs)[i]?)->own.length=(zA avs).length->(∃(w:World) (xs:Nat->Value) (K:Nat->zV),∀(j:Nat) (c:CV),(zA avs)[j]?=some c->Rep false w (xs j) c (K j))->run avs=some (true,rs)->(∃l,(zA avs)[ja]?=some (.s kt l))/\own[ja]?=some true/\∃tms N D,zSK C tms N D f own al ja jr js kt avs=some rs)(hne:own.isEmpty=false:=by rfl):zdY C.P f own (some (ja,jr,js)) run:=by
 refine zdY.of (by rintro rfl;cases hne) ?_
 intro al hal;refine ⟨hf,fun w K avs xs rs hxl hol hrep hKlt hKd0 hali hrun=>?_⟩;obtain ⟨⟨kl,hkl⟩,hoj,tms,N,D,hev⟩:=h al avs rs hal (fun j i hji=>(hali j i hji).2.2.2.1) hol ⟨w,fun j=>(xs[j]?).getD undef,K,fun j c hc=>by
  have hlt:=(qA.1 hc).1;have hu:=qB (show j<xs.length by rw[hxl];exact hlt)
  simp only[hu,j6];exact (hrep j c _ hc hu).ro⟩ hrun
 unfold zSK at hev;have hjl:ja<(zA avs).length:=(qA.1 hkl).1;have hjx:ja<xs.length:=by rw[hxl];exact hjl
 have hju:=qB hjx;generalize hst:({ tm:=[.v (.at (.kp ja js kt))],lo:=[],ro:=(zej own (avs.flatMap AV.cvs) 0).filter (fun x=>!al.any (fun y=>Nat.beq y.1 x.1)),stk:=[],nid:=(avs.flatMap AV.cvs).length,ep:=0 }:St)=st at hev;have hro0:st.ro=(zej own (zA avs) 0).filter (fun x=>!al.any (fun y=>Nat.beq y.1 x.1)):=by rw[<- hst];rfl
 have hna:∀r R,zn st.ro r=some R->∀i,(r,i)∉al:=by
  intro r R hR i hi;rw[hro0]at hR;have:=(zqe (fun n=>!al.any (fun y=>Nat.beq y.1 n)) _ r R hR).1;simp only[jA,kU] at this;exact this _ hi (Nat.beq_refl r)
 have hroot0:∀r R,zn st.ro r=some R->R.ep=none/\r<(zA avs).length/\own[r]?=some R.own/\(zA avs)[r]?=some (.s R.t R.l):=by
  intro r R hR;rw[hro0]at hR;obtain ⟨_,t,l,h2,_,_,h5,h6⟩:=zkg own (zA avs) 0 r R (zqe (fun n=>!al.any (fun y=>Nat.beq y.1 n)) _ r R hR).2;rw[h6]at h5 ⊢;simp only[vF]at h2 h5;exact ⟨rfl,(qA.1 h2).1,h5,h2⟩
 have hlo:∀l,zn st.lo l=none:=fun l=>by rw[<- hst];rfl
 let E:Env:={ ρ:=fun n=>(xs[n]?).getD undef,φ:=K,β:=fun _=>0,κ:=w }
 let S0:zV:=fun b=>∃j,j<(zA avs).length/\zT own j/\K j b
 have hS:Sim w S0 (fun n=>n<(zA avs).length) st E #[xs[ja]] [] w:=by
  refine ⟨⟨rfl,rfl,rfl,qV _,fun _ _ _=>rfl,fun r R hR=>?_,fun r R hR x hx=>?_,fun r R hR ho=>?_,fun r R r' R' hR ho hR' _ hne x hx=>?_,fun l cs hl=>?_,fun l l' cs cs' hl=>?_,fun l cs r R hl=>?_,fun r R e hR he=>?_,rfl⟩,⟨fun n R hn=>?_,fun n cs hn=>?_,fun m hm=>?_,fun f hf=>?_⟩,⟨?_,fun i m v hm hv=>?_⟩,?_⟩
  .obtain ⟨_,h1,h2,h3⟩:=hroot0 r R (zbr hR).1;have hu:=qB (show r<xs.length by omega)
   show Rep R.own w ((xs[r]?).getD undef) _ (K r)
   have:=hrep r _ _ h3 hu;rw[h2] at this;rw[hu];exact this
  .obtain ⟨_,h1,_,_⟩:=hroot0 r R (zbr hR).1;exact hKlt r x h1 hx
  .obtain ⟨he,h1,h2,_⟩:=hroot0 r R (zbr hR).1;refine ⟨he,fun x hx=>.inl ⟨r,h1,?_,hx⟩⟩
   show own[r]?=some true
   rw[h2,ho]
  .obtain ⟨_,h1,h2,_⟩:=hroot0 r R (zbr hR).1;obtain ⟨_,h1',_,_⟩:=hroot0 r' R' (zbr hR').1;exact hKd0 r r' x h1 h1' (by show own[r]?=some true;rw[h2,ho]) hne (hna r' R' (zbr hR').1 r) hx
  .rw [hlo]at hl;cases hl
  .rw [hlo]at hl;cases hl
  .rw [hlo]at hl;cases hl
  .rw [(hroot0 r R hR).1]at he;cases he
  .exact (hroot0 n R hn).2.1
  .rw [hlo]at hn;cases hn
  .rw [<- hst]at hm;simp only[qF]at hm;subst hm;intro n hn;simp only[MV.ids,zby,zM,j8,uG,At.ids,zbj,zbl,q9,qF]at hn;subst hn;exact hjl
  .rw [<- hst]at hf;simp at hf
  .rw [<- hst];rfl
  .rw [<- hst]at hm;cases i with
   | succ i=>simp at hm
   | zero =>
    simp only[qH,qC]at hm hv;subst hm;have hv:xs[ja]=v:=by simpa using hv
    subst hv;have hr:=hrep ja _ _ hkl hju;obtain ⟨⟨a,cap,hva,_⟩,_⟩:=hr.len;refine ⟨⟨a,_,cap,hva⟩,fun R hR=>?_⟩;obtain ⟨_,_,_,h4⟩:=hroot0 ja R (zbr hR).1;rw[hkl]at h4;cases h4;refine ⟨rfl,?_,fun p u hp _=>hp⟩
    show (xs[ja]?).getD undef=xs[ja]
    rw[hju];rfl
  .rw [<- hst];trivial
 let st0:St:={ st with ro:=(List.range (zA avs).length).map (fun r=>(r,(⟨.int,[],false,none⟩:Root))),ep:=0 }
 have hst0:∀r,r<(zA avs).length->st0.root r=some ⟨.int,[],false,none⟩:=by
  intro r hr;have:∀(n k:Nat),k<=r->r<k+n->zn ((List.range' k n).map (fun r=>(r,(⟨.int,[],false,none⟩:Root)))) r=some ⟨.int,[],false,none⟩:=by
   intro n
   induction n with
   | zero=>intro k h1 h2;omega
   | succ n ih =>
    intro k h1 h2;simp only[vC,jC,zn]
    by_cases he:k=r
    .subst he;simp
    .have hb:(k==r)=false:=by simpa using he
     simp only[hb,kA,if_false];exact ih (k+1) (by omega) (by omega)
  have h2:=this (zA avs).length 0 (jV _) (by omega)
  rw[<- List.range_eq_range']at h2;exact ziz h2 (.inl rfl)
 obtain ⟨hl1,hl2⟩:=zhf (w:=w) (st:=st0) (E:=E) avs xs 0 hxl (fun i c u hc hu=>by
  have hr:=hrep i c u hc hu;refine ⟨?_,hr.one⟩;cases c with
  | i k n=>exact hr.int_inv
  | b x=>exact hr.bool_inv
  | s t l =>
   obtain ⟨⟨a,cap,hv,_⟩,_⟩:=hr.len;refine ⟨⟨a,_,cap,hv⟩,fun R hR=>?_⟩;have e:0+i=i:=by omega
   show some ((xs[0+i]?).getD undef)=some u
   rw[e,hu];rfl)
 have hT:∀a v,(zVE a/\∀n∈a.ids,n<(zA avs).length)->VA w st0 E a v->VA w st E (zTc al a) v:=by
  intro a v ⟨hpl,hid⟩ hv;have hkey:∀r,∀i,(r,i)∈al->E.ρ i=E.ρ r:=by
   intro r i hi
   show (xs[i]?).getD undef=(xs[r]?).getD undef
   rw[(hali r i hi).2.2.1]
  rcases hpl with ⟨k,n,rfl⟩|⟨b,rfl⟩|⟨r,rfl⟩
  .exact hv
  .exact hv
  .have hr:r<(zA avs).length:=hid r (by simp[At.ids,zbj])
   have e1:=hv.2 _ (hst0 r hr);simp only[zQ,qC] at e1;simp only[zTc];split
   .rename_i x hx;have hm:=uO hx;have hx1:x.1=r:=jQ (by simpa using List.find?_some hx)
    subst hx1;refine ⟨hv.1,fun R _=>?_⟩;simp only[zQ,qC];rw[hkey x.1 x.2 hm];exact e1
   .refine ⟨hv.1,fun R _=>?_⟩;simp only[zQ,qC];exact e1
 have hnid:st.nid=(zA avs).length:=by rw[<- hst];rfl
 obtain ⟨_,hcalls⟩:=zjI hO (zij hO (tms:=tms) (N:=N) D) f _ st _ rs hev w S0 _ E #[xs[ja]] [] w (zbV avs xs).toArray
  (fun v w'=>w'.os=w.os/\w'.tape=w.tape/\w'.output=w.output/\w.heap.size<=w'.heap.size /\
   (∀b,b<w.heap.size->(∀j,j<(zA avs).length->zT own j->¬ K j b)->w'.heap[b]?=w.heap[b]?) /\
   ∃(ys:List Value) (Kr:Nat->zV),zdv true w' (zA rs) ys Kr/\v=zj4 (zbV rs ys) /\
    (∀i x,i<(zA rs).length->Kr i x->x<w'.heap.size/\((∃j,j<(zA avs).length/\zT own j/\K j x)\/w.heap.size<=x)) /\
    (∀i j x,i<(zA rs).length->j<(zA rs).length->i≠j->Kr i x->¬ Kr j x) /\
    (∀ja2 jr2 js2,some (ja,jr,js)=some (ja2,jr2,js2)->∀t l u,(zA avs)[ja2]?=some (.s t l)->xs[ja2]?=some u->∃l',(zA rs)[jr2]?=some (.s t l')/\ys[jr2]?=some u /\
     ∀p v,zQ w t u p=some v->js2.any (fun c=>c.isPrefixOf (cols p))=false->zQ w' t u p=some v)) hS (fun n hn h=>by omega)
  (by simp[hl1]) (fun i m v hm hv=>by
   rw[qN,qN]at hm;cases hx:(zcP avs 0)[i]? with
   | none=>rw[hx]at hm;cases hm
   | some x =>
    rw[hx]at hm;cases hm;exact z8s hT (fun a ha=>⟨zwq avs 0 x a (qL hx) ha,fun n hn=>by
     have:=(zfn avs 0 n x a (qL hx) ha hn).2;omega⟩) (hl2 i x v hx (by simpa using hv)))
  (fun m hm n hn=>by
   obtain ⟨m0,hm0,rfl⟩:=jB.1 hm;obtain ⟨x,hx,rfl⟩:=jB.1 hm0;obtain ⟨a,ha,hn⟩:=zQz hn;simp only[zby]at ha;rcases z3z hn with h|⟨r,h⟩
   .have:=(zfn avs 0 n x a hx ha h).2;omega
   .obtain ⟨_,_,_,_,t,l,h5⟩:=hali r n h;exact (qA.1 h5).1)
  (fun U' st' E' w' tvs v hS' _ _ _ hv _ hans=>by
   obtain ⟨us,rfl,hul,huv⟩:=zym hv;split at hans
   rotate_left
   .cases hans
   rename_i n J t' m htm hrm;cases hck:(Nat.beq n m&&(J==js&&decide (t'=kt))) with
   | false=>rw[hck]at hans;cases hans
   | true =>
   rw[hck]at hans;simp only[cond_true]at hans;simp only[qD,kO,qK,qU]at hck;obtain ⟨hnm,hJ,ht⟩:=hck;subst hnm hJ ht;obtain ⟨ats,ys,ks,hG,hyl,hyv,rfl,_,hats⟩:=zhY tvs [] rs us hans hul huv;have hM:=hS'.mem;have hget:∀i,i<(zA rs).length->∃a,ats[i]?=some a:=fun i hi=>⟨_,qB (by rw[<- hG.len];exact hi)⟩
   have hKr:∀i x,cφ E' ats i x->∃r∈ks,∃R,ats[i]?=some (.sl r [])/\st'.root r=some R/\R.own=true/\E'.φ r x:=by
    intro i x hx;obtain ⟨a,ha,hx⟩:=ztz hx;obtain ⟨r,hr,rfl,hrx⟩:=hG.fi ha hx;obtain ⟨R,hR,ho⟩:=hG.own r hr;exact ⟨r,hr,R,ha,hR,ho,hrx⟩
   refine ⟨hM.os,hM.tape,hM.output,hM.size,fun b hb hnk=>hM.keep b hb (fun ⟨j,hj,ho,hk⟩=>hnk j hj ho hk),ys,cφ E' ats,⟨by rw[hyl,hG.len],fun i c x hc hx=>?_⟩,rfl,fun i x hi hx=>?_,fun i j x hi hj hne hx hx'=>?_,fun ja2 jr2 js2 he t l u hcl hxu=>?_⟩
   .obtain ⟨a,ha⟩:=hget i (qA.1 hc).1;rw[zgU ha];exact hG.rep hM ha hc (hyv i a x ha hx)
   .obtain ⟨r,hr,R,_,h1,h2,h4⟩:=hKr i x hx;exact ⟨hM.rlt r R h1 x h4,(hM.mine r R h1 h2).2 x h4⟩
   .obtain ⟨r,hr,R,g1,h1,h2,h4⟩:=hKr i x hx;obtain ⟨r',hr',R',g1',h1',h2',h4'⟩:=hKr j x hx';have:=hM.own_apart h1 h2 h1' h2' h4 h4';subst this;exact hne (hG.inj i j r g1 g1')
   .cases he;rw[hkl]at hcl;cases hcl;rw[hju]at hxu;cases hxu;have ha:ats[jr]?=some (.sl n []):=by rw[hats];exact hrm
    rcases hG.get jr _ ha with ⟨_,_,h,_⟩|⟨_,h,_⟩|⟨r,R,h,hR,_,hcs⟩
    .cases h
    .cases h
    .cases h;have hty:=hS'.tm.2 0 (.v (.at (.kp n J t'))) xs[ja] (by rw[htm];rfl) (by simp)
     obtain ⟨e1,e2,e3⟩:=hty.2 R hR;have hyl2:jr<ys.length:=by rw[hyl];exact (qA.1 ha).1
     have hy:=qB hyl2;have e4:=(hyv jr _ _ ha hy).2 R hR;simp only[zQ,qC] at e4;refine ⟨e1 ▸ R.l,?_,by rw[hy,<- e4,e2],?_⟩
     .rw [hcs];cases e1;rfl
     .rw [hM.κ] at e3;exact e3)
 refine hcalls.mono ?_;intro ex w' he;cases ex with
 | returned v=>exact he
 | panicked chain=>exact he.elim
 | outgrown=>exact he.elim
end
def zbc (h:Host):List CV:=[.s (.sl .int) h.Memory,.s .mon h.Mons,.s .entry h.Buffer,.s .entry h.IoBuffer]
def zBW (c:Ctl):List CV:=[.i .i64 c.Traps,.i .i64 c.Post,.b c.Open]
def zlg (e:GExit):List CV:=[.i .i64 e.Kind,.i .i64 e.Page,.b e.Write,.i .i64 e.N]
structure Cur where
 b:List Int
 i:Int
 h:Int
def zbI (c:Cur):List CV:=[.s .u8 c.b,.i .i64 c.i,.i .i64 c.h]
def zq:List (Nat×Nat×Tmpl)->FuncId->Nat->Option Tmpl
 | [],_,_=>none
 | (g,c,T) :: r,f,b=>cond (Nat.beq g f) (cond (Nat.beq c b) (some T) (zq r f b)) (zq r f b)
def pc (p:Prop):Bool:=@decide p (Classical.propDecidable p)
theorem zF {p:Prop}:pc p=true↔p:=by
 unfold pc;exact @decide_eq_true_iff p (Classical.propDecidable p)
theorem zU {p:Prop}(h:p):pc p=true:=zF.2 h
inductive CVB (K:Nat):CV->Prop
 | i (k:IntKind) (n:Int):CVB K (.i k n)
 | b (x:Bool):CVB K (.b x)
 | s (t:Ty) (l:List t.den) (hl:l.length<=K) (h:∀x∈l,∀c∈t.cells x,CVB K c):CVB K (.s t l)
theorem CVB.inv {K:Nat}{t:Ty}{l:List t.den}(h:CVB K (.s t l)):l.length<=K/\∀x∈l,∀c∈t.cells x,CVB K c:=by
 cases h with
 | s _ _ hl h=>exact ⟨hl,h⟩
theorem CVB.len {K:Nat}{t:Ty}{l:List t.den}(h:CVB K (.s t l)):l.length<=K:=h.inv.1
theorem CVB.mono {K L:Nat}(hKL:K<=L){c:CV}(h:CVB K c):CVB L c:=by
 induction h with
 | i k n=>exact .i k n
 | b x=>exact .b x
 | s t l hl h ih=>exact .s t l (jD hl hKL) ih
theorem CVB.of_rep {o:Bool}{w:World}{v:Value}{c:CV}{S:zV}(h:Rep o w v c S):CVB big c:=by
 induction h with
 | i k n S=>exact .i k n
 | b x S=>exact .b x
 | nil t S=>exact .s t [] (jV _) (fun x h=>by cases h)
 | void t a S ho=>exact .s t [] (jV _) (fun x h=>by cases h)
 | sl t l b off cap arr e fz V K S hb hfz hlen hcap hsz hS hsub hdis hv hc ih =>
  refine .s t l hlen (fun x hx c hcx=>?_);obtain ⟨i,hi⟩:=qQ.1 hx;obtain ⟨j,hj⟩:=qQ.1 hcx;exact ih i x hi j c hj
theorem CVB.of_ok {c:CV}(h:CVOk c):CVB big c:=by
 induction h with
 | i k n _=>exact .i k n
 | b x=>exact .b x
 | s t l hl h ih =>
  refine .s t l hl (fun x hx c hcx=>?_);obtain ⟨i,hi⟩:=qQ.1 hx;obtain ⟨j,hj⟩:=qQ.1 hcx;exact ih i x hi j c hj
def zbN (K:Nat)(avs:List AV):Prop:=∀c∈zA avs,CVB K c
theorem zc0 {K:Nat}{a:AV}{avs:List AV}(h:zbN K (a :: avs)):(∀c∈a.cvs,CVB K c)/\zbN K avs:=by
 unfold zbN zA at *;simp only[j8,jK]at h;exact ⟨fun c hc=>h c (.inl hc),fun c hc=>h c (.inr hc)⟩
theorem zWG {avs:List AV}(h:∃w xs,zdv false w (zA avs) xs (fun _ b=>b<w.heap.size)):zbN big avs:=by
 obtain ⟨w,xs,h1,h2⟩:=h;intro c hc;obtain ⟨i,hi⟩:=qQ.1 hc;have hlt:i<xs.length:=by rw[h1];exact (qA.1 hi).1
 exact CVB.of_rep (h2 i c _ hi (qB hlt))
theorem zcu {cs:List CV}{avs:List AV}(h:∃(w:World) (xs:Nat->Value) (K:Nat->zV),∀(j:Nat) (c:CV),(cs++zA avs)[j]?=some c->Rep false w (xs j) c (K j)):zbN big (.agg cs :: avs):=by
 obtain ⟨w,xs,K,h⟩:=h;intro c hc;have e:zA (AV.agg cs :: avs)=cs++zA avs:=by simp[zA,AV.cvs]
 rw[e]at hc;obtain ⟨j,hj⟩:=qQ.1 hc;exact CVB.of_rep (h j c hj)
theorem zcT {b c:Bool}{x y:List CV}{z u:List AV}(h:some (b,x,z)=some (c,y,u)):b=c/\y=x/\u=z:=by
 cases h;exact ⟨rfl,rfl,rfl⟩
theorem zdQ {b c:Bool}{x y:List AV}(h:some (b,x)=some (c,y)):b=c/\y=x:=by
 cases h;exact ⟨rfl,rfl⟩
abbrev zO:=List (Nat×(List AV->Option (Bool×List AV)))
def zlZ:zO:=[]
theorem zd8:∀f run,zn zlZ f=some run->Holds Tryz.prog f run:=fun f run h=>by cases h
abbrev zG (l:zO):Prop:=∀f run,zn l f=some run->Holds Tryz.prog f run
abbrev vJ:=Holds Tryz.prog
theorem zh {l:zO}{f:Nat}{run:List AV->Option (Bool×List AV)}(h:vJ f run)(hl:zG l):zG ((f,run) :: l):=by
 intro g r hg;unfold zn at hg;split at hg
 .rename_i e;cases hg;rw[<- qK.1 e];exact h
 .exact hl g r hg
abbrev zg5:=List (Nat×(CV->Int->Option (Bool×CV×Int)))
def znd:zg5:=[]
abbrev zft (m:zg5):Prop:=∀f run,zn m f=some run->zJZ Tryz.prog f run
theorem zbo:zft znd:=fun f run h=>by cases h
abbrev zdw:=List (Nat×(List Bool×(List CV->List AV->Option (Bool×List CV×List AV))))
def zIJ:zdw:=[]
abbrev zct (p:zdw):Prop:=∀f own run,zn p f=some (own,run)->zdJ Tryz.prog f own run
theorem zl:zct zIJ:=fun f own run h=>by cases h
theorem zel {l m:zdw}(hm:∀f own run,zn m f=some (own,run)->zdJ Tryz.prog f own run)(hl:∀x∈l,zdJ Tryz.prog x.1 x.2.1 x.2.2):∀f own run,zn (l++m) f=some (own,run)->zdJ Tryz.prog f own run:=by
 intro f own run h;rw[zbF]at h;split at h
 .rename_i y hy;cases h;exact hl _ (zpl hy)
 .exact hm f own run h
abbrev zeX:=List (Nat×(List Bool×Option (Nat×Nat×List (List Nat))×(List AV->Option (Bool×List AV))))
def zk0:zeX:=[]
abbrev zdZ (t:zeX):Prop:=∀f own inp run,zn t f=some (own,inp,run)->zdY Tryz.prog f own inp run
theorem zo:zdZ zk0:=fun f own inp run h=>by cases h
theorem zp9 {l m:zeX}(hm:∀f own inp run,zn m f=some (own,inp,run)->zdY Tryz.prog f own inp run)(hl:∀x∈l,zdY Tryz.prog x.1 x.2.1 x.2.2.1 x.2.2.2):∀f own inp run,zn (l++m) f=some (own,inp,run)->zdY Tryz.prog f own inp run:=by
 intro f own inp run h;rw[zbF]at h;split at h
 .rename_i y hy;cases h;exact hl _ (zpl hy)
 .exact hm f own inp run h
abbrev cQ (c:zO)(m:zg5)(p:zdw)(t:zeX):Cfg:=zlY (zn c) (zn m) (zn p) (zn t)
theorem zTR {c:zO}{m:zg5}{p:zdw}{t:zeX}(o1:zG c)(o2:zft m)(o3:zct p)(o4:zdZ t){f:FuncId}{run:List AV->Option (Bool×List AV)}(hf:FnOk Tryz.prog f)(h:∀avs rs,zbN big avs->run avs=some (true,rs)->∃tms N,evalFn (cQ c m p t) tms N 12 f avs=some rs):vJ f run :=
 zz6 (zc7 o1 o2 o3 o4) hf fun avs rs hr e=>(h avs rs (zWG hr) e).elim fun t x=>x.elim fun N y=>⟨t,N,12,y⟩
noncomputable def zf2 (f:FuncId):Bool :=
 match Tryz.prog.funcs[f]? with
 | some fn=>fn.body.isSome && !(fn.name == "runtime.NumGoroutine")
 | none=>false
theorem zem {f:FuncId}(h:zf2 f=true):FnOk Tryz.prog f:=by
 unfold zf2 at h;split at h
 .rename_i fn hf;simp only[qD,jA]at h;obtain ⟨b,hb⟩:=uR.1 h.1;exact ⟨fn,b,hf,hb,h.2⟩
 .cases h
abbrev oN {α:Type}(c:Bool)(a:Option α):Option α:=bif c then a else none
abbrev nB (c:Bool):Bool:=bif c then false else true
abbrev ti:AT:=.i .i64
structure Dc (α:Type) where
 d:AV->Option α
 e:α->AV
 h:∀{a x},d a=some x->a=e x
abbrev aI (x:Int):AV:=.one (.i .i64 x)
abbrev aB (x:Bool):AV:=.one (.b x)
abbrev aS (t:Ty)(l:List t.den):AV:=.one (.s t l)
abbrev aT (t:Ty)(x:t.den):AV:=.agg (t.cells x)
abbrev aH (h:Host):AV:=.agg (zbc h)
abbrev OA:=Option Ans
abbrev oF:OA:=some [aB false]
abbrev oT:OA:=some [aB true]
abbrev lA:=List GAct
abbrev lB:=List Bool
abbrev lE:=List Entry
abbrev lG:=List Guest
abbrev lI:=List Ins
abbrev lK:=List Kept
abbrev lM:=List (List Int)
abbrev lN:=List Mon
abbrev lP:=List (List Ins)
abbrev lQ:=List (List (List Ins))
abbrev lR:=List Bare
abbrev lS:=List Slot
abbrev lT:=List Told
def dI:Dc Int:=⟨fun a=>match a with | .one (.i .i64 x)=>some x|_=>none,aI,fun {a x} h=>by split at h<;>cases h;rfl⟩
def dB:Dc Bool:=⟨fun a=>match a with | .one (.b x)=>some x|_=>none,aB,fun {a x} h=>by split at h<;>cases h;rfl⟩
def dS (t:Ty):Dc (List t.den):=⟨fun a=>match a with | .one (.s t' l)=>if h:t'=t then some (h ▸ l) else none|_=>none,aS t,fun {a x} h=>by
 split at h
 .rename_i t' l;split at h
  .rename_i e;subst e;cases h;rfl
  .cases h
 .cases h⟩
def dT (t:Ty):Dc t.den:=⟨fun a=>match a with | .agg cs=>t.ofCells cs|_=>none,aT t,fun {a x} h=>by
 split at h
 .rw [<- zjw h]
 .cases h⟩
def dH:Dc Host:=⟨fun a=>match a with | .agg [.s (.sl .int) x,.s .mon y,.s .entry z,.s .entry u]=>some ⟨x,y,z,u⟩|_=>none,aH,fun {a x} h=>by split at h<;>cases h;rfl⟩
def dC:Dc Ctl:=⟨fun a=>match a with | .agg [.i .i64 x,.i .i64 y,.b z]=>some ⟨x,y,z⟩|_=>none,fun x=>.agg (zBW x),fun {a x} h=>by split at h<;>cases h;rfl⟩
def dE:Dc GExit:=⟨fun a=>match a with | .agg [.i .i64 x,.i .i64 y,.b z,.i .i64 u]=>some ⟨x,y,z,u⟩|_=>none,fun x=>.agg (zlg x),fun {a x} h=>by split at h<;>cases h;rfl⟩
abbrev Run:=List AV->Option (Bool×List AV)
def eat {α:Type}(D:Dc α)(k:α->Run):Run
 | []=>none
 | a :: l=>match D.d a with
  | some x=>k x l
  | none=>none
def stop (r:Bool×List AV):Run
 | []=>some r
 | _=>none
theorem z8c {α:Type}{D:Dc α}{k:α->Run}{avs:List AV}{r:Bool×List AV}(h:eat D k avs=some r):∃x l,avs=D.e x :: l/\k x l=some r:=by
 unfold eat at h;split at h
 .cases h
 .rename_i a l;split at h
  .rename_i x hx;exact ⟨x,l,by rw[D.h hx],h⟩
  .cases h
theorem z5B {q r:Bool×List AV}{avs:List AV}(h:stop q avs=some r):avs=[]/\r=q:=by
 unfold stop at h;split at h<;>cases h;exact ⟨rfl,rfl⟩
theorem zce {p:Nat->Prop}(h:∀N,(∀{n:Nat},n<=big->n<N)->p N):∃N,p N:=⟨big+1,h _ fun h=>Nat.lt_succ_of_le h⟩
theorem len0 {t:Ty}{l:List t.den}{r:List AV}(hb:zbN big (.one (.s t l) :: r)):l.length<=big:=((zc0 hb).1 _ (qF.2 rfl)).len
def Read (c:zO)(m:zg5)(p:zdw)(t:zeX)(tms:FuncId->Nat->Option Tmpl)(f:FuncId)(pre:List AV)(r:Run):Prop:=∀avs rs,zbN big (pre++avs)->r avs=some (true,rs)->∃N,evalFn (cQ c m p t) tms N 12 f (pre++avs)=some rs
theorem zdf {c:zO}{m:zg5}{p:zdw}{t:zeX}{tms:FuncId->Nat->Option Tmpl}{f:FuncId}{pre:List AV}{α:Type}{D:Dc α}{k:α->Run}(h:∀a,Read c m p t tms f (pre++[D.e a]) (k a)):Read c m p t tms f pre (eat D k):=by
 intro avs rs hb e;obtain ⟨x,l,h1,e1⟩:=z8c e;subst h1;have:=h x l rs (by simpa using hb) e1
 simpa using this
theorem zkH {c:zO}{m:zg5}{p:zdw}{t:zeX}{tms:FuncId->Nat->Option Tmpl}{f:FuncId}{pre:List AV}{g:Bool×List AV}{E:Nat->OA}(law:zbN big pre->g.1=true->∃N,E N=some g.2)(nf:∀N,evalFn (cQ c m p t) tms N 12 f pre=E N):Read c m p t tms f pre (stop g):=by
 intro avs rs hb e;obtain ⟨h1,e1⟩:=z5B e;subst h1;cases g with
 | mk b x =>
  cases e1;rw[q9]at hb ⊢;obtain ⟨N,e⟩:=law hb rfl;exact ⟨N,(nf N).trans e⟩
theorem znf {c:zO}{m:zg5}{p:zdw}{t:zeX}(o1:zG c)(o2:zft m)(o3:zct p)(o4:zdZ t){tms:FuncId->Nat->Option Tmpl}{f:FuncId}{r:Run}(hf:zf2 f=true)(h:Read c m p t tms f [] r):vJ f r :=
 zTR o1 o2 o3 o4 (zem hf) fun avs rs hb e=>(h avs rs hb e).elim fun N x=>⟨tms,N,x⟩
def rF0  (g:Bool×List AV):Run:=stop g
theorem hF0 {c:zO}{m:zg5}{p:zdw}{t:zeX}(o1:zG c)(o2:zft m)(o3:zct p)(o4:zdZ t)(tms:FuncId->Nat->Option Tmpl){g:Bool×List AV}{E:Nat->OA}{f:FuncId}(law:zbN big []->g.1=true->∃N,E N=some g.2)(nf:∀N,evalFn (cQ c m p t) tms N 12 f []=E N:=by intros;kernel_rfl)(hf:zf2 f=true:=by kernel_rfl):vJ f (rF0 g) :=
 znf o1 o2 o3 o4 hf (zkH (fun hb hc=>law hb hc) fun N=>nf N)
theorem kF0 {c:zO}{m:zg5}{p:zdw}{t:zeX}(o1:zG c)(o2:zft m)(o3:zct p)(o4:zdZ t)(tms:FuncId->Nat->Option Tmpl){g:Bool×List AV}{E:Nat->OA}{f:FuncId}(law:g.1=true->∃N,E N=some g.2)(nf:∀N,evalFn (cQ c m p t) tms N 12 f []=E N:=by intros;kernel_rfl)(hf:zf2 f=true:=by kernel_rfl):vJ f (rF0 g):=hF0 o1 o2 o3 o4 tms (fun _=>law) nf hf
def rF1 {A0:Type}(D0:Dc A0)(g:A0->Bool×List AV):Run:=eat D0 fun a0=>stop (g a0)
theorem hF1 {A0:Type}{c:zO}{m:zg5}{p:zdw}{t:zeX}(o1:zG c)(o2:zft m)(o3:zct p)(o4:zdZ t)(tms:FuncId->Nat->Option Tmpl){D0:Dc A0}{g:A0->Bool×List AV}{E:Nat->A0->OA}{f:FuncId}(law:∀a0,zbN big [D0.e a0]->(g a0).1=true->∃N,E N a0=some (g a0).2)(nf:∀N a0,evalFn (cQ c m p t) tms N 12 f [D0.e a0]=E N a0:=by intros;kernel_rfl)(hf:zf2 f=true:=by kernel_rfl):vJ f (rF1 D0 g) :=
 znf o1 o2 o3 o4 hf (zdf fun a0=>zkH (fun hb hc=>law a0 hb hc) fun N=>nf N a0)
theorem kF1 {A0:Type}{c:zO}{m:zg5}{p:zdw}{t:zeX}(o1:zG c)(o2:zft m)(o3:zct p)(o4:zdZ t)(tms:FuncId->Nat->Option Tmpl){D0:Dc A0}{g:A0->Bool×List AV}{E:Nat->A0->OA}{f:FuncId}(law:∀a0,(g a0).1=true->∃N,E N a0=some (g a0).2)(nf:∀N a0,evalFn (cQ c m p t) tms N 12 f [D0.e a0]=E N a0:=by intros;kernel_rfl)(hf:zf2 f=true:=by kernel_rfl):vJ f (rF1 D0 g):=hF1 o1 o2 o3 o4 tms (fun a0 _=>law a0) nf hf
def rF2 {A0 A1:Type}(D0:Dc A0)(D1:Dc A1)(g:A0->A1->Bool×List AV):Run:=eat D0 fun a0=>eat D1 fun a1=>stop (g a0 a1)
theorem hF2 {A0 A1:Type}{c:zO}{m:zg5}{p:zdw}{t:zeX}(o1:zG c)(o2:zft m)(o3:zct p)(o4:zdZ t)(tms:FuncId->Nat->Option Tmpl){D0:Dc A0}{D1:Dc A1}{g:A0->A1->Bool×List AV}{E:Nat->A0->A1->OA}{f:FuncId}(law:∀a0 a1,zbN big [D0.e a0,D1.e a1]->(g a0 a1).1=true->∃N,E N a0 a1=some (g a0 a1).2)(nf:∀N a0 a1,evalFn (cQ c m p t) tms N 12 f [D0.e a0,D1.e a1]=E N a0 a1:=by intros;kernel_rfl)(hf:zf2 f=true:=by kernel_rfl):vJ f (rF2 D0 D1 g) :=
 znf o1 o2 o3 o4 hf (zdf fun a0=>zdf fun a1=>zkH (fun hb hc=>law a0 a1 hb hc) fun N=>nf N a0 a1)
theorem kF2 {A0 A1:Type}{c:zO}{m:zg5}{p:zdw}{t:zeX}(o1:zG c)(o2:zft m)(o3:zct p)(o4:zdZ t)(tms:FuncId->Nat->Option Tmpl){D0:Dc A0}{D1:Dc A1}{g:A0->A1->Bool×List AV}{E:Nat->A0->A1->OA}{f:FuncId}(law:∀a0 a1,(g a0 a1).1=true->∃N,E N a0 a1=some (g a0 a1).2)(nf:∀N a0 a1,evalFn (cQ c m p t) tms N 12 f [D0.e a0,D1.e a1]=E N a0 a1:=by intros;kernel_rfl)(hf:zf2 f=true:=by kernel_rfl):vJ f (rF2 D0 D1 g):=hF2 o1 o2 o3 o4 tms (fun a0 a1 _=>law a0 a1) nf hf
def rF3 {A0 A1 A2:Type}(D0:Dc A0)(D1:Dc A1)(D2:Dc A2)(g:A0->A1->A2->Bool×List AV):Run:=eat D0 fun a0=>eat D1 fun a1=>eat D2 fun a2=>stop (g a0 a1 a2)
theorem hF3 {A0 A1 A2:Type}{c:zO}{m:zg5}{p:zdw}{t:zeX}(o1:zG c)(o2:zft m)(o3:zct p)(o4:zdZ t)(tms:FuncId->Nat->Option Tmpl){D0:Dc A0}{D1:Dc A1}{D2:Dc A2}{g:A0->A1->A2->Bool×List AV}{E:Nat->A0->A1->A2->OA}{f:FuncId}(law:∀a0 a1 a2,zbN big [D0.e a0,D1.e a1,D2.e a2]->(g a0 a1 a2).1=true->∃N,E N a0 a1 a2=some (g a0 a1 a2).2)(nf:∀N a0 a1 a2,evalFn (cQ c m p t) tms N 12 f [D0.e a0,D1.e a1,D2.e a2]=E N a0 a1 a2:=by intros;kernel_rfl)(hf:zf2 f=true:=by kernel_rfl):vJ f (rF3 D0 D1 D2 g) :=
 znf o1 o2 o3 o4 hf (zdf fun a0=>zdf fun a1=>zdf fun a2=>zkH (fun hb hc=>law a0 a1 a2 hb hc) fun N=>nf N a0 a1 a2)
theorem kF3 {A0 A1 A2:Type}{c:zO}{m:zg5}{p:zdw}{t:zeX}(o1:zG c)(o2:zft m)(o3:zct p)(o4:zdZ t)(tms:FuncId->Nat->Option Tmpl){D0:Dc A0}{D1:Dc A1}{D2:Dc A2}{g:A0->A1->A2->Bool×List AV}{E:Nat->A0->A1->A2->OA}{f:FuncId}(law:∀a0 a1 a2,(g a0 a1 a2).1=true->∃N,E N a0 a1 a2=some (g a0 a1 a2).2)(nf:∀N a0 a1 a2,evalFn (cQ c m p t) tms N 12 f [D0.e a0,D1.e a1,D2.e a2]=E N a0 a1 a2:=by intros;kernel_rfl)(hf:zf2 f=true:=by kernel_rfl):vJ f (rF3 D0 D1 D2 g):=hF3 o1 o2 o3 o4 tms (fun a0 a1 a2 _=>law a0 a1 a2) nf hf
def rF4 {A0 A1 A2 A3:Type}(D0:Dc A0)(D1:Dc A1)(D2:Dc A2)(D3:Dc A3)(g:A0->A1->A2->A3->Bool×List AV):Run:=eat D0 fun a0=>eat D1 fun a1=>eat D2 fun a2=>eat D3 fun a3=>stop (g a0 a1 a2 a3)
theorem hF4 {A0 A1 A2 A3:Type}{c:zO}{m:zg5}{p:zdw}{t:zeX}(o1:zG c)(o2:zft m)(o3:zct p)(o4:zdZ t)(tms:FuncId->Nat->Option Tmpl){D0:Dc A0}{D1:Dc A1}{D2:Dc A2}{D3:Dc A3}{g:A0->A1->A2->A3->Bool×List AV}{E:Nat->A0->A1->A2->A3->OA}{f:FuncId}(law:∀a0 a1 a2 a3,zbN big [D0.e a0,D1.e a1,D2.e a2,D3.e a3]->(g a0 a1 a2 a3).1=true->∃N,E N a0 a1 a2 a3=some (g a0 a1 a2 a3).2)(nf:∀N a0 a1 a2 a3,evalFn (cQ c m p t) tms N 12 f [D0.e a0,D1.e a1,D2.e a2,D3.e a3]=E N a0 a1 a2 a3:=by intros;kernel_rfl)(hf:zf2 f=true:=by kernel_rfl):vJ f (rF4 D0 D1 D2 D3 g) :=
 znf o1 o2 o3 o4 hf (zdf fun a0=>zdf fun a1=>zdf fun a2=>zdf fun a3=>zkH (fun hb hc=>law a0 a1 a2 a3 hb hc) fun N=>nf N a0 a1 a2 a3)
theorem kF4 {A0 A1 A2 A3:Type}{c:zO}{m:zg5}{p:zdw}{t:zeX}(o1:zG c)(o2:zft m)(o3:zct p)(o4:zdZ t)(tms:FuncId->Nat->Option Tmpl){D0:Dc A0}{D1:Dc A1}{D2:Dc A2}{D3:Dc A3}{g:A0->A1->A2->A3->Bool×List AV}{E:Nat->A0->A1->A2->A3->OA}{f:FuncId}(law:∀a0 a1 a2 a3,(g a0 a1 a2 a3).1=true->∃N,E N a0 a1 a2 a3=some (g a0 a1 a2 a3).2)(nf:∀N a0 a1 a2 a3,evalFn (cQ c m p t) tms N 12 f [D0.e a0,D1.e a1,D2.e a2,D3.e a3]=E N a0 a1 a2 a3:=by intros;kernel_rfl)(hf:zf2 f=true:=by kernel_rfl):vJ f (rF4 D0 D1 D2 D3 g):=hF4 o1 o2 o3 o4 tms (fun a0 a1 a2 a3 _=>law a0 a1 a2 a3) nf hf
def rF5 {A0 A1 A2 A3 A4:Type}(D0:Dc A0)(D1:Dc A1)(D2:Dc A2)(D3:Dc A3)(D4:Dc A4)(g:A0->A1->A2->A3->A4->Bool×List AV):Run:=eat D0 fun a0=>eat D1 fun a1=>eat D2 fun a2=>eat D3 fun a3=>eat D4 fun a4=>stop (g a0 a1 a2 a3 a4)
theorem hF5 {A0 A1 A2 A3 A4:Type}{c:zO}{m:zg5}{p:zdw}{t:zeX}(o1:zG c)(o2:zft m)(o3:zct p)(o4:zdZ t)(tms:FuncId->Nat->Option Tmpl){D0:Dc A0}{D1:Dc A1}{D2:Dc A2}{D3:Dc A3}{D4:Dc A4}{g:A0->A1->A2->A3->A4->Bool×List AV}{E:Nat->A0->A1->A2->A3->A4->OA}{f:FuncId}(law:∀a0 a1 a2 a3 a4,zbN big [D0.e a0,D1.e a1,D2.e a2,D3.e a3,D4.e a4]->(g a0 a1 a2 a3 a4).1=true->∃N,E N a0 a1 a2 a3 a4=some (g a0 a1 a2 a3 a4).2)(nf:∀N a0 a1 a2 a3 a4,evalFn (cQ c m p t) tms N 12 f [D0.e a0,D1.e a1,D2.e a2,D3.e a3,D4.e a4]=E N a0 a1 a2 a3 a4:=by intros;kernel_rfl)(hf:zf2 f=true:=by kernel_rfl):vJ f (rF5 D0 D1 D2 D3 D4 g) :=
 znf o1 o2 o3 o4 hf (zdf fun a0=>zdf fun a1=>zdf fun a2=>zdf fun a3=>zdf fun a4=>zkH (fun hb hc=>law a0 a1 a2 a3 a4 hb hc) fun N=>nf N a0 a1 a2 a3 a4)
theorem kF5 {A0 A1 A2 A3 A4:Type}{c:zO}{m:zg5}{p:zdw}{t:zeX}(o1:zG c)(o2:zft m)(o3:zct p)(o4:zdZ t)(tms:FuncId->Nat->Option Tmpl){D0:Dc A0}{D1:Dc A1}{D2:Dc A2}{D3:Dc A3}{D4:Dc A4}{g:A0->A1->A2->A3->A4->Bool×List AV}{E:Nat->A0->A1->A2->A3->A4->OA}{f:FuncId}(law:∀a0 a1 a2 a3 a4,(g a0 a1 a2 a3 a4).1=true->∃N,E N a0 a1 a2 a3 a4=some (g a0 a1 a2 a3 a4).2)(nf:∀N a0 a1 a2 a3 a4,evalFn (cQ c m p t) tms N 12 f [D0.e a0,D1.e a1,D2.e a2,D3.e a3,D4.e a4]=E N a0 a1 a2 a3 a4:=by intros;kernel_rfl)(hf:zf2 f=true:=by kernel_rfl):vJ f (rF5 D0 D1 D2 D3 D4 g):=hF5 o1 o2 o3 o4 tms (fun a0 a1 a2 a3 a4 _=>law a0 a1 a2 a3 a4) nf hf
def rF6 {A0 A1 A2 A3 A4 A5:Type}(D0:Dc A0)(D1:Dc A1)(D2:Dc A2)(D3:Dc A3)(D4:Dc A4)(D5:Dc A5)(g:A0->A1->A2->A3->A4->A5->Bool×List AV):Run:=eat D0 fun a0=>eat D1 fun a1=>eat D2 fun a2=>eat D3 fun a3=>eat D4 fun a4=>eat D5 fun a5=>stop (g a0 a1 a2 a3 a4 a5)
theorem hF6 {A0 A1 A2 A3 A4 A5:Type}{c:zO}{m:zg5}{p:zdw}{t:zeX}(o1:zG c)(o2:zft m)(o3:zct p)(o4:zdZ t)(tms:FuncId->Nat->Option Tmpl){D0:Dc A0}{D1:Dc A1}{D2:Dc A2}{D3:Dc A3}{D4:Dc A4}{D5:Dc A5}{g:A0->A1->A2->A3->A4->A5->Bool×List AV}{E:Nat->A0->A1->A2->A3->A4->A5->OA}{f:FuncId}(law:∀a0 a1 a2 a3 a4 a5,zbN big [D0.e a0,D1.e a1,D2.e a2,D3.e a3,D4.e a4,D5.e a5]->(g a0 a1 a2 a3 a4 a5).1=true->∃N,E N a0 a1 a2 a3 a4 a5=some (g a0 a1 a2 a3 a4 a5).2)(nf:∀N a0 a1 a2 a3 a4 a5,evalFn (cQ c m p t) tms N 12 f [D0.e a0,D1.e a1,D2.e a2,D3.e a3,D4.e a4,D5.e a5]=E N a0 a1 a2 a3 a4 a5:=by intros;kernel_rfl)(hf:zf2 f=true:=by kernel_rfl):vJ f (rF6 D0 D1 D2 D3 D4 D5 g) :=
 znf o1 o2 o3 o4 hf (zdf fun a0=>zdf fun a1=>zdf fun a2=>zdf fun a3=>zdf fun a4=>zdf fun a5=>zkH (fun hb hc=>law a0 a1 a2 a3 a4 a5 hb hc) fun N=>nf N a0 a1 a2 a3 a4 a5)
theorem kF6 {A0 A1 A2 A3 A4 A5:Type}{c:zO}{m:zg5}{p:zdw}{t:zeX}(o1:zG c)(o2:zft m)(o3:zct p)(o4:zdZ t)(tms:FuncId->Nat->Option Tmpl){D0:Dc A0}{D1:Dc A1}{D2:Dc A2}{D3:Dc A3}{D4:Dc A4}{D5:Dc A5}{g:A0->A1->A2->A3->A4->A5->Bool×List AV}{E:Nat->A0->A1->A2->A3->A4->A5->OA}{f:FuncId}(law:∀a0 a1 a2 a3 a4 a5,(g a0 a1 a2 a3 a4 a5).1=true->∃N,E N a0 a1 a2 a3 a4 a5=some (g a0 a1 a2 a3 a4 a5).2)(nf:∀N a0 a1 a2 a3 a4 a5,evalFn (cQ c m p t) tms N 12 f [D0.e a0,D1.e a1,D2.e a2,D3.e a3,D4.e a4,D5.e a5]=E N a0 a1 a2 a3 a4 a5:=by intros;kernel_rfl)(hf:zf2 f=true:=by kernel_rfl):vJ f (rF6 D0 D1 D2 D3 D4 D5 g):=hF6 o1 o2 o3 o4 tms (fun a0 a1 a2 a3 a4 a5 _=>law a0 a1 a2 a3 a4 a5) nf hf
theorem zih {avs:List AV}(h:∃(w:World) (xs:Nat->Value) (K:Nat->zV),∀(j:Nat) (c:CV),(zA avs)[j]?=some c->Rep false w (xs j) c (K j)):zbN big avs:=by
 obtain ⟨w,xs,K,h⟩:=h;intro c hc;obtain ⟨j,hj⟩:=qQ.1 hc;exact CVB.of_rep (h j c hj)
theorem cT {α:Type}(x y:α):(cond true x y)=x:=by simp
theorem cF {α:Type}(x y:α):(cond false x y)=y:=by simp
theorem zs5:big=140737488355328:=rfl
theorem zto {x:Int}(h1 : -9223372036854775808<=x)(h2:x<=9223372036854775807):IntKind.i64.wrap x=x:=by
 simp only[IntKind.wrap,IntKind.signed,IntKind.bits];simp;omega
theorem zlU {x y:Int}(h1 : -9223372036854775808<=x+y)(h2:x+y<=9223372036854775807):zI .i64 x y=x+y:=zto h1 h2
theorem ztp {x y:Int}(h1 : -9223372036854775808<=x-y)(h2:x-y<=9223372036854775807):wsub .i64 x y=x-y:=zto h1 h2
theorem zZ {i n:Nat}(h:i<n)(hn:n<=big):zI .i64 (i:Int) 1=((i+1:Nat):Int):=by
 rw[zs5]at hn;rw[zlU (by omega) (by omega)]
 omega
section
variable {α:Type}
theorem zbx {l:List α}{i:Nat}(h:i<l.length):ilt (i:Int) (ln l)=true:=by
 unfold ilt ln;exact qJ (by omega)
theorem zbp {l:List α}:ilt ((l.length:Nat):Int) (ln l)=false:=by
 unfold ilt ln;exact qG (by omega)
theorem zbb {l:List α}{i:Nat}(h:i<l.length):inb (i:Int) (ln l)=true:=by
 unfold inb ln;exact qJ (by omega)
theorem zbg {l:List α}{i:Nat}(h:i<l.length)(d:α):ix l (i:Int) d=l[i]:=by
 unfold ix;simp[List.getD,qB h]
theorem zgt {l:List α}(h:l.length<=2147483648):few (ln l)=true:=by
 unfold few ln;exact qJ (by omega)
theorem zhe (x:Int):ieq x x=true:=by simp[ieq]
theorem zgq (x:Int):ine x x=false:=by simp[ine]
theorem ziL (x:Bool):ziX x x=true:=by simp[ziX]
end
theorem zdp {σ ρ:Type}(n:Nat)(F:(σ->Option ρ)->σ->Option ρ)(s:σ):iter (n+1) F s=F (iter n F) s:=rfl
def goL {α τ ρ:Type}(body:Nat->α->τ->(τ->Option ρ)->Option ρ)(K:τ->Option ρ):List α->Nat->τ->Option ρ
 | [],_,t=>K t
 | x :: l,i,t=>body i x t (goL body K l (i+1))
theorem zbd {α τ ρ σ:Type}(l:List α)(st:Nat->τ->σ)(F:(σ->Option ρ)->σ->Option ρ)(body:Nat->α->τ->(τ->Option ρ)->Option ρ)(K:τ->Option ρ)(hstep:∀(i:Nat) (hi:i<l.length) (t:τ) (rec:σ->Option ρ),F rec (st i t)=body i l[i] t (fun t'=>rec (st (i+1) t')))(hend:∀(t:τ) (rec:σ->Option ρ),F rec (st l.length t)=K t) :
 ∀(N:Nat) (t:τ),l.length<N->iter N F (st 0 t)=goL body K l 0 t:=by
 have key:∀(m i N:Nat) (t:τ),l.length-i=m->i<=l.length->m<N->iter N F (st i t)=goL body K (l.drop i) i t:=by
  intro m
  induction m with
  | zero =>
   intro i N t hm hi hN;have:i=l.length:=by omega
   subst this;obtain ⟨n,rfl⟩:∃n,N=n+1:=⟨N-1,by omega⟩
   rw[zdp,hend,List.drop_length];rfl
  | succ m ih =>
   intro i N t hm hi hN;obtain ⟨n,rfl⟩:∃n,N=n+1:=⟨N-1,by omega⟩
   have hlt:i<l.length:=by omega
   rw[zdp,hstep i hlt,kW hlt];simp only[goL]
   congr 1
   funext t'
   exact ih (i+1) n t' (by omega) (by omega) (by omega)
 intro N t hN;have:=key l.length 0 N t (by omega) (jV _) hN
 simpa using this
def goN {τ ρ:Type}(body:Nat->τ->(τ->Option ρ)->Option ρ)(K:τ->Option ρ):Nat->Nat->τ->Option ρ
 | 0,_,t=>K t
 | n+1,i,t=>body i t (goN body K n (i+1))
theorem ztU {τ ρ σ:Type}(n:Nat)(st:Nat->τ->σ)(F:(σ->Option ρ)->σ->Option ρ)(body:Nat->τ->(τ->Option ρ)->Option ρ)(K:τ->Option ρ)(hstep:∀(i:Nat) (hi:i<n) (t:τ) (rec:σ->Option ρ),F rec (st i t)=body i t (fun t'=>rec (st (i+1) t')))(hend:∀(t:τ) (rec:σ->Option ρ),F rec (st n t)=K t) :
 ∀(N:Nat) (t:τ),n<N->iter N F (st 0 t)=goN body K n 0 t:=by
 have key:∀(m i N:Nat) (t:τ),n-i=m->i<=n->m<N->iter N F (st i t)=goN body K (n-i) i t:=by
  intro m
  induction m with
  | zero =>
   intro i N t hm hi hN;have:i=n:=by omega
   subst this;obtain ⟨k,rfl⟩:∃k,N=k+1:=⟨N-1,by omega⟩
   rw[zdp,hend,uA];rfl
  | succ m ih =>
   intro i N t hm hi hN;obtain ⟨k,rfl⟩:∃k,N=k+1:=⟨N-1,by omega⟩
   have hlt:i<n:=by omega
   have e:n-i=(n-(i+1))+1:=by omega
   rw[zdp,hstep i hlt,e];simp only[goN]
   congr 1
   funext t'
   exact ih (i+1) k t' (by omega) (by omega) (by omega)
 intro N t hN;have:=key n 0 N t (by omega) (jV _) hN
 simpa using this
theorem zxd {α ρ:Type}(l:List α)(d:α)(F:(Int×List α×List α×Unit->Option ρ)->Int×List α×List α×Unit->Option ρ)(k:Option ρ)(hl:l.length<=big)(hstep:∀(i:Nat) (hi:i<l.length) rec,F rec ((i:Int),l,l,())=rec (zI .i64 (i:Int) 1,l,l,()))(hend:∀rec,F rec ((l.length:Int),l,l,())=k){N:Nat}(hN:l.length<N) :
 iter N F (0,(l,(l,())))=k:=by
 have key:∀(m i N:Nat),l.length-i=m->i<=l.length->m<N->iter N F ((i:Int),(l,(l,())))=k:=by
  intro m
  induction m with
  | zero =>
   intro i N hm hi hN;have:i=l.length:=by omega
   subst this;obtain ⟨n,rfl⟩:∃n,N=n+1:=⟨N-1,by omega⟩
   rw[zdp,hend]
  | succ m ih =>
   intro i N hm hi hN;obtain ⟨n,rfl⟩:∃n,N=n+1:=⟨N-1,by omega⟩
   have hlt:i<l.length:=by omega
   rw[zdp,hstep i hlt,zZ hlt hl];exact ih (i+1) n (by omega) (by omega) (by omega)
 exact key l.length 0 N (by omega) (jV _) hN
def sm:Nat:=1048576
theorem zII:pc True=true:=zU trivial
theorem zcJ {n:Nat}(h:n<=sm):n<=big/\n<=2147483648:=by
 unfold sm at h;rw[zs5];omega
def hasB (i n:Int):Bool:=decide (0<=i/\i<n)
theorem has_eq (i n:Int):(ige i 0&&ilt i n)=hasB i n:=by
 unfold ige ilt hasB
 by_cases h1:0<=i<;>by_cases h2:i<n<;>simp [h1,h2]
theorem zx {i n:Int}(h:hasB i n=true):inb i n=true:=h
theorem zdH {i:Int}{n:Nat}(h:hasB i n=true):∃k:Nat,i=k/\k<n:=by
 have:0<=i/\i<n:=qE h;exact ⟨i.toNat,by omega,by omega⟩
theorem zbu {α:Type}{l:List α}{i:Int}(h:hasB i (ln l)=true)(d:α):ix l i d∈l:=by
 obtain ⟨k,rfl,hk⟩:=zdH (n:=l.length) h;rw[zbg hk];exact jH hk
theorem zma {α:Type}(l:List α):ap [] l=l:=rfl
theorem ziW {α ρ:Type}(c:α->Bool)(f:α->α)(K:List α->Option ρ):∀(l:List α) (i:Nat) (acc:List α),(∀x∈l,c x=true/\f x=x)->acc.length+l.length<=2147483648 ->
 goL (fun _ x acc k=>bif c x then (cond (few (ln (ap acc [f x]))) (k (ap acc [f x])) none) else none) K l i acc=K (acc++l)
 | [],i,acc,_,_=>by simp[goL]
 | x :: l,i,acc,h,hn=>by
  obtain ⟨h1,h2⟩:=h x (by simp)
  simp only[qW]at hn;simp only[goL,h1,h2,cT];rw[zgt (by simp[ap];omega),cT,ziW c f K l (i+1) _ (fun y hy=>h y (by simp[hy])) (by simp[ap];omega)]
  simp[ap]
def zb2 (h:Host):Prop:=∀c∈zbc h,CVB sm c
theorem zb2.mem {h:Host}(hs:zb2 h):CVB sm (.s (.sl .int) h.Memory):=hs _ (by simp[zbc])
theorem zb2.mons {h:Host}(hs:zb2 h):CVB sm (.s .mon h.Mons):=hs _ (by simp[zbc])
theorem zn6 {t:Ty}{l:List t.den}(h:CVB sm (.s t l)):few (ln l)=true:=zgt (zcJ h.len).2
def zn1 (p:Nat->Bool):Nat->Nat->Bool
 | 0,_=>true
 | n+1,i=>p i&&zn1 p n (i+1)
theorem zEn {ρ:Type}(p:Nat->Bool)(r:Option ρ)(K:Unit->Option ρ):∀(n i:Nat),goN (fun i (_:Unit) k=>bif p i then k () else r) K n i ()=bif zn1 p n i then K () else r
 | 0,_=>rfl
 | n+1,i=>by
  simp only[goN,zn1];cases p i
  .rfl
  .simp only [cT,Bool.true_and];exact zEn p r K n (i+1)
theorem zxh {α τ ρ:Type}(b:Nat->τ->(τ->Option ρ)->Option ρ)(K:τ->Option ρ):∀(l:List α) (i:Nat) (t:τ),goL (fun i _ t k=>b i t k) K l i t=goN b K l.length i t
 | [],_,_=>rfl
 | _ :: l,i,t=>by
  have ih:goL (fun i _ t k=>b i t k) K l (i+1)=goN b K l.length (i+1):=funext fun t=>zxh b K l (i+1) t;simp only[goL,qW,goN,ih]
theorem zgh {α ρ:Type}(p:α->Bool)(r:Option ρ)(K:Unit->Option ρ):∀(l:List α) (i:Nat),goL (fun _ x (_:Unit) k=>bif p x then k () else r) K l i ()=bif l.all p then K () else r
 | [],_=>rfl
 | x :: l,i=>by
  simp only[goL,uI];cases p x
  .rfl
  .simp only [cT,Bool.true_and];exact zgh p r K l (i+1)
theorem zy5 {n:Nat}(hn:n<=big)(i:Int):(ige i 0&&ile i (wsub .i64 (n:Int) 1))=hasB i n:=by
 rw[zs5]at hn;rw[ztp (by omega) (by omega)]
 unfold ige ile hasB
 by_cases h1:0<=i<;>by_cases h2:i<n
 .rw [qJ (p:=i≥0) (by omega),qJ (p:=i<=(n:Int)-1) (by omega),qJ (p:=0<=i/\i<(n:Int)) ⟨h1,h2⟩];rfl
 .rw [qG (p:=i<=(n:Int)-1) (by omega),qG (p:=0<=i/\i<(n:Int)) (by omega)];simp
 .rw [qG (p:=i≥0) (by omega),qG (p:=0<=i/\i<(n:Int)) (by omega)];simp
 .rw [qG (p:=i≥0) (by omega),qG (p:=0<=i/\i<(n:Int)) (by omega)];simp
theorem zEq {σ ρ τ:Type}(n:Nat)(st:Nat->τ->σ)(F:(σ->Option ρ)->σ->Option ρ)(I:Nat->τ->Prop)(res:Nat->τ->Option ρ)(hstep:∀(i:Nat) (t:τ) (rec:σ->Option ρ),i<n->I i t->(∀t',I (i+1) t'->rec (st (i+1) t')=res (i+1) t')->F rec (st i t)=res i t)(hend:∀(t:τ) (rec:σ->Option ρ),I n t->F rec (st n t)=res n t):∀(N i:Nat) (t:τ),I i t->i<=n->n-i<N->iter N F (st i t)=res i t:=by
 have key:∀(m N i:Nat) (t:τ),n-i=m->I i t->i<=n->m<N->iter N F (st i t)=res i t:=by
  intro m
  induction m with
  | zero =>
   intro N i t hm hI hi hN;obtain ⟨k,rfl⟩:∃k,N=k+1:=⟨N-1,by omega⟩
   have:i=n:=by omega
   subst this;rw[zdp];exact hend t _ hI
  | succ m ih =>
   intro N i t hm hI hi hN;obtain ⟨k,rfl⟩:∃k,N=k+1:=⟨N-1,by omega⟩
   rw[zdp];exact hstep i t _ (by omega) hI (fun t' hI'=>ih k (i+1) t' (by omega) hI' (by omega) (by omega))
 intro N i t hI hi hN;exact key (n-i) N i t rfl hI hi hN
section
variable {α:Type}
theorem zPA {l:List α}{i:Nat}(h:i<l.length)(d:α):up l (i:Int) (ix l (i:Int) d)=l:=by
 rw[zbg h];unfold up;apply kY;intro k;rw[jE];have e:(i:Int).toNat=i:=by omega
 rw[e]
 by_cases hk:i=k
 .subst hk;simp[h]
 .simp [hk]
theorem zdN {l:List α}{i:Nat}(h:i<l.length)(x d:α):ix (up l (i:Int) x) (i:Int) d=x:=by
 unfold ix up;have e:(i:Int).toNat=i:=by omega
 rw[e];simp[List.getD,h]
theorem zv8 (l:List α)(i:Int)(x y:α):up (up l i x) i y=up l i y:=by
 unfold up;simp
theorem z9A {l:List α}{i k:Nat}(h:i<k)(x:α):(up l (i:Int) x)[k]?=l[k]?:=by
 unfold up;have e:(i:Int).toNat=i:=by omega
 rw[e,jE,if_neg (by omega)]
end
def z9h:zO:=zlZ
theorem z7H:zG z9h:=zd8
def z9i:zO:=z9h
theorem z7I:zG z9i:=z7H
def z9j:zO:=z9i
theorem z7J:zG z9j:=z7I
def z9k:zO:=z9j
theorem z7K:zG z9k:=z7J
def z9l:zO:=z9k
theorem z7L:zG z9l:=z7K
def z9m:zO:=z9l
theorem z7M:zG z9m:=z7L
def z9n:zO:=z9m
theorem z7N:zG z9n:=z7M
def z5M:zO:=z9n
theorem z3K:zG z5M:=z7N
def z5N:zO:=z5M
theorem z3L:zG z5N:=z3K
def z5O:zO:=z5N
theorem z3M:zG z5O:=z3L
def z5P:zO:=z5O
theorem z3N:zG z5P:=z3M
def z5Q:zO:=z5P
theorem z3O:zG z5Q:=z3N
def z5R:zO:=z5Q
theorem z3P:zG z5R:=z3O
def z5S:zO:=z5R
theorem z3Q:zG z5S:=z3P
def z5T:zO:=z5S
theorem z3R:zG z5T:=z3Q
def z5U:zO:=z5T
theorem z3S:zG z5U:=z3R
def z5V:zO:=z5U
theorem z3T:zG z5V:=z3S
def z5W:zO:=z5V
theorem z3U:zG z5W:=z3T
def z5X:zO:=z5W
theorem z3V:zG z5X:=z3U
def z5Y:zO:=z5X
theorem z3W:zG z5Y:=z3V
def z9u:zO:=z5Y
theorem zs7:∀f run,zn z9u f=some run->Holds Tryz.prog f run:=z3W
def zJ (_ _ _:Int):Bool:=true
def zL (x a b:Int):Bool:=ige x a&&ile x b
def zGS:Run:=rF3 dI dI dI fun b c d=>(zJ b c d,[aB (zL b c d)])
def zP3 (N:Nat)(a0 a1 a2:Int):OA:=
 (cond (ige a0 a1) (some [(aB (ile a0 a2))]) oF)
theorem zXn (a0 a1 a2:Int)(hc:zJ a0 a1 a2=true):∃N,zP3 N a0 a1 a2=some [aB (zL a0 a1 a2)]:=by
 refine ⟨0,?_⟩;unfold zP3 zL;cases ige a0 a1<;>rfl
theorem zRt:vJ 98 zGS:=kF3 zs7 zbo zl zo (zq []) zXn
def zcm (_ _:Int):Bool:=true
abbrev zcO (i n:Int):Bool:=hasB i n
def zQR:Run:=rF2 dI dI fun b c=>(zcm b c,[aB (zcO b c)])
def zX9 (N:Nat)(a0 a1:Int):OA:=
 (cond (ige a0 0) (some [(aB (ilt a0 a1))]) oF)
theorem z2l (a0 a1:Int)(hc:zcm a0 a1=true):∃N,zX9 N a0 a1=some [aB (zcO a0 a1)]:=by
 refine ⟨0,?_⟩;unfold zX9 zcO;rw[<- has_eq];cases ige a0 0<;>rfl
theorem zWX:vJ 49 zQR:=kF2 zs7 zbo zl zo (zq []) z2l
theorem zCx {n:Nat}(hn:n<=big)(i:Int):zL i 0 (wsub .i64 (n:Int) 1)=hasB i n:=by
 rw[zs5]at hn;rw[ztp (by omega) (by omega)]
 unfold zL ige ile hasB
 by_cases h1:0<=i<;>by_cases h2:i<n
 .rw [qJ (p:=i≥0) (by omega),qJ (p:=i<=(n:Int)-1) (by omega),qJ (p:=0<=i/\i<(n:Int)) ⟨h1,h2⟩];rfl
 .rw [qG (p:=i<=(n:Int)-1) (by omega),qG (p:=0<=i/\i<(n:Int)) (by omega)];simp
 .rw [qG (p:=i≥0) (by omega),qG (p:=0<=i/\i<(n:Int)) (by omega)];simp
 .rw [qG (p:=i≥0) (by omega),qG (p:=0<=i/\i<(n:Int)) (by omega)];simp
def zfS (l:List (List Int)):Bool:=pc (CVB sm (.s (.sl .int) l))
abbrev zeq (l:List (List Int)):List (List Int):=l
def zAD:Run:=rF1 (dS (.sl .int)) fun b=>(zfS b,[aS (.sl .int) (zeq b)])
def zF6 (N:Nat)(a0:lM):OA:=
 (iter (σ:=(Int×(lM×(lM×Unit)))) N (fun r2 s3=>let y0:=(ap [] (ix s3.2.1 s3.1 [])); (cond (ilt s3.1 (ln s3.2.1)) (oN (inb s3.1 (ln s3.2.1)) (oN (few (ln y0)) (oN (few (ln (ap s3.2.2.1 [y0]))) (r2 ((zI .i64 s3.1 1),(s3.2.1,((ap s3.2.2.1 [y0]),()))))))) (some [(aS (.sl .int) s3.2.2.1)]))) (0,(a0,([],()))))
def zSB:FuncId->Nat->Option Tmpl:=zq [(95,0,{ n:=22,tm:=[(0,.sl 0 []),(3,.sl 1 []),(4,ti)],lo:=[],ro:=[(0,(.sl .int),false),(1,(.sl .int),true)] })]
theorem zSc (a0:List (List Int))(hc:zfS a0=true):∃N,zF6 N a0=some [aS (.sl .int) (zeq a0)]:=by
 have hs:=zF.1 hc;have hl:=zcJ hs.len;refine ⟨a0.length+1,?_⟩;unfold zF6 oN
 conv=>zeta
 refine (zbd a0 (fun i acc=>((i:Int),(a0,(acc,())))) _ (fun _ x acc k=>bif few (ln x) then (cond (few (ln (ap acc [x]))) (k (ap acc [x])) none) else none) (fun acc=>some [AV.one (.s (.sl .int) acc)])
  (fun i hi t rec=>?_) (fun t rec=>?_) _ [] (kH _)).trans ((ziW (fun x=>few (ln x)) (fun x=>x) _ a0 0 [] (fun x hx=>⟨zgt (zcJ (hs.inv.2 x hx _ (qF.2 rfl)).len).2,rfl⟩) (by simpa using hl.2)))
 .simp only [zbx hi,zbb hi,zbg hi,cT,zZ hi hl.1,zma]
 .simp only [zbp,cF]
theorem zLc:vJ 95 zAD:=kF1 zs7 zbo zl zo zSB zSc
abbrev zfT (k:Kept):Bool:=pc (∀c∈Ty.cells .kept k,CVB sm c)
abbrev zdq (k:Kept):Kept:=k
def zAE:Run:=rF1 (dT .kept) fun b=>(zfT b,[aT .kept (zdq b)])
def zF7 (N:Nat)(a0:Kept):OA:=
 (oN (few (ln (ap [] a0.Known))) (oN (few (ln (ap [] a0.Slots))) (some [(.agg [(.s .bool (ap [] a0.Known)),(.s .slot (ap [] a0.Slots))])])))
theorem zSd (a0:Kept)(hc:zfT a0=true):∃N,zF7 N a0=some [aT .kept (zdq a0)]:=by
 have h:=zF.1 hc;have h1:=zn6 (h (.s .bool a0.Known) (by simp[Ty.cells]))
 have h2:=zn6 (h (.s .slot a0.Slots) (by simp[Ty.cells]))
 refine ⟨0,?_⟩;simp only[zF7,zma,h1,h2,cT];rfl
theorem zLd:vJ 154 zAE:=kF1 zs7 zbo zl zo (zq []) zSd
def zdh (g:Guest):Bool:=pc (∀c∈Ty.cells .guest g,CVB sm c)
abbrev zcS (g:Guest):Guest:=g
def zAF:Run:=rF1 (dT .guest) fun b=>(zdh b,[aT .guest (zcS b)])
def zF8 (N:Nat)(a0:Guest):OA:=
 (oN (few (ln (ap [] a0.Prog))) (oN (few (ln (ap [] a0.Written))) (oN (few (ln (ap [] a0.Live))) (oN (few (ln (ap [] a0.Seen))) (some [(.agg [(.s .ins (ap [] a0.Prog)),(.i .i64 a0.A),(.i .i64 a0.Pc),(.s .slot (ap [] a0.Written)),(.s .slot (ap [] a0.Live)),(.i .i64 a0.Ctl.Traps),(.i .i64 a0.Ctl.Post),(.b a0.Ctl.Open),(.i .i64 a0.Pending),(.i .i64 a0.Exit.Kind),(.i .i64 a0.Exit.Page),(.b a0.Exit.Write),(.i .i64 a0.Exit.N),(.b a0.Halted),(.s .int (ap [] a0.Seen))])])))))
theorem zSf (a0:Guest)(hc:zdh a0=true):∃N,zF8 N a0=some [aT .guest (zcS a0)]:=by
 have h:=zF.1 hc;have h1:=zn6 (h (.s .ins a0.Prog) (by simp[Ty.cells]))
 have h2:=zn6 (h (.s .slot a0.Written) (by simp[Ty.cells]))
 have h3:=zn6 (h (.s .slot a0.Live) (by simp[Ty.cells]))
 have h4:=zn6 (h (.s .int a0.Seen) (by simp[Ty.cells]))
 refine ⟨0,?_⟩;simp only[zF8,zma,h1,h2,h3,h4,cT];rfl
theorem zLf:vJ 211 zAF:=kF1 zs7 zbo zl zo (zq []) zSf
def z5Z:zO:=[(98,zGS),(49,zQR),(95,zAD),(154,zAE),(211,zAF)]++z9u
theorem zTq:zG z5Z:=zh zRt (zh zWX (zh zLc (zh zLd (zh zLf zs7))))
def zfq (l:List Guest):Bool:=pc (CVB sm (.s .guest l))
abbrev zfV (l:List Guest):List Guest:=l
def zvA:Run:=rF1 (dS .guest) fun b=>(zfq b,[aS .guest (zfV b)])
def zz2 (N:Nat)(a0:lG):OA:=
 (iter (σ:=(Int×(lG×(lG×Unit)))) N (fun r2 s3=>let y0:=(ix s3.2.1 s3.1 zi); (cond (ilt s3.1 (ln s3.2.1)) (oN (inb s3.1 (ln s3.2.1)) (oN (zdh y0) (oN (few (ln (ap s3.2.2.1 [(zcS y0)]))) (r2 ((zI .i64 s3.1 1),(s3.2.1,((ap s3.2.2.1 [(zcS y0)]),()))))))) (some [(aS .guest s3.2.2.1)]))) (0,(a0,([],()))))
def zMU:FuncId->Nat->Option Tmpl:=zq [(153,0,{ n:=21,tm:=[(0,.sl 0 []),(3,.sl 1 []),(4,ti)],lo:=[],ro:=[(0,.guest,false),(1,.guest,true)] })]
theorem zLT (a0:List Guest)(hc:zfq a0=true):∃N,zz2 N a0=some [aS .guest (zfV a0)]:=by
 have hs:=zF.1 hc;have hl:=zcJ hs.len;refine ⟨a0.length+1,?_⟩;unfold zz2 oN
 conv=>zeta
 refine (zbd a0 (fun i acc=>((i:Int),(a0,(acc,())))) _ (fun _ x acc k=>bif zdh x then (cond (few (ln (ap acc [zcS x]))) (k (ap acc [zcS x])) none) else none) (fun acc=>some [AV.one (.s .guest acc)])
  (fun i hi t rec=>?_) (fun t rec=>?_) _ [] (kH _)).trans ((ziW zdh zcS _ a0 0 [] (fun x hx=>⟨zU (hs.inv.2 x hx),rfl⟩) (by simpa using hl.2)))
 .simp only [zbx hi,zbb hi,zbg hi,cT,zZ hi hl.1]
 .simp only [zbp,cF]
theorem zE7:vJ 153 zvA:=kF1 zTq zbo zl zo zMU zLT
def z6a:zO:=[(153,zvA)]++z5Z
theorem zTr:zG z6a:=zh zE7 zTq
abbrev zjk (m:Mon):Bool:=pc (∀c∈Ty.cells .mon m,CVB sm c)
abbrev znq (m:Mon):Mon:=m
def zDD:Run:=rF1 (dT .mon) fun b=>(zjk b,[aT .mon (znq b)])
def zJX (N:Nat)(a0:Mon):OA:=
 (oN (few (ln (ap [] a0.Outer))) (oN (zfS a0.Out) (oN (few (ln (ap [] a0.Dirty))) (oN (zfq a0.Guests) (oN (few (ln (ap [] a0.Outs))) (iter (σ:=(Int×(Int×(Int×(Int×(Int×(Int×(Int×(lK×(lS×(lM×(lB×(lG×((List Int)×(lK×(lS×(lM×(lB×(lG×((List Int)×(lK×Unit))))))))))))))))))))) N (fun r2 s3=>let y2:=s3.2.2.2.2.2.2.2.2.2.2.2.2.1;let y0:=s3.2.2.2.2.2.2.2.2.2.2.2.2.2.1;let y1:=(ap s3.2.2.2.2.2.2.2.1 [(zdq (ix y0 s3.1 zez))]); (cond (ilt s3.1 (ln y0)) (oN (inb s3.1 (ln y0)) (oN (zfT (ix y0 s3.1 zez)) (oN (few (ln y1)) (r2 ((zI .i64 s3.1 1),(s3.2.1,(s3.2.2.1,(s3.2.2.2.1,(s3.2.2.2.2.1,(s3.2.2.2.2.2.1,(s3.2.2.2.2.2.2.1,(y1,(s3.2.2.2.2.2.2.2.2.1,(s3.2.2.2.2.2.2.2.2.2.1,(s3.2.2.2.2.2.2.2.2.2.2.1,(s3.2.2.2.2.2.2.2.2.2.2.2.1,(y2,(y0,(s3.2.2.2.2.2.2.2.2.2.2.2.2.2.2.1,(s3.2.2.2.2.2.2.2.2.2.2.2.2.2.2.2.1,(s3.2.2.2.2.2.2.2.2.2.2.2.2.2.2.2.2.1,(s3.2.2.2.2.2.2.2.2.2.2.2.2.2.2.2.2.2.1,(s3.2.2.2.2.2.2.2.2.2.2.2.2.2.2.2.2.2.2.1,(s3.2.2.2.2.2.2.2.2.2.2.2.2.2.2.2.2.2.2.2.1,())))))))))))))))))))))))) (some [(.agg [(.s .slot s3.2.2.2.2.2.2.2.2.1),(.s (.sl .int) s3.2.2.2.2.2.2.2.2.2.1),(.s .bool s3.2.2.2.2.2.2.2.2.2.2.1),(.s .guest s3.2.2.2.2.2.2.2.2.2.2.2.1),(.s .int y2),(.i .i64 s3.2.1),(.i .i64 s3.2.2.1),(.s .kept s3.2.2.2.2.2.2.2.1),(.i .i64 s3.2.2.2.1)])]))) (0,(a0.Pending,(a0.Traps,(a0.Own,(0,(0,(0,([],((ap [] a0.Outer),((zeq a0.Out),((ap [] a0.Dirty),((zfV a0.Guests),((ap [] a0.Outs),(a0.Tables,([],([],([],([],([],([],()))))))))))))))))))))))))))
def zWu:FuncId->Nat->Option Tmpl:=zq [(96,0,{ n:=48,tm:=[(1,.lp 0 0),(2,.lp 1 0),(3,.sl 0 []),(4,ti)],lo:=[(0,[.sl 1 [],.sl 2 [],.sl 3 [],.sl 4 [],.sl 5 [],ti,ti,.sl 6 [],ti]),(1,[.sl 7 [],.sl 8 [],.sl 9 [],.sl 10 [],.sl 11 [],ti,ti,.sl 12 [],ti])],ro:=[(0,.kept,true),(1,.slot,true),(2,(.sl .int),true),(3,.bool,true),(4,.guest,true),(5,.int,true),(6,.kept,false),(7,.slot,true),(8,(.sl .int),true),(9,.bool,true),(10,.guest,true),(11,.int,true),(12,.kept,true)] })]
theorem zU3 (a0:Mon)(hc:zjk a0=true):∃N,zJX N a0=some [aT .mon (znq a0)]:=by
 have h:=zF.1 hc;have h1:=zn6 (h (.s .slot a0.Outer) (by simp[Ty.cells]))
 have h2:zfS a0.Out=true:=zU (h (.s (.sl .int) a0.Out) (by simp[Ty.cells]))
 have h3:=zn6 (h (.s .bool a0.Dirty) (by simp[Ty.cells]))
 have h4:zfq a0.Guests=true:=zU (h (.s .guest a0.Guests) (by simp[Ty.cells]))
 have h5:=zn6 (h (.s .int a0.Outs) (by simp[Ty.cells]))
 have h6:CVB sm (.s .kept a0.Tables):=h (.s .kept a0.Tables) (by simp[Ty.cells])
 have hl:=zcJ h6.len;refine ⟨a0.Tables.length+1,?_⟩;unfold zJX oN
 conv=>zeta
 simp only[zma,h1,h2,h3,h4,h5,cT];refine (zbd a0.Tables (fun i acc=>((i:Int),a0.Pending,a0.Traps,a0.Own,0,0,0,acc,a0.Outer,zeq a0.Out,a0.Dirty,zfV a0.Guests,a0.Outs,a0.Tables,[],[],[],[],[],[],())) _
  (fun _ x acc k=>bif zfT x then (cond (few (ln (ap acc [zdq x]))) (k (ap acc [zdq x])) none) else none) (fun acc=>some [AV.agg (Ty.cells .mon ⟨a0.Outer,a0.Out,a0.Dirty,a0.Guests,a0.Outs,a0.Pending,a0.Traps,acc,a0.Own⟩)])
  (fun i hi t rec=>?_) (fun t rec=>?_) _ [] (kH _)).trans ((ziW zfT zdq _ a0.Tables 0 [] (fun x hx=>⟨zU (h6.inv.2 x hx),rfl⟩) (by simpa using hl.2)))
 .simp only [zbx hi,zbb hi,zbg hi,cT,zZ hi hl.1]
 .simp only [zbp,cF];rfl
theorem zN9:vJ 96 zDD:=kF1 zTr zbo zl zo zWu zU3
def z6b:zO:=[(96,zDD)]++z6a
theorem zTs:zG z6b:=zh zN9 zTr
def zDO (h:Host)(_:Int):Bool:=pc (zb2 h)
def zeN (h:Host)(m:Int):Mon:=bif hasB m (ln h.Mons) then ix h.Mons m zf else Ty.dflt .mon
def zrx (h:Host)(m:Int):Bool:=hasB m (ln h.Mons)
def zqA:Run:=rF2 dH dI fun b c=>(zDO b c,[aT .mon (zeN b c),aB (zrx b c)])
def zPY (N:Nat)(a0:Host)(a1:Int):OA:=
 let y1:=(ix a0.Mons a1 zf);let y0:=(znq y1); (oN (zJ a1 0 (wsub .i64 (ln a0.Mons) 1)) (cond (nB (zL a1 0 (wsub .i64 (ln a0.Mons) 1))) (some [(.agg [(.s .slot []),(.s (.sl .int) []),(.s .bool []),(.s .guest []),(.s .int []),(.i .i64 0),(.i .i64 0),(.s .kept []),(.i .i64 0)]),(aB false)]) (oN (inb a1 (ln a0.Mons)) (oN (zjk y1) (some [(.agg [(.s .slot y0.Outer),(.s (.sl .int) y0.Out),(.s .bool y0.Dirty),(.s .guest y0.Guests),(.s .int y0.Outs),(.i .i64 y0.Pending),(.i .i64 y0.Traps),(.s .kept y0.Tables),(.i .i64 y0.Own)]),(aB true)])))))
theorem zXi (a0:Host)(a1:Int)(hc:zDO a0 a1=true):∃N,zPY N a0 a1=some [aT .mon (zeN a0 a1),aB (zrx a0 a1)]:=by
 have h:=(zF.1 hc).mons;refine ⟨0,?_⟩;unfold zPY zeN zrx oN nB
 conv=>zeta
 have e:zL a1 0 (wsub .i64 (ln a0.Mons) 1)=hasB a1 (ln a0.Mons):=zCx (zcJ h.len).1 a1;rw[e];cases hh:hasB a1 (ln a0.Mons)
 .simp [zJ,Ty.cells,Ty.dflt]
 .have h2:zjk (ix a0.Mons a1 zf)=true:=zU (h.inv.2 _ (zbu hh _));simp only[zJ,cT,kB,cF,zx hh,h2];rfl
theorem zrQ:vJ 68 zqA:=kF2 zTs zbo zl zo (zq []) zXi
def z6c:zO:=[(68,zqA)]++z6b
theorem z3X:zG z6c:=zh zrQ zTs
def z6d:zO:=z6c
theorem z3Y:zG z6d:=z3X
def z9v:zO:=z6d
theorem zs8:∀f run,zn z9v f=some run->Holds Tryz.prog f run:=z3Y
def noSlot:Slot:=⟨-1,0⟩
def zcq:Bool:=true
abbrev zbs:Slot:=noSlot
def zDo:Run:=rF0 (zcq,[aT .slot zbs])
def zY9 (N:Nat)  : OA :=
 (some [(.agg [(.i .i64 (-1)),(.i .i64 0)])])
theorem zUK  (hc:zcq=true):∃N,zY9 N  = some [aT .slot zbs]:=by
 exact ⟨0,rfl⟩
theorem zNS:vJ 42 zDo:=kF0 zs8 zbo zl zo (zq []) zUK
def zdb:Bool:=true
abbrev zcv:Slot:=noSlot
def zCW:Run:=rF0 (zdb,[aT .slot zcv])
def zY7 (N:Nat)  : OA :=
 (some [(.agg [(.i .i64 (-1)),(.i .i64 0)])])
theorem zUh  (hc:zdb=true):∃N,zY7 N  = some [aT .slot zcv]:=by
 exact ⟨0,rfl⟩
theorem zNq:vJ 141 zCW:=kF0 zs8 zbo zl zo (zq []) zUh
def zbD (_ _ _:Int):Bool:=true
def zbR (x a b:Int):Bool:=ige x a&&ile x b
def zDc:Run:=rF3 dI dI dI fun b c d=>(zbD b c d,[aB (zbR b c d)])
def zJw (N:Nat)(a0 a1 a2:Int):OA:=
 (cond (ige a0 a1) (some [(aB (ile a0 a2))]) oF)
theorem zUx (a0 a1 a2:Int)(hc:zbD a0 a1 a2=true):∃N,zJw N a0 a1 a2=some [aB (zbR a0 a1 a2)]:=by
 refine ⟨0,?_⟩;unfold zJw zbR;cases ige a0 a1<;>rfl
theorem zNG:vJ 50 zDc:=kF3 zs8 zbo zl zo (zq []) zUx
def z6e:zO:=[(42,zDo),(141,zCW),(50,zDc)]++z9v
theorem zHk:zG z6e:=zh zNS (zh zNq (zh zNG zs8))
def zcx (r:Int):Bool:=ige r 0&&ile r 3
def ziD (_:Int):Bool:=true
abbrev zgD (r:Int):Bool:=zcx r
def zx1:Run:=rF1 dI fun b=>(ziD b,[aB (zgD b)])
def zS6 (N:Nat)(a0:Int):OA:=
 (oN (zJ a0 0 3) (some [(aB (zL a0 0 3))]))
theorem zOP (a0:Int)(hc:ziD a0=true):∃N,zS6 N a0=some [aB (zgD a0)]:=by
 exact ⟨0,rfl⟩
theorem zH6:vJ 43 zx1:=kF1 zHk zbo zl zo (zq []) zOP
def ziq (_:Int):Bool:=true
abbrev zgA (r:Int):Bool:=zcx r
def zxE:Run:=rF1 dI fun b=>(ziq b,[aB (zgA b)])
def zS2 (N:Nat)(a0:Int):OA:=
 (oN (zbD a0 0 3) (some [(aB (zbR a0 0 3))]))
theorem zOp (a0:Int)(hc:ziq a0=true):∃N,zS2 N a0=some [aB (zgA a0)]:=by
 exact ⟨0,rfl⟩
theorem zHI:vJ 138 zxE:=kF1 zHk zbo zl zo (zq []) zOp
def z6f:zO:=[(43,zx1),(138,zxE)]++z6e
theorem zm0:zG z6f:=zh zH6 (zh zHI zHk)
def zda (a b:Int):Int:=bif zcx a then (cond (zcx b) (wand .i64 a b) 0) else 0
def zpT (_ _:Int):Bool:=true
abbrev zhi (a b:Int):Int:=zda a b
def zt6:Run:=rF2 dI dI fun b c=>(zpT b c,[aI (zhi b c)])
def zw3 (N:Nat)(a0 a1:Int):OA:=
 (oN (ziD a0) (cond (nB (zgD a0)) (some [(aI 0)]) (oN (ziD a1) (cond (nB (zgD a1)) (some [(aI 0)]) (some [(aI (wand .i64 a0 a1))])))))
theorem zIv (a0 a1:Int)(hc:zpT a0 a1=true):∃N,zw3 N a0 a1=some [aI (zhi a0 a1)]:=by
 refine ⟨0,?_⟩;unfold zw3 zhi zda zgD oN nB;cases zcx a0<;>cases zcx a1<;>rfl
theorem zCg:vJ 41 zt6:=kF2 zm0 zbo zl zo (zq []) zIv
def zpv (_ _:Int):Bool:=true
abbrev zha (a b:Int):Int:=zda a b
def zt2:Run:=rF2 dI dI fun b c=>(zpv b c,[aI (zha b c)])
def zwW (N:Nat)(a0 a1:Int):OA:=
 (oN (ziq a0) (cond (nB (zgA a0)) (some [(aI 0)]) (oN (ziq a1) (cond (nB (zgA a1)) (some [(aI 0)]) (some [(aI (wand .i64 a0 a1))])))))
theorem zIn (a0 a1:Int)(hc:zpv a0 a1=true):∃N,zwW N a0 a1=some [aI (zha a0 a1)]:=by
 refine ⟨0,?_⟩;unfold zwW zha zda zgA oN nB;cases zcx a0<;>cases zcx a1<;>rfl
theorem zCb:vJ 169 zt2:=kF2 zm0 zbo zl zo (zq []) zIn
def enough (a b:Int):Bool:=bif zcx a then (cond (zcx b) (ieq (wand .i64 a b) b) false) else false
def zgC (_ _:Int):Bool:=true
abbrev zhj (a b:Int):Bool:=enough a b
def zDg:Run:=rF2 dI dI fun b c=>(zgC b c,[aB (zhj b c)])
def zJA (N:Nat)(a0 a1:Int):OA:=
 (oN (ziD a0) (cond (zgD a0) (oN (ziD a1) (cond (zgD a1) (some [(aB (ieq (wand .i64 a0 a1) a1))]) oF)) oF))
theorem zUB (a0 a1:Int)(hc:zgC a0 a1=true):∃N,zJA N a0 a1=some [aB (zhj a0 a1)]:=by
 refine ⟨0,?_⟩;unfold zJA zhj enough zgD oN;cases zcx a0<;>cases zcx a1<;>rfl
theorem zNK:vJ 15 zDg:=kF2 zm0 zbo zl zo (zq []) zUB
def zdr (_ _:Int):Bool:=true
abbrev zdR (a b:Int):Bool:=enough a b
def zCO:Run:=rF2 dI dI fun b c=>(zdr b c,[aB (zdR b c)])
def zI9 (N:Nat)(a0 a1:Int):OA:=
 (oN (ziq a0) (cond (zgA a0) (oN (ziq a1) (cond (zgA a1) (some [(aB (ieq (wand .i64 a0 a1) a1))]) oF)) oF))
theorem zT9 (a0 a1:Int)(hc:zdr a0 a1=true):∃N,zI9 N a0 a1=some [aB (zdR a0 a1)]:=by
 refine ⟨0,?_⟩;unfold zI9 zdR enough zgA oN;cases zcx a0<;>cases zcx a1<;>rfl
theorem zNi:vJ 74 zCO:=kF2 zm0 zbo zl zo (zq []) zT9
def zbk (t:List Slot)(p:Int):Slot:=bif hasB p (ln t) then ix t p zN else noSlot
def zjh (_:List Slot)(_:Int):Bool:=true
abbrev zhk (t:List Slot)(p:Int):Slot:=zbk t p
def zDv:Run:=rF2 (dS .slot) dI fun b c=>(zjh b c,[aT .slot (zhk b c)])
def zJP (N:Nat)(a0:lS)(a1:Int):OA:=
 (oN (zJ a1 0 (wsub .i64 (ln a0) 1)) (cond (nB (zL a1 0 (wsub .i64 (ln a0) 1))) (oN zcq (some [(.agg [(.i .i64 zbs.Page),(.i .i64 zbs.Rights)])])) (oN (inb a1 (ln a0)) (some [(.agg [(.i .i64 (ix a0 a1 zN).Page),(.i .i64 (ix a0 a1 zN).Rights)])]))))
theorem zUS (a0:List Slot)(a1:Int)(hb:zbN big [aS .slot a0,aI a1])(hc:zjh a0 a1=true):∃N,zJP N a0 a1=some [aT .slot (zhk a0 a1)]:=by
 have hl:=(len0 hb);refine ⟨0,?_⟩;unfold zJP zhk zbk oN nB;have e:zL a1 0 (wsub .i64 (ln a0) 1)=hasB a1 (ln a0):=zy5 hl a1;rw[e];cases hh:hasB a1 (ln a0)
 .rfl
 .rw [zx hh];rfl
theorem zNZ:vJ 40 zDv:=hF2 zm0 zbo zl zo (zq []) zUS
def zll (_:List Slot)(_:Int):Bool:=true
abbrev zi7 (t:List Slot)(p:Int):Slot:=zbk t p
def zC4:Run:=rF2 (dS .slot) dI fun b c=>(zll b c,[aT .slot (zi7 b c)])
def zJo (N:Nat)(a0:lS)(a1:Int):OA:=
 (oN (zcm a1 (ln a0)) (cond (nB (zcO a1 (ln a0))) (oN zdb (some [(.agg [(.i .i64 zcv.Page),(.i .i64 zcv.Rights)])])) (oN (inb a1 (ln a0)) (some [(.agg [(.i .i64 (ix a0 a1 zN).Page),(.i .i64 (ix a0 a1 zN).Rights)])]))))
theorem zUp (a0:List Slot)(a1:Int)(hc:zll a0 a1=true):∃N,zJo N a0 a1=some [aT .slot (zi7 a0 a1)]:=by
 refine ⟨0,?_⟩;unfold zJo zi7 zbk zcO oN nB;cases hh:hasB a1 (ln a0)
 .rfl
 .rw [zx hh];rfl
theorem zNy:vJ 112 zC4:=kF2 zm0 zbo zl zo (zq []) zUp
def z6g:zO:=[(41,zt6),(169,zt2),(15,zDg),(74,zCO),(40,zDv),(112,zC4)]++z6f
theorem zHl:zG z6g:=zh zCg (zh zCb (zh zNK (zh zNi (zh zNZ (zh zNy zm0)))))
def zcI (a b:Slot):Bool:=ieq a.Page b.Page&&ieq a.Rights b.Rights
def below' (a b:Slot):Bool:=bif zcI a noSlot then true else (cond (ieq a.Page b.Page) (enough b.Rights a.Rights) false)
def zbh (s:Slot)(outer:List Slot):Slot :=
 bif ieq s.Page (-1) then noSlot else (cond (ieq (zbk outer s.Page).Page (-1)) noSlot (cond (ieq (zda s.Rights (zbk outer s.Page).Rights) 0) noSlot ⟨(zbk outer s.Page).Page,zda s.Rights (zbk outer s.Page).Rights⟩))
def zka (_:Slot)(_:List Slot):Bool:=true
def zmR (s:Slot)(outer:List Slot):Slot:=zbh s outer
def zsq:Run:=rF2 (dT .slot) (dS .slot) fun b c=>(zka b c,[aT .slot (zmR b c)])
def zuH (N:Nat)(a0:Slot)(a1:lS):OA:=
 let y0:=(zhk a1 a0.Page); (oN (zjh a1 a0.Page) (oN (zpT a0.Rights y0.Rights) (cond (ieq a0.Page (-1)) (oN zcq (some [(.agg [(.i .i64 zbs.Page),(.i .i64 zbs.Rights)])])) (cond (ieq y0.Page (-1)) (oN zcq (some [(.agg [(.i .i64 zbs.Page),(.i .i64 zbs.Rights)])])) (cond (ieq (zhi a0.Rights y0.Rights) 0) (oN zcq (some [(.agg [(.i .i64 zbs.Page),(.i .i64 zbs.Rights)])])) (some [(.agg [(.i .i64 y0.Page),(.i .i64 (zhi a0.Rights y0.Rights))])]))))))
theorem zFb (a0:Slot)(a1:List Slot)(hc:zka a0 a1=true):∃N,zuH N a0 a1=some [aT .slot (zmR a0 a1)]:=by
 refine ⟨0,?_⟩;unfold zuH zmR zbh zhk zhi oN
 conv=>zeta
 cases ieq a0.Page (-1)<;>cases ieq (zbk a1 a0.Page).Page (-1)<;>cases ieq (zda a0.Rights (zbk a1 a0.Page).Rights) 0<;>rfl
theorem zAY:vJ 14 zsq:=kF2 zHl zbo zl zo (zq []) zFb
def zj6 (_:Slot)(_:List Slot):Bool:=true
def zmM (s:Slot)(outer:List Slot):Slot:=zbh s outer
def zsn:Run:=rF2 (dT .slot) (dS .slot) fun b c=>(zj6 b c,[aT .slot (zmM b c)])
def zuE (N:Nat)(a0:Slot)(a1:lS):OA:=
 let y0:=(zi7 a1 a0.Page); (oN (zll a1 a0.Page) (oN (zpv a0.Rights y0.Rights) (cond (ieq a0.Page (-1)) (oN zdb (some [(.agg [(.i .i64 zcv.Page),(.i .i64 zcv.Rights)])])) (cond (ieq y0.Page (-1)) (oN zdb (some [(.agg [(.i .i64 zcv.Page),(.i .i64 zcv.Rights)])])) (cond (ieq (zha a0.Rights y0.Rights) 0) (oN zdb (some [(.agg [(.i .i64 zcv.Page),(.i .i64 zcv.Rights)])])) (some [(.agg [(.i .i64 y0.Page),(.i .i64 (zha a0.Rights y0.Rights))])]))))))
theorem zE8 (a0:Slot)(a1:List Slot)(hc:zj6 a0 a1=true):∃N,zuE N a0 a1=some [aT .slot (zmM a0 a1)]:=by
 refine ⟨0,?_⟩;unfold zuE zmM zbh zi7 zha oN
 conv=>zeta
 cases ieq a0.Page (-1)<;>cases ieq (zbk a1 a0.Page).Page (-1)<;>cases ieq (zda a0.Rights (zbk a1 a0.Page).Rights) 0<;>rfl
theorem zAV:vJ 111 zsn:=kF2 zHl zbo zl zo (zq []) zE8
def zdm (x:Int):Int:=bif (ige x 1&&ile x 6) then zPG .i64 (wsub .i64 x 1) 2 else -1
def zd4 (x:Int):Int:=bif (ige x 1&&ile x 6) then ziK (wsub .i64 x 1) 2 else -1
def z6h:zO:=[(14,zsq),(111,zsn)]++z6g
theorem z3Z:zG z6h:=zh zAY (zh zAV zHl)
def z6i:zO:=z6h
theorem z4a:zG z6i:=z3Z
def zcA (h:Host)(e:Entry):Bool :=
 bif hasB (zdm e.Tag) (ln h.Mons) then (bif hasB (zd4 e.Tag) (ln (ix h.Mons (zdm e.Tag) zf).Guests) then
  below' ⟨e.Host,e.Rights⟩ (zbh (zbk (ix (ix h.Mons (zdm e.Tag) zf).Guests (zd4 e.Tag) zi).Live e.Page) (ix h.Mons (zdm e.Tag) zf).Outer) else false) else false
def z6j:zO:=z6i
theorem z4b:zG z6j:=z4a
def z9t:zO:=z6j
theorem zM2:∀f run,zn z9t f=some run->Holds Tryz.prog f run:=z4b
theorem hE (h:Host):(⟨h.Memory,h.Mons,h.Buffer,h.IoBuffer⟩:Host)=h:=rfl
def idxs {α:Type}(p:α->Bool):List α->Nat->List Int
 | [],_=>[]
 | x :: l,i=>bif p x then (i:Int) :: idxs p l (i+1) else idxs p l (i+1)
theorem zy2 {α:Type}(p:α->Bool):∀(l:List α) (i:Nat),(idxs p l i).length<=l.length
 | [],_=>qV _
 | x :: l,i=>by
  have:=zy2 p l (i+1);simp only[idxs];cases p x<;>simp<;>omega
theorem ztD {α ρ:Type}(p:α->Bool)(K:List Int->Option ρ):∀(l:List α) (i:Nat) (acc:List Int),acc.length+l.length<=2147483648 ->
 goL (fun i x acc k=>bif p x then (cond (few (ln (ap acc [(i:Int)]))) (k (ap acc [(i:Int)])) none) else k acc) K l i acc=K (acc++idxs p l i)
 | [],i,acc,_=>by simp[goL,idxs]
 | x :: l,i,acc,h=>by
  simp only[qW]at h;simp only[goL,idxs];cases p x
  .simp only [cF];exact ztD p K l (i+1) acc (by omega)
  .simp only [cT];rw[zgt (by simp[ap];omega),cT,ztD p K l (i+1) _ (by simp[ap];omega)]
   simp[ap]
def zwp (p:Nat->Bool):Nat->Nat->List Int
 | 0,_=>[]
 | n+1,i=>bif p i then (i:Int) :: zwp p n (i+1) else zwp p n (i+1)
theorem zyG {ρ:Type}(p:Nat->Bool)(K:List Int->Option ρ):∀(n i:Nat) (acc:List Int),acc.length+n<=2147483648 ->
 goN (fun i acc k=>bif p i then (cond (few (ln (ap acc [(i:Int)]))) (k (ap acc [(i:Int)])) none) else k acc) K n i acc=K (acc++zwp p n i)
 | 0,i,acc,_=>by simp[goN,zwp]
 | n+1,i,acc,h=>by
  simp only[goN,zwp];cases p i
  .simp only [cF];exact zyG p K n (i+1) acc (by omega)
  .simp only [cT];rw[zgt (by simp[ap];omega),cT,zyG p K n (i+1) _ (by simp[ap];omega)]
   simp[ap]
abbrev zzs (l:List Slot)(_:Int):Bool:=pc (l.length<=2147483648)
abbrev zp1 (l:List Slot)(p:Int):List Int:=idxs (fun (s:Slot)=>ieq s.Page p) l 0
def zDz:Run:=rF2 (dS .slot) dI fun b c=>(zzs b c,[aS .int (zp1 b c)])
def zJT (N:Nat)(a0:lS)(a1:Int):OA:=
 (iter (σ:=(Int×(Int×(lS×((List Int)×Unit))))) N (fun r3 s4=>(cond (ilt s4.2.1 (ln s4.2.2.1)) (oN (inb s4.2.1 (ln s4.2.2.1)) (cond (ieq (ix s4.2.2.1 s4.2.1 zN).Page s4.1) (oN (few (ln (ap s4.2.2.2.1 [s4.2.1]))) (r3 (s4.1,((zI .i64 s4.2.1 1),(s4.2.2.1,((ap s4.2.2.2.1 [s4.2.1]),())))))) (r3 (s4.1,((zI .i64 s4.2.1 1),(s4.2.2.1,(s4.2.2.2.1,()))))))) (some [(aS .int s4.2.2.2.1)]))) (a1,(0,(a0,([],())))))
def zWs:FuncId->Nat->Option Tmpl:=zq [(280,0,{ n:=26,tm:=[(0,.sl 0 []),(1,ti),(5,.sl 1 []),(6,ti)],lo:=[],ro:=[(0,.slot,false),(1,.int,true)] })]
theorem zUW (a0:List Slot)(a1:Int)(hb:zbN big [aS .slot a0,aI a1])(hc:zzs a0 a1=true):∃N,zJT N a0 a1=some [aS .int (zp1 a0 a1)]:=by
 have hl:=(len0 hb);have hs:=zF.1 hc;refine zce fun N hNN=>?_;unfold zJT oN;refine (zbd a0 (fun i (t:(List Int))=>(a1,(i:Int),a0,t,())) _ (fun i (x:Slot) (t:List Int) κ=>bif ieq x.Page a1 then (cond (few (ln (ap t [(i:Int)]))) (κ (ap t [(i:Int)])) none) else κ t) (fun (t:(List Int))=>(some [(.one (.s .int t))])) (fun i hi t rec=>?_) (fun t rec=>?_) _ ([]) (hNN hl)).trans ?_
 .simp only [zbx hi,zbb hi,zbg hi,zZ hi hl,cT]
 .simp only [zbp,cF]
 exact ztD (fun (s:Slot)=>ieq s.Page a1) _ _ 0 [] (by simpa using hs)
theorem zN3:vJ 280 zDz:=hF2 zM2 zbo zl zo zWs zUW
abbrev zyX (l:List Slot)(_:Int):Bool:=pc (l.length<=2147483648)
abbrev zkv (l:List Slot)(p:Int):List Int:=idxs (fun (s:Slot)=>ieq s.Page p) l 0
def zC8:Run:=rF2 (dS .slot) dI fun b c=>(zyX b c,[aS .int (zkv b c)])
def zJs (N:Nat)(a0:lS)(a1:Int):OA:=
 (iter (σ:=(Int×(Int×(Int×((List Int)×(lS×Unit)))))) N (fun r3 s4=>let y1:=s4.2.2.2.2.1;let y0:=s4.2.2.1; (cond (ilt y0 s4.2.1) (oN (inb y0 (ln y1)) (cond (ieq (ix y1 y0 zN).Page s4.1) (oN (few (ln (ap s4.2.2.2.1 [y0]))) (r3 (s4.1,(s4.2.1,((zI .i64 y0 1),((ap s4.2.2.2.1 [y0]),(y1,()))))))) (r3 (s4.1,(s4.2.1,((zI .i64 y0 1),(s4.2.2.2.1,(y1,())))))))) (some [(aS .int s4.2.2.2.1)]))) (a1,((ln a0),(0,([],(a0,()))))))
def zWh:FuncId->Nat->Option Tmpl:=zq [(227,0,{ n:=26,tm:=[(1,ti),(5,.sl 0 []),(9,.sl 1 []),(10,ti),(11,ti)],lo:=[],ro:=[(0,.int,true),(1,.slot,false)] })]
theorem zUt (a0:List Slot)(a1:Int)(hb:zbN big [aS .slot a0,aI a1])(hc:zyX a0 a1=true):∃N,zJs N a0 a1=some [aS .int (zkv a0 a1)]:=by
 have hl:=(len0 hb);have hs:=zF.1 hc;refine zce fun N hNN=>?_;unfold zJs oN
 conv=>zeta
 refine (zbd a0 (fun i (t:(List Int))=>(a1,(ln a0),(i:Int),t,a0,())) _ (fun i (x:Slot) (t:List Int) κ=>bif ieq x.Page a1 then (cond (few (ln (ap t [(i:Int)]))) (κ (ap t [(i:Int)])) none) else κ t) (fun (t:(List Int))=>(some [(.one (.s .int t))])) (fun i hi t rec=>?_) (fun t rec=>?_) _ ([]) (hNN hl)).trans ?_
 .simp only [zbx hi,zbb hi,zbg hi,zZ hi hl,cT]
 .simp only [zbp,cF]
 exact ztD (fun (s:Slot)=>ieq s.Page a1) _ _ 0 [] (by simpa using hs)
theorem zNC:vJ 227 zC8:=hF2 zM2 zbo zl zo zWh zUt
def z6k:zO:=[(280,zDz),(227,zC8)]++z9t
theorem z4c:zG z6k:=zh zN3 (zh zNC zM2)
def z6l:zO:=z6k
theorem z4d:zG z6l:=z4c
def z6m:zO:=z6l
theorem zTt:zG z6m:=z4d
theorem zlo (x y:Int):ine x y = !ieq x y:=rfl
def zdz (l:List Int):Bool:=pc (l.length<=2147483648)
abbrev zds (l:List Int):List Int:=l
def zxK:Run:=rF1 (dS .int) fun b=>(zdz b,[aS .int (zds b)])
def zBm (N:Nat)(a0:List Int):OA:=
 (oN (few (ln (ap [] a0))) (some [(aS .int (ap [] a0))]))
theorem zOw (a0:List Int)(hc:zdz a0=true):∃N,zBm N a0=some [aS .int (zds a0)]:=by
 refine ⟨0,?_⟩;unfold zBm oN;rw[zma,zgt (zF.1 hc),cT]
theorem zHO:vJ 170 zxK:=kF1 zTt zbo zl zo (zq []) zOw
def z6n:zO:=[(170,zxK)]++z6m
theorem zHm:zG z6n:=zh zHO zTt
def zzF:List Int:=rp 4 0
def zcd (m:List (List Int))(p:Int):List Int:=bif hasB p (ln m) then ix m p [] else zzF
def zjg (m:List (List Int))(_:Int):Bool:=pc (CVB sm (.s (.sl .int) m))
def znl (m:List (List Int))(p:Int):List Int:=zcd m p
theorem z2U {m:List (List Int)}{p:Int}(hs:CVB sm (.s (.sl .int) m))(hh:hasB p (ln m)=true):(ix m p []).length<=2147483648 :=
 (zcJ (hs.inv.2 _ (zbu hh ([]:List Int)) (.s .int _) (qF.2 rfl)).len).2
def zDp:Run:=rF2 (dS (.sl .int)) dI fun b c=>(zjg b c,[aS .int (znl b c)])
def zJI (N:Nat)(a0:lM)(a1:Int):OA:=
 (oN (zJ a1 0 (wsub .i64 (ln a0) 1)) (cond (nB (zL a1 0 (wsub .i64 (ln a0) 1))) (oN (cond (few 4) (ieq 4 4) false) (some [(aS .int (rp 4 0))])) (oN (inb a1 (ln a0)) (oN (few (ln (ap [] (ix a0 a1 [])))) (some [(aS .int (ap [] (ix a0 a1 [])))])))))
theorem zUL (a0:List (List Int))(a1:Int)(hc:zjg a0 a1=true):∃N,zJI N a0 a1=some [aS .int (znl a0 a1)]:=by
 have hs:=zF.1 hc;refine ⟨0,?_⟩;unfold zJI znl zcd oN nB;have e:zL a1 0 (wsub .i64 (ln a0) 1)=hasB a1 (ln a0):=zy5 (zcJ hs.len).1 a1;rw[e];cases hh:hasB a1 (ln a0)
 .rfl
 .simp only [zJ,cT,cF,zx hh,zma,zgt (z2U hs hh)]
theorem zNT:vJ 136 zDp:=kF2 zHm zbo zl zo (zq []) zUL
def zi4 (m:List (List Int))(_:Int):Bool:=pc (CVB sm (.s (.sl .int) m))
def zm8 (m:List (List Int))(p:Int):List Int:=zcd m p
def zCX:Run:=rF2 (dS (.sl .int)) dI fun b c=>(zi4 b c,[aS .int (zm8 b c)])
def zJh (N:Nat)(a0:lM)(a1:Int):OA:=
 (oN (zcm a1 (ln a0)) (cond (nB (zcO a1 (ln a0))) (oN (cond (few 4) (ieq 4 4) false) (some [(aS .int (rp 4 0))])) (oN (inb a1 (ln a0)) (oN (zdz (ix a0 a1 [])) (some [(aS .int (zds (ix a0 a1 [])))])))))
theorem zUi (a0:List (List Int))(a1:Int)(hc:zi4 a0 a1=true):∃N,zJh N a0 a1=some [aS .int (zm8 a0 a1)]:=by
 have hs:=zF.1 hc;refine ⟨0,?_⟩;unfold zJh zm8 zcd zcO oN nB;cases hh:hasB a1 (ln a0)
 .rfl
 .simp only [zcm,cT,cF,zx hh,show zdz (ix a0 a1 [])=true from zU (z2U hs hh),zds]
theorem zNr:vJ 140 zCX:=kF2 zHm zbo zl zo (zq []) zUi
def z6o:zO:=[(136,zDp),(140,zCX)]++z6n
theorem zHn:zG z6o:=zh zNT (zh zNr zHm)
def zb9 (h:Host)(m p:Int):List Int :=
 bif hasB m (ln h.Mons) then (cond (hasB p 8) (cond (ine (zbk (ix h.Mons m zf).Outer p).Page (-1)) (zcd h.Memory (zbk (ix h.Mons m zf).Outer p).Page) (zcd (ix h.Mons m zf).Out p)) zzF) else zzF
theorem has8 (p:Int):zL p 0 7=hasB p 8:=by
 unfold zL ige ile hasB
 by_cases h1:0<=p<;>by_cases h2:p<8
 .rw [qJ (p:=p≥0) (by omega),qJ (p:=p<=7) (by omega),qJ (p:=0<=p/\p<8) ⟨h1,h2⟩];rfl
 .rw [qG (p:=p<=7) (by omega),qG (p:=0<=p/\p<8) (by omega)];simp
 .rw [qG (p:=p≥0) (by omega),qG (p:=0<=p/\p<8) (by omega)];simp
 .rw [qG (p:=p≥0) (by omega),qG (p:=0<=p/\p<8) (by omega)];simp
def zzo (h:Host)(_ _:Int):Bool:=pc (zb2 h)
def zzn (h:Host)(m p:Int):List Int:=zb9 h m p
def zug:Run:=rF3 dH dI dI fun b c d=>(zzo b c d,[aS .int (zzn b c d)])
def zJK (N:Nat)(a0:Host)(a1 a2:Int):OA:=
 let y0:=(ix a0.Mons a1 zf);let y1:=(zhk y0.Outer a2).Page; (oN (zJ a1 0 (wsub .i64 (ln a0.Mons) 1)) (cond (nB (zL a1 0 (wsub .i64 (ln a0.Mons) 1))) (oN (cond (few 4) (ieq 4 4) false) (some [(aS .int (rp 4 0))])) (oN (zJ a2 0 7) (cond (nB (zL a2 0 7)) (oN (cond (few 4) (ieq 4 4) false) (some [(aS .int (rp 4 0))])) (oN (inb a1 (ln a0.Mons)) (oN (zjh y0.Outer a2) (cond (ine y1 (-1)) (oN (zjg a0.Memory y1) (some [(aS .int (znl a0.Memory y1))])) (oN (zjg y0.Out a2) (some [(aS .int (znl y0.Out a2))])))))))))
theorem zUN (a0:Host)(a1 a2:Int)(hc:zzo a0 a1 a2=true):∃N,zJK N a0 a1 a2=some [aS .int (zzn a0 a1 a2)]:=by
 have hs:=zF.1 hc;refine ⟨0,?_⟩;unfold zJK zzn zb9 oN nB
 conv=>zeta
 have e:zL a1 0 (wsub .i64 (ln a0.Mons) 1)=hasB a1 (ln a0.Mons):=zy5 (zcJ hs.mons.len).1 a1;rw[e,has8];cases hh:hasB a1 (ln a0.Mons)
 .rfl
 .cases h8:hasB a2 8
  .rfl
  .have ho:CVB sm (.s (.sl .int) (ix a0.Mons a1 zf).Out):=hs.mons.inv.2 _ (zbu hh zf) (.s (.sl .int) _) (by simp[Ty.cells])
   simp only[zJ,cT,cF,zx hh,zjh,zhk,show ∀p,zjg a0.Memory p=true from fun p=>zU hs.mem,show ∀p,zjg (ix a0.Mons a1 zf).Out p=true from fun p=>zU ho,znl]
   cases ine (zbk (ix a0.Mons a1 zf).Outer a2).Page (-1)<;>rfl
theorem zxl:vJ 69 zug:=kF3 zHn zbo zl zo (zq []) zUN
def zyS (h:Host)(_ _:Int):Bool:=pc (zb2 h)
def zyR (h:Host)(m p:Int):List Int:=zb9 h m p
def zCY:Run:=rF3 dH dI dI fun b c d=>(zyS b c d,[aS .int (zyR b c d)])
def zJi (N:Nat)(a0:Host)(a1 a2:Int):OA:=
 let y0:=(ix a0.Mons a1 zf);let y1:=(zi7 y0.Outer a2).Page; (oN (zcm a1 (ln a0.Mons)) (cond (nB (zcO a1 (ln a0.Mons))) (oN (cond (few 4) (ieq 4 4) false) (some [(aS .int (rp 4 0))])) (oN (zcm a2 8) (cond (nB (zcO a2 8)) (oN (cond (few 4) (ieq 4 4) false) (some [(aS .int (rp 4 0))])) (oN (inb a1 (ln a0.Mons)) (oN (zll y0.Outer a2) (cond (ine y1 (-1)) (oN (zi4 a0.Memory y1) (some [(aS .int (zm8 a0.Memory y1))])) (oN (zi4 y0.Out a2) (some [(aS .int (zm8 y0.Out a2))])))))))))
theorem zUj (a0:Host)(a1 a2:Int)(hc:zyS a0 a1 a2=true):∃N,zJi N a0 a1 a2=some [aS .int (zyR a0 a1 a2)]:=by
 have hs:=zF.1 hc;refine ⟨0,?_⟩;unfold zJi zyR zb9 zcO oN nB
 conv=>zeta
 cases hh:hasB a1 (ln a0.Mons)
 .rfl
 .cases h8:hasB a2 8
  .rfl
  .have ho:CVB sm (.s (.sl .int) (ix a0.Mons a1 zf).Out):=hs.mons.inv.2 _ (zbu hh zf) (.s (.sl .int) _) (by simp[Ty.cells])
   simp only[zcm,cT,cF,zx hh,zll,zi7,show ∀p,zi4 a0.Memory p=true from fun p=>zU hs.mem,show ∀p,zi4 (ix a0.Mons a1 zf).Out p=true from fun p=>zU ho,zm8]
   cases ine (zbk (ix a0.Mons a1 zf).Outer a2).Page (-1)<;>rfl
theorem zNs:vJ 79 zCY:=kF3 zHn zbo zl zo (zq []) zUj
def z6p:zO:=[(69,zug),(79,zCY)]++z6o
theorem z4e:zG z6p:=zh zxl (zh zNs zHn)
def z6q:zO:=z6p
theorem z4f:zG z6q:=z4e
def z9s:zO:=z6q
theorem z7W:∀f run,zn z9s f=some run->Holds Tryz.prog f run:=z4f
def z9r:zO:=z9s
theorem zc3:zG z9r:=z7W
def zow:zg5:=znd
theorem zk:zft zow:=zbo
def canRun (g:Guest):Bool:=bif (ieq g.Exit.Kind 0&&(ieq g.Exit.Page 0&&(ziX g.Exit.Write false&&ieq g.Exit.N 0))) then !g.Halted else false
def zsL (_:Guest):Bool:=true
abbrev zpU (g:Guest):Bool:=canRun g
def zDe:Run:=rF1 (dT .guest) fun b=>(zsL b,[aB (zpU b)])
def zJy (N:Nat)(a0:Guest):OA:=
 (cond (cond (ieq a0.Exit.Kind 0) (cond (ieq a0.Exit.Page 0) (cond (ziX a0.Exit.Write false) (ieq a0.Exit.N 0) false) false) false) (some [(aB (nB a0.Halted))]) oF)
theorem zUz (a0:Guest)(hc:zsL a0=true):∃N,zJy N a0=some [aB (zpU a0)]:=by
 refine ⟨0,?_⟩;unfold zJy zpU canRun nB;cases ieq a0.Exit.Kind 0<;>cases ieq a0.Exit.Page 0<;>cases ziX a0.Exit.Write false<;>cases ieq a0.Exit.N 0<;>simp
theorem zNI:vJ 292 zDe:=kF1 zs8 zbo zl zo (zq []) zUz
def zsz (_:Guest):Bool:=true
abbrev zpw (g:Guest):Bool:=canRun g
def zCM:Run:=rF1 (dT .guest) fun b=>(zsz b,[aB (zpw b)])
def zI7 (N:Nat)(a0:Guest):OA:=
 (cond (cond (ieq a0.Exit.Kind 0) (cond (ieq a0.Exit.Page 0) (cond (ziX a0.Exit.Write false) (ieq a0.Exit.N 0) false) false) false) (some [(aB (nB a0.Halted))]) oF)
theorem zT7 (a0:Guest)(hc:zsz a0=true):∃N,zI7 N a0=some [aB (zpw a0)]:=by
 refine ⟨0,?_⟩;unfold zI7 zpw canRun nB;cases ieq a0.Exit.Kind 0<;>cases ieq a0.Exit.Page 0<;>cases ziX a0.Exit.Write false<;>cases ieq a0.Exit.N 0<;>simp
theorem zNg:vJ 116 zCM:=kF1 zs8 zbo zl zo (zq []) zT7
end
end Go.Proofs.YtdaahiceaagpdaaGreat.E
