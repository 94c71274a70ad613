/- What is proved here: a part of the proof that the statement of this claim holds (several texts of wip/, laid together). -/
import Derived.Test.YtlilleghlfnipaaGreatV2
import Derived.HandedShaped
import Derived.ProofKit
import Derived.KernelRfl
namespace Go.Proofs.YtlilleghlfnipaaGreat.E
open Go
set_option linter.unusedVariables false
set_option maxRecDepth 100000
set_option linter.unusedSimpArgs false
set_option linter.unusedSectionVars false
noncomputable section
section
variable {C:Cfg} {w0 w w1:World} {S0:zQ} {U:Nat->Prop} {st st1 st':St} {E E1:Env} {ts:Array Value} {sv:List (Array Value)}
def Late (w0:World)(st:St)(E:Env)(x:App)(v:Value)(w:World):Prop :=
 ∃(n0 bv offv cap:Nat) (R:Root),w0.heap.size<=n0/\(∀q Q,st.root q=some Q->∀y,E.φ q y->y<n0)/\(∀l cs,zh st.lo l=some cs->E.β l<n0) /\
  v = .slice (some ⟨bv,offv,none⟩) x.l.length cap/\Rep true w v (.s x.t x.l) (fun y=>y=bv)/\st.root x.r=some R /\
  (n0<=bv\/∃off1 len1 cap1,zL w R.t (E.ρ x.r) x.p=some (.slice (some ⟨bv,off1,none⟩) len1 cap1))
theorem Late.states {x:App}{v:Value}(h:Late w0 st E x v w)(hr:∀n,st'.root n=st.root n)(hl:∀n,zh st'.lo n=zh st.lo n):Late w0 st' E x v w:=by
 obtain ⟨n0,bv,offv,cap,R,h1,h2,h3,h4,h5,h6,h7⟩:=h;exact ⟨n0,bv,offv,cap,R,h1,fun q Q hq=>h2 q Q (by rw [<- hr];exact hq),fun l cs hq=>h3 l cs (by rw [<- hl];exact hq),h4,h5,by rw [hr];exact h6,h7⟩
theorem zzS {r:Nat}(a:At):zch r [] a=a:=by
 cases a<;>simp [zch,coarse]
theorem zzT {r:Nat}(m:MV):zeD r [] m=m:=by
 have h:zch r []=id:=funext fun a=>zzS a;have hT:∀x,zje r [] x=x:=fun x=>by cases x<;>simp [zje,h]
 have hT':zje r []=id:=funext hT;cases m<;>simp [zeD,hT,hT']
theorem zQ4 (h:Dead st){n:Nat}{R:Root}(hR:st.root n=some R):R.ep=none:=by
 obtain ⟨h1,h2⟩:=zbf hR;rcases h2 with h2|h2
 ·exact h2
 ·have:=h n R _ h1 h2;omega
theorem zRw {v:Value}{t:Ty}{l:List t.den}{S:zQ}{b off n cap:Nat}(h:Rep true w v (.s t l) S)(hv:v = .slice (some ⟨b,off,none⟩) n cap):b<w.heap.size/\S b:=by
 cases h with
 | nil=>cases hv
 | void _ _ _ ho=>cases ho
 | sl _ _ b4 _ _ _ _ _ _ _ _ hb4 _ _ _ _ hS4 =>
  cases hv;exact ⟨(Array.getElem?_eq_some_iff.1 hb4).1,hS4⟩
theorem zS7 (hC:CfgOk C)(hS:Sim w0 S0 U st E ts sv w)(hd:Dead st){o:Oper}{x:App}(h:zmK C st o=some (true,x)) :
 o.guard=none/\o.dst=some x.dst/\∃(v:Value) (w':World),(execOp ({ tmps:=ts,defers:=[] }:Act).eval o).run C.P w = .ok (.value v) w' /\
  Sim w0 S0 U (st.put o.dst (.v (.at .bad))) E (({ tmps:=ts,defers:=[] }:Act).put o.dst v).tmps sv w'/\Late w0 st E x v w':=by
 unfold zmK at h;split at h
 ·rename_i c d ho hdst hgu;split at h
  ·rename_i hcb;split at h
   ·rename_i a0 y0 T T2 hca hct;split at h
    ·rename_i hTT;subst hTT;split at h
     ·rename_i t r a p r2 p2 hT h1 h2;split at h
      ·rename_i R cv1 cv2 hR hn1 hn2;split at h
       ·rename_i hcond;simp only [Bool.and_eq_true,Bool.not_eq_true',beq_eq_false_iff_ne] at hcond;obtain ⟨⟨hown,hfl⟩,hne⟩:=hcond;split at h
        ·rename_i m t2 y2 l2' hm;simp only [Option.some.injEq,Prod.mk.injEq] at h;obtain ⟨hfew,rfl⟩:=h;refine ⟨hgu,hdst,?_⟩;obtain ⟨l1,l2,e1,e2,rfl⟩:=zun hm;subst e1;have hl2:l2≠[]:=by
          intro e;subst e;cases e2
         rw [e2] at hn2
         clear e2
         generalize hp0:a :: p=pp at h1 hn1;have hM:=hS.mem;obtain ⟨hx,_⟩:=zbl hS h1;obtain ⟨hy,_⟩:=zbl hS h2;have hh:=hx.2 R hR;have hrepR:=hM.rep r R hR;rw [hown] at hrepR;obtain ⟨t',l0,S1,f1,f2,f3,f4,f5⟩:=Rep.focus pp hrepR hh;have hg1:zfP R.t R.l pp=some (.s t l1):=by
          obtain ⟨R',hR',hg'⟩:=zfk hn1;rw [hR] at hR';cases hR';exact hg'
         rw [hg1] at f1;cases f1;obtain ⟨R2,S2,hR2,g1,g2,g3,g4⟩:=zpY hS hy hn2;obtain ⟨v,w',bv,offv,cap,hrun,hv,hrep,hos,htp,hout,hcase⟩:=zWt hC hT hfl f3 g3.ro hl2 hfew o.type;have hca':c.args = #[a0,y0]:=by rw [<- hca]
         have hct':c.argTypes = #[T2,T2]:=by rw [<- hct]
         have hexec:(execOp ({ tmps:=ts,defers:=[] }:Act).eval o).run C.P w = .ok (.value v) w':=by
          simp [execOp,ho,resolve,hcb,invoke,builtin,hca',hct',hrun]
         have hβ:∀l cs,zh st.lo l=some cs->E.β l<w.heap.size:=by
          intro l cs h;obtain ⟨_,vals,e,h2,_⟩:=hM.loc l cs h;exact (Array.getElem?_eq_some_iff.1 h2).1
         rcases hcase with ⟨hbv,hsz,hsame⟩|⟨off1,cap1,hv1,hS1b,hsz,hoth,hrep1⟩
         ·obtain ⟨hM',hT'⟩:=hM.addRoots hS.ids.mem (dro:=[]) (w1:=w') (E1:=E) hos htp hout (by omega) hsame (fun q Q hq=>by cases hq) (fun q Q _ _ hq=>by cases hq) (fun _ _=>⟨rfl,rfl,rfl⟩)
          refine ⟨v,w',hexec,Sim.next hS (st1:=st) hM' hT' rfl rfl (fun _ h=>h) hS.ids.ro hS.ids.lo trivial (fun n hn=>by simp [MV.ids,zbk,zG,At.ids,zY,zZ] at hn),?_⟩
          exact ⟨w.heap.size,bv,offv,cap,R,hM.size,fun q Q hq y hy=>hM.rlt q Q hq y hy,hβ,hv,hrep,hR,.inl (by omega)⟩
         ·obtain ⟨m,hm1,hrm,hh1,hh2⟩:=f5 w' l1 S1 (fun z _ hnz=>hoth z (fun e=>hnz (e ▸ hS1b))) (fun _ h _=>h) hrep1;have hmR:=zGY pp hg1 m hm1;subst hmR;obtain ⟨_,_,_,_,fwp⟩:=f5 w l1 S1 (fun _ _ _=>rfl) (fun _ h _=>h) f3;have hhdr:∀q u,zL w R.t (E.ρ r) q=some u->zL w' R.t (E.ρ r) q=some u:=by
           intro q u hq;refine hh1 q u hq (fun q' he=>?_);subst he;rw [fwp] at hq;exact zSS hfl q' _ _ hq
          have hsim:=zzj (w1:=w') (m:=R.l) (js:=[]) (S3:=E.φ r) hS hR hown hos htp hout (by omega) (fun z hz hnz=>hoth z (fun e=>hnz (f4 z (e ▸ hS1b)))) (fun z hz=>⟨.inl hz,by have:=hM.rlt r R hR z hz;omega⟩) (hrm.weak fun z hz=>by
           rcases hz with ⟨h,_⟩|h
           ·exact h
           ·exact f4 z h) (fun q u hq _=>hhdr q u hq)
          have hE:({ E with φ:=fun n=>if n=r then E.φ r else E.φ n }:Env)=E:=by
           have:(fun n=>if n=r then E.φ r else E.φ n)=E.φ:=by
            funext n
            split
            ·rename_i e;rw [e]
            ·rfl
           rw [this]
          rw [hE] at hsim;have hS':Sim w0 S0 U st E ts sv w':=by
           refine hsim.fewer (fun t=>?_) (fun n=>?_) ?_ (fun n Q hQ=>?_) (fun n Q hQ=>?_) (fun n Q e hQ he=>hM.epo n Q e hQ he)
           ·simp only [zgk,List.getElem?_map];cases st.tm[t]? <;> simp [zzT]
           ·simp only [zgk];rw [zh1];have:zch r []=id:=funext fun a=>zzS a;cases zh st.lo n<;>simp [this]
           ·simp only [zgk];have:zeD r []=id:=funext fun a=>zzT a;simp [this]
           ·have he:=zQ4 hd hQ;obtain ⟨q1,_⟩:=zbf hQ;refine zgD ?_ (.inl he);simp only [zgk,zh];split
            ·rename_i hb;simp only [beq_iff_eq] at hb;subst hb;rw [hR] at hQ;cases hQ;rfl
            ·exact q1
           ·simp only [zgk,zh];split
            ·exact ⟨_,rfl⟩
            ·exact ⟨Q,hQ⟩
          refine ⟨v,w',hexec,hS'.putV trivial (fun n hn=>by simp [MV.ids,zbk,zG,At.ids,zY,zZ] at hn),?_⟩
          refine ⟨w.heap.size,bv,offv,cap,R,hM.size,fun q Q hq y hy=>hM.rlt q Q hq y hy,hβ,hv,hrep,hR,.inr ⟨off1,l1.length,cap1,?_⟩⟩;refine hhdr pp _ ?_;rw [hh,hv1]
        ·cases h
       ·cases h
      ·cases h
     ·cases h
    ·cases h
   ·cases h
  ·cases h
 ·cases h
theorem zO0 (hC:CfgOk C)(hS:Sim w0 S0 U st E ts sv w){o:Oper}{id:Nat}{x:App}{v:Value}{st2:St}(hL:Late w0 st E x v w)(hv0:ts[x.dst]?=some v)(h:zwe C st o x=some (true,st2)) :
 o.guard=none/\Goes C w0 S0 U st ts sv w o id (fun _=>st2.put o.dst .und)/\st2.nid=st.nid:=by
 unfold zwe at h;split at h
 ·rename_i T a d ho hgu;split at h
  ·rename_i t1 r p i off hT ha;split at h
   ·rename_i R t l c hRr hn hsp;split at h
    ·rename_i hcond;simp only [Bool.and_eq_true,decide_eq_true_eq,Nat.beq_eq_true_eq] at hcond;obtain ⟨⟨⟨hown,hdd⟩,hrr⟩,hfit⟩:=hcond;have hdd:=Nat.eq_of_beq_eq_true hdd;have hrr:=Nat.eq_of_beq_eq_true hrr;subst hdd hrr;split at h
     ·rename_i l' hset;split at h
      ·rename_i m hput;simp only [Option.some.injEq,Prod.mk.injEq] at h;obtain ⟨rfl,rfl⟩:=h;refine ⟨hgu,?_,rfl⟩;have hpp:=zoj hsp;obtain ⟨n0,bv,offv,capv,R',hn0,hrn,hln,hve,hvrep,hR',hwhere⟩:=hL;rw [hRr] at hR';cases hR';obtain ⟨hav,hai⟩:=zbl hS ha;obtain ⟨b,o2,len,cap,t1',e1,e2,e3,e4,e5⟩:=hav.2 R hRr;have hM:=hS.mem;have hrep:=hM.rep _ R hRr;rw [hown] at hrep;obtain ⟨t',l0,S1,f1,f2,f3,f4,f5⟩:=Rep.focus p hrep e1;have hg1:zfP R.t R.l p=some (.s t l):=by
        obtain ⟨R',hR',hg'⟩:=zfk hn;rw [hRr] at hR';cases hR';exact hg'
       rw [hg1] at f1;cases f1;rw [e2] at f2;cases f2;obtain ⟨_,_,_,_,fwp⟩:=f5 w l S1 (fun _ _ _=>rfl) (fun _ h _=>h) f3;cases f3 with
       | void _ _ _ ho=>cases ho
       | sl _ _ _ _ _ arr e' fz V K _ hb hfz hlen1 hcap hsz hS' hsub hdis hvv hcc =>
       have hfz':=hfz rfl;subst hfz';have hRows:Rows true w t l arr o2 b V K S1:=⟨hsub,hdis,hvv,hcc⟩;have hone:v.oneCell'=true:=by rw [hve];rfl
       have hcells:v.cells = #[v]:=cells_one hone;have hfit':off+[v].length<=t.width:=by simp;omega
       have hrow:(i.toNat+1)*t.width<=cap*t.width:=Nat.mul_le_mul_right _ (by omega)
       rw [Nat.succ_mul] at hrow;have hrun:=zpG (w:=w) (v:=v) (off:=o2+i.toNat*t.width+off) (hC.cty T false [.s t1] hT) hb (by rw [hcells];rfl) (by simp;omega) (by rw [hcells];intro u hu;simp at hu;rw [hu];exact hone)
       rw [hcells] at hrun;have hl1:(#[v]:Array Value).toList=[v]:=rfl;rw [hl1] at hrun;generalize hw1:w.setRow b (splice arr.toList (o2+i.toNat*t.width+off) [v]).toArray=w1 at hrun;have hb1:w1.heap[b]?=some (.cells (splice arr.toList (o2+i.toNat*t.width+off) [v]).toArray e' (0,0)):=by rw [<- hw1];exact setRow_heap w b _ _ e' _ hb
       have hoth:∀y,y≠b->w1.heap[y]?=w.heap[y]?:=fun y hy=>by rw [<- hw1];exact setRow_other w b y _ hy
       have hrb:E.φ x.r b:=f4 b hS';have hbn:b<n0:=hrn _ R hRr b hrb;have hold:∀i' j,i'<l.length->j<t.width->¬ Hit i.toNat off [v].length i' j->∀y,K i' j y->w1.heap[y]?=w.heap[y]?:=fun i' j hi' hj _ y hy=>hoth y ((hsub i' j y hi' hj hy).2 rfl)
       have hbv:n0<=bv\/K i.toNat off bv:=by
        rcases hwhere with h|⟨off1,len1,cap1,h⟩
        ·exact .inl h
        ·right
         rw [<- hpp,fwp] at h;simp only [zL] at h;rw [if_pos ⟨e3,e4⟩] at h;split at h
         ·rename_i t3 hsh;rw [cell_of_block hb,hvv i.toNat off e4 hfit] at h;simp only [Option.some.injEq] at h;obtain ⟨c,hc,hct⟩:=zt4 (x:=ix l i t.dflt) hsh;obtain ⟨l3,rfl⟩:=ziG hct;have hr3:=hcc i.toNat _ (ziN e4) off _ hc;rw [h] at hr3;cases hr3 with
          | void _ _ _ ho=>cases ho
          | sl _ _ _ _ _ _ _ _ _ _ _ _ _ _ _ _ hS3=>exact hS3
         ·cases h
       have hbvb:bv≠b:=by
        rcases hbv with h|h
        ·omega
        ·exact (hsub _ _ bv e4 hfit h).2 rfl
       have hset1:=Rep.setCells (w:=w) (w1:=w1) (us:=[v]) (Kn:=fun _ y=>y=bv) hlen1 hcap hsz hRows e4 rfl hfit' hset hb1 (fun k c u hc hu=>by
        cases k with
        | zero =>
         simp only [List.getElem?_cons_zero,Option.some.injEq] at hc hu;subst hc hu;exact hvrep.frame (fun y hy=>hoth y (by rw [hy];exact hbvb))
        | succ k=>simp at hc)
        hold
        (fun k y _ hy=>by rw [hy];exact hbvb)
        (fun k k' y hk hk' _ _=>by simp at hk hk';omega)
        (fun k y i' j hk hy hi' hj hnh hy'=>by
         subst hy;rcases hbv with h|h
         ·have:=hrn _ R hRr y (f4 y (hsub i' j y hi' hj hy').1);omega
         ·have:=hdis rfl _ _ _ _ y e4 hfit hi' hj h hy';exact hnh ⟨this.1.symm,by omega,by simp;omega⟩)
       have hS2:∀y,(y=b\/(∃i' j,i'<l.length/\j<t.width/\¬ Hit i.toNat off [v].length i' j/\K i' j y)\/∃k,k<[v].length/\y=bv)->S1 y\/(n0<=y/\y=bv):=by
        intro y hy;rcases hy with rfl|⟨i',j,hi',hj,_,hk⟩|⟨k,hk,rfl⟩
        ·exact .inl hS'
        ·exact .inl (hsub i' j y hi' hj hk).1
        ·rcases hbv with h|h
         ·exact .inr ⟨h,rfl⟩
         ·exact .inl (hsub _ _ _ e4 hfit h).1
       obtain ⟨m',hm',hrm,hh1,hh2⟩:=f5 w1 l' _ (fun y hy hny=>hoth y (fun e=>hny (e ▸ hS'))) (fun y hy hy'=>by
        rcases hS2 y hy with h|⟨h,_⟩
        ·exact h
        ·have:=hrn _ R hRr y hy';omega) hset1
       rw [hput] at hm';cases hm';have hsz1:w1.heap.size=w.heap.size:=by rw [<- hw1];simp
       have hbvlt:bv<w.heap.size:=(zRw hvrep hve).1;have hsim:=zwa (w1:=w1) (m:=m) (js:=[cols p++[off]]) hn0 hrn hln hS hRr hown (by rw [<- hw1];rfl) (by rw [<- hw1];rfl) (by rw [<- hw1];rfl) (by omega) (fun y _ hny=>hoth y (fun e=>hny (e ▸ hrb))) (fun y hy=>by
        rcases hy with ⟨hy,_⟩|hy
        ·exact ⟨.inl hy,by have:=hM.rlt _ R hRr y hy;omega⟩
        ·rcases hS2 y hy with h|⟨h,rfl⟩
         ·exact ⟨.inl (f4 y h),by have:=hM.rlt _ R hRr y (f4 y h);omega⟩
         ·exact ⟨.inr h,by omega⟩) hrm (fun q u hq hns=>by
        rcases ztK p q with ⟨q',rfl⟩|hnp
        ·rw [hh2 q'];rw [fwp q'] at hq;refine zpn (us:=[v]) hcap hsz hRows hb e4 rfl hfit' hset hb1 hold q' (fun i' j q'' he k c hj hck=>?_) hoth hq;subst he hj;cases k with
         | succ k=>simp at hck
         | zero =>
          exfalso;have h9:=List.any_eq_false.1 hns (cols p++[off]) (by simp)
          exact absurd (zrt p i' off q'') h9
        ·exact hh1 q u hq (fun q' he=>absurd ⟨q',he⟩ hnp))
       have hput2:=hsim.putV (dst:=o.dst) (m:=.und) (v:=undef) rfl (fun n hn=>by simp [MV.ids,zbk] at hn)
       refine zvX (w':=w1) ?_ ⟨hput2.mem,⟨fun n R hn=>.inl (hput2.ids.ro n R hn),fun n cs hn=>⟨.inl (hput2.ids.lo n cs hn).1,fun a ha m hm=>.inl ((hput2.ids.lo n cs hn).2 a ha m hm)⟩,fun m hm n hn=>.inl (hput2.ids.tm m hm n hn),fun f hf m hm n hn=>.inl (hput2.ids.stk f hf m hm n hn)⟩,hput2.tm,hput2.stk⟩;have hev:({ tmps:=ts,defers:=[] }:Act).eval (.tmp x.dst)=v:=by simp [Act.eval,hv0]
       simp [execOp,ho,Instr.storeAt,e5,Instr.sureAddr,hev,hrun]
      ·cases h
     ·cases h
    ·cases h
   ·cases h
  ·cases h
 ·cases h
end
section
variable {C:Cfg} {w0 w w1:World} {S0:zQ} {U:Nat->Prop} {st st1:St} {E E1:Env} {ts:Array Value} {sv:List (Array Value)}
variable {ops:Array Oper} {b:Bool} {base:Nat} {cl:List (List Nat)} {ss:List Step} {st0:St}
theorem zCn {w w':World}(h:w'.heap=w.heap):∀(p:List (Int×Nat)) (t:Ty) (v:Value),zL w' t v p=zL w t v p
 | [],t,v=>by simp only [zL]
 | (i,j) :: p,t,v=>by
  have hc:∀a,w'.cell? a=w.cell? a:=fun a=>by simp only [World.cell?,h]
  have ih:=zCn h p;cases v with
  | slice a len cap=>cases a<;>simp only [zL,hc,ih]
  | _=>simp only [zL]
theorem Sim.heap (hS:Sim w0 S0 U st E ts sv w){w':World}(h1:w'.heap=w.heap)(h2:w'.os=w.os)(h3:w'.tape=w.tape)(h4:w'.output=w.output):Sim w0 S0 U st E ts sv w':=by
 have T:Trans st E w st E w' (fun _=>True):=⟨fun r _ R h=>⟨R,h,rfl,fun p u hu=>by rw [zCn h1];exact hu⟩,fun l _ cs h=>⟨⟨cs,h⟩,rfl⟩,rfl⟩
 have hM:=hS.mem;refine ⟨⟨by rw [h2];exact hM.os,by rw [h3];exact hM.tape,by rw [h4];exact hM.output,by rw [h1];exact hM.size,fun b hb hn=>by rw [h1];exact hM.keep b hb hn,
  fun r R h=>(hM.rep r R h).frame (fun x _=>by rw [h1]),fun r R h x hx=>by rw [h1];exact hM.rlt r R h x hx,hM.mine,hM.apart,fun l cs hl=>?_,hM.linj,hM.lro,hM.epo,hM.κ⟩,hS.ids,
  Slots.tr T (fun _ _ _ _=>trivial) hS.tm,Stack.tr T (fun _ _ _ _ _ _=>trivial) hS.stk⟩
 obtain ⟨g1,vals,e,g2,g3,g4⟩:=hM.loc l cs hl;exact ⟨g1,vals,e,by rw [h1];exact g2,g3,fun j c u hc hu=>⟨(g4 j c u hc hu).1,VA.tr T (fun _ _=>trivial) (g4 j c u hc hu).2⟩⟩
theorem Sim.blind (hS:Sim w0 S0 U st E ts sv w)(c:Bool)(n:Nat):Sim w0 S0 U { st with nid:=n,ep:=if c then st.ep+1 else st.ep } E ts sv w:=by
 have h:=hS.nid n;cases c with
 | false=>exact h
 | true =>
  refine h.fewer (fun _=>rfl) (fun _=>rfl) rfl (fun r R hR=>?_) (fun r R hR=>⟨R,hR⟩) (fun r R e hR he=>?_)
  ·obtain ⟨g1,g2⟩:=zbf hR;have hn:R.ep=none:=by
    rcases g2 with g2|g2
    ·exact g2
    ·have:=hS.mem.epo r R _ g1 g2;simp only [if_true] at this;omega
   show St.root { st with nid:=n } r=some R
   unfold St.root;have g3:zh ({ st with nid:=n }:St).ro r=some R:=g1;rw [g3];simp only [hn]
  ·have:=hS.mem.epo r R e hR he
   show e<=st.ep+1
   omega
theorem cnt_lt {p q:Nat->Bool}:∀(l:List Nat),(∀x∈l,q x=true->p x=true)->(∃x∈l,p x=true/\q x=false)->l.countP q<l.countP p
 | [],_,h=>by obtain ⟨x,hx,_⟩:=h;cases hx
 | a :: l,h1,h2=>by
  have hle:∀(m:List Nat),(∀x∈m,q x=true->p x=true)->m.countP q<=m.countP p:=fun m hm=>List.countP_mono_left hm;have hm:=hle l (fun x hx=>h1 x (by simp [hx]))
  simp only [List.countP_cons];cases hq:q a with
  | true =>
   rw [h1 a (by simp) hq]
   have:l.countP q<l.countP p:=cnt_lt l (fun x hx=>h1 x (by simp [hx])) (by
    obtain ⟨x,hx,g1,g2⟩:=h2;rcases List.mem_cons.1 hx with rfl|hx
    ·rw [hq] at g2;cases g2
    ·exact ⟨x,hx,g1,g2⟩)
   simp only [if_true];omega
  | false =>
   cases hp:p a with
   | true=>simp;omega
   | false =>
    have:l.countP q<l.countP p:=cnt_lt l (fun x hx=>h1 x (by simp [hx])) (by
     obtain ⟨x,hx,g1,g2⟩:=h2;rcases List.mem_cons.1 hx with rfl|hx
     ·rw [hp] at g1;cases g1
     ·exact ⟨x,hx,g1,g2⟩)
    simp;omega
def left (n:Nat)(listed:Array Bool):Nat:=(List.range n).countP fun i=>!listed.getD i true
theorem zAX {listed:Array Bool}{n i:Nat}(hi:i<n)(hl:listed.getD i true=false):left n (listed.setIfInBounds i true)<left n listed:=by
 unfold left;have hlt:i<listed.size:=by
  rcases Nat.lt_or_ge i listed.size with h|h
  ·exact h
  ·simp [Array.getElem?_eq_none h] at hl
 refine cnt_lt _ (fun x _ hx=>?_) ⟨i,List.mem_range.2 hi,by rw [hl];rfl,by simp [hlt]⟩
 by_cases hxi:i=x
 ·subst hxi;simp [hlt] at hx
 ·rwa [getD_set_ne true hxi] at hx
structure Waits (md:Region.Mode) (ops:Array Oper) (cl:List (List Nat)):Prop where
 at':∀i,i<ops.size->cl.getD i []=waits ops (cl.take i) i
 lt:∀i,i<ops.size->∀j∈cl.getD i [],j<i
 sub:∀e,Region.binds .any e=true->Region.binds md e=true
 rk:∃rk:Nat->Nat,∀(i:Nat) (o:Oper),ops[i]?=some o->∀e∈o.after,Region.binds md e=true->e.on<ops.size/\rk e.on<rk i
variable {md:Region.Mode}
theorem zVQ (hat:∀i,i<ops.size->cl.getD i []=waits ops (cl.take i) i){i:Nat}{o:Oper}(ho:ops[i]?=some o){e:Edge}(he:e∈o.after)(hb:Region.binds .any e=true):e.on∈cl.getD i []:=by
 have hi:=(Array.getElem?_eq_some_iff.1 ho).1;rw [hat i hi];simp only [waits,ho];exact List.mem_flatMap.2 ⟨e,by simpa using he,by rw [if_pos hb];exact List.mem_cons_self⟩
theorem zIl {l:List (List Nat)}{i j k:Nat}(h:k∈(l.take i).getD j []):k∈l.getD j []:=by
 rw [List.getD_eq_getElem?_getD,List.getElem?_take] at h;rw [List.getD_eq_getElem?_getD];split at h
 ·exact h
 ·simp at h
theorem Waits.inv (W:Waits md ops cl){i j:Nat}{o:Oper}(ho:ops[i]?=some o)(hj:j∈cl.getD i []):∃e∈o.after,Region.binds .any e=true/\(j=e.on\/j∈cl.getD e.on []):=by
 have hi:=(Array.getElem?_eq_some_iff.1 ho).1;rw [W.at' i hi] at hj;simp only [waits,ho] at hj;obtain ⟨e,he,hj⟩:=List.mem_flatMap.1 hj;split at hj
 ·rename_i hb;refine ⟨e,by simpa using he,hb,?_⟩
  rcases List.mem_cons.1 hj with h|h
  ·exact .inl h
  ·exact .inr (zIl h)
 ·cases hj
def XL (listed:Array Bool)(k:Nat):Bool:=listed.getD k false
theorem zzq (W:Waits md ops cl){listed:Array Bool}(hX:zht cl (XL listed)){i:Nat}(hi:i∈Region.ready md ops listed):∀j∈cl.getD i [],XL listed j=true:=by
 obtain ⟨_,o,ho,hall⟩:=mem_ready.1 hi;intro j hj;obtain ⟨e,he,hb,h|h⟩:=W.inv ho hj
 ·subst h;exact hall e he (W.sub e hb)
 ·exact hX _ (hall e he (W.sub e hb)) j h
theorem least {p:Nat->Prop}:∀n,p n->∃m,m<=n/\p m/\∀j,j<m->¬ p j:=by
 intro n
 induction n using Nat.strongRecOn with
 | _ n ih =>
  intro hp
  by_cases h:∃j,j<n/\p j
  ·obtain ⟨j,h1,h2⟩:=h;obtain ⟨m,g1,g2,g3⟩:=ih j h1 h2;exact ⟨m,by omega,g2,g3⟩
  ·exact ⟨n,Nat.le_refl _,hp,fun j hj hpj=>h ⟨j,hj,hpj⟩⟩
theorem zDA (W:Waits md ops cl){listed:Array Bool}(hsz:listed.size=ops.size){i0:Nat}(hi0:i0<ops.size)(hl0:listed.getD i0 true=false):∃i,i∈Region.ready md ops listed:=by
 obtain ⟨rk,hrk⟩:=W.rk;obtain ⟨n,_,⟨i,hi,hl,hn⟩,hmin⟩:=least (p:=fun n=>∃i,i<ops.size/\listed.getD i true=false/\rk i=n) (rk i0) ⟨i0,hi0,hl0,rfl⟩;refine ⟨i,mem_ready.2 ⟨hl,ops[i],by simp [hi],fun e he hb=>?_⟩⟩
 obtain ⟨h1,h2⟩:=hrk i ops[i] (by simp [hi]) e he hb
 cases h:listed.getD e.on false with
 | true=>rfl
 | false =>
  exfalso;refine hmin (rk e.on) (by omega) ⟨e.on,h1,?_,rfl⟩
  have hlt:e.on<listed.size:=by omega
  simp only [Array.getD,hlt,dif_pos] at h ⊢;exact h
theorem zou {listed:Array Bool}{i:Nat}(hi:i<listed.size):XL listed i=listed.getD i true:=by
 simp [XL,hi]
theorem zBN {listed:Array Bool}{i:Nat}(hi:i<listed.size)(k:Nat):XL (listed.setIfInBounds i true) k=(XL listed k||k==i):=by
 unfold XL
 by_cases h:i=k
 ·subst h;simp [hi]
 ·rw [getD_set_ne false h];have:(k==i)=false:=by simp;omega
  rw [this,Bool.or_false]
theorem zPP {P:Program}{Q Q':Exit->Act->World->Prop}(hQ:∀e,e≠.normal->∀a w,Q' e a w->Q e a w){i:Nat}{K:Act->World->Prop}{a:Act}{w:World}(h:wpOp P ops Q' i K a w):wpOp P ops Q i K a w:=by
 have hlo:LetsOut Q'->LetsOut Q:=by
  rintro ⟨a,w,h⟩
  exact ⟨a,w,hQ _ (by simp) a w h⟩
 unfold wpOp at h ⊢;split
 ·rename_i hn;rw [hn] at h;exact h
 ·rename_i o ho;simp only [ho] at h;split
  ·rename_i hw;rw [if_pos hw] at h;rcases h with h|⟨h1,h2⟩
   ·left
    unfold Oper.wp at *;generalize (execOp a.eval o).run P w=r at *;cases r with
    | ok n w' =>
     cases n<;>simp only [Oper.upon] at h ⊢ <;>
      first
       | exact h
       | exact h.mono (fun e w'' he=>by
        cases e with
        | returned v=>exact he
        | panicked c=>exact hQ _ (by simp) _ _ he
        | outgrown=>exact hlo he)
    | halt x w' =>
     cases x<;>simp only [Oper.upon] at h ⊢ <;> first|exact hQ _ (by simp) _ _ h|exact h
   ·exact .inr ⟨h1,hlo h2⟩
  ·rename_i hw;rw [if_neg hw] at h;exact h
theorem znZ (W:Waits md ops cl){listed:Array Bool}{m:Nat}(hsz:listed.size=ops.size)(hl:∀i,i<ops.size->listed.getD i true=decide (i<m)):zht cl (XL listed):=by
 intro k hk j hj;have hks:k<ops.size:=by
  rcases Nat.lt_or_ge k listed.size with h|h
  ·omega
  ·simp [XL,Array.getElem?_eq_none h] at hk
 rw [zou (by omega),hl k hks] at hk
 simp at hk;have:=W.lt k hks j hj;rw [zou (by omega),hl j (by omega)]
 simp;omega
theorem zTd {P:Program}{Q:Exit->Act->World->Prop}{fuel:Nat}{listed:Array Bool}{a:Act}{w:World}(hl:∀i,i<ops.size->listed.getD i true=true)(h:Q .normal a w):wpAny P md ops Q fuel listed a w:=by
 have hr:Region.ready md ops listed=[]:=by
  refine List.eq_nil_iff_forall_not_mem.2 (fun i hi=>?_);obtain ⟨h0,o,ho,_⟩:=mem_ready.1 hi;have hi:=(Array.getElem?_eq_some_iff.1 ho).1;rw [hl i hi] at h0;cases h0
 cases fuel with
 | zero=>exact ⟨hr,h⟩
 | succ fuel=>exact ⟨fun _=>h,fun i hi=>by rw [hr] at hi;cases hi⟩
theorem zNH (W:Waits md ops cl){P:Program}{Q:Exit->Act->World->Prop}{fuel m:Nat}{listed:Array Bool}{a:Act}{w:World}(hsz:listed.size=ops.size)(hm:m<ops.size)(hp:Pinned ops.size cl m)(hl:∀i,i<ops.size->listed.getD i true=decide (i<m))(hf:left ops.size listed<=fuel)(h:∀fl l',l'.size=ops.size->(∀i,i<ops.size->l'.getD i true=decide (i<m+1))->left ops.size l'<=fl->fuel=fl+1->l'=listed.setIfInBounds m true->wpOp P ops Q m (wpAny P md ops Q fl l') a w):wpAny P md ops Q fuel listed a w:=by
 have hu:listed.getD m true=false:=by rw [hl m hm];simp
 obtain ⟨i1,hmr⟩:=zDA W hsz hm hu;have hlt:=zAX (listed:=listed) (n:=ops.size) (i:=m) hm hu;obtain ⟨fuel,rfl⟩:∃f,fuel=f+1:=⟨fuel-1,by omega⟩
 refine ⟨fun h=>(by rw [h] at hmr;cases hmr),fun i hi=>?_⟩
 obtain ⟨h0,o,ho,_⟩:=mem_ready.1 hi;have his:=(Array.getElem?_eq_some_iff.1 ho).1;rw [hl i his] at h0;simp only [decide_eq_false_iff_not,Nat.not_lt] at h0;have hieq:i=m:=by
  by_cases hne:i=m
  ·exact hne
  ·exfalso;have:=zzq W (znZ W hsz hl) hi m (hp.wait i (by omega) his)
   rw [zou (by omega),hu] at this
   cases this
 subst hieq;refine h fuel _ (by simp [hsz]) (fun k hk=>?_) (by omega) rfl rfl
 by_cases hik:i=k
 ·subst hik;simp [hsz,his]
 ·rw [getD_set_ne true hik,hl k hk]
  congr 1
  simp only [eq_iff_iff];omega
theorem zIZ {a T:Nat}(W:Waits md ops cl)(hTs:T<=ops.size)(hpin:T<ops.size->Pinned ops.size cl T){P:Program}{Q:Exit->Act->World->Prop}{J:(Nat->Bool)->Env->Array Value->World->Prop}(hcongr:∀X Y E ts w,(∀k,a<=k->k<T->X k=Y k)->J X E ts w->J Y E ts w)(hstep:∀X Y i,zht cl X->a<=i->i<T->X i=false->(∀j∈cl.getD i [],X j=true)->(∀k,Y k=(X k||k==i))->∀E ts w,J X E ts w->∀K:Act->World->Prop,(∀E' ts' w',J Y E' ts' w'->K { tmps:=ts',defers:=[] } w')->wpOp P ops Q i K { tmps:=ts,defers:=[] } w)(htail:∀(fl:Nat) (l':Array Bool) (E':Env) (ts':Array Value) (w':World),l'.size=ops.size->(∀i,i<ops.size->l'.getD i true=decide (i<T))->left ops.size l'<=fl->J (fun _=>true) E' ts' w'->wpAny P md ops Q fl l' { tmps:=ts',defers:=[] } w') :
 ∀(fuel:Nat) (listed:Array Bool) (E:Env) (ts:Array Value) (w:World),listed.size=ops.size->zht cl (XL listed)->(∀i,i<a->XL listed i=true)->(∀m,T<=m->m<ops.size->XL listed m=false)->left ops.size listed<=fuel ->
  J (XL listed) E ts w->wpAny P md ops Q fuel listed { tmps:=ts,defers:=[] } w
 | fuel,listed,E,ts,w,hsz,hX,hbel,hlow,hf,hS=>by
  by_cases hall:∀i,i<T->XL listed i=true
  ·have hl:∀i,i<ops.size->listed.getD i true=decide (i<T):=by
    intro i hi;rw [<- zou (by omega)]
    by_cases h:i<T
    ·rw [hall i h];simp [h]
    ·rw [hlow i (by omega) hi];simp [h]
   exact htail fuel listed E ts w hsz hl hf (hcongr _ _ E ts w (fun k _ hk=>hall k hk) hS)
  ·have hex:∃i,i<T/\XL listed i=false:=by
    refine Classical.byContradiction (fun hn=>hall (fun i hi=>?_));cases h:XL listed i with
    | true=>rfl
    | false=>exact absurd ⟨i,hi,h⟩ hn
   obtain ⟨i0,hi0,hi0X⟩:=hex;have hu0:listed.getD i0 true=false:=by rw [<- zou (by omega)];exact hi0X
   obtain ⟨i1,hmr⟩:=zDA W hsz (by omega) hu0
   have hpos:0<left ops.size listed:=by
    have:=zAX (listed:=listed) (n:=ops.size) (i:=i0) (by omega) hu0
    omega
   obtain ⟨fuel,rfl⟩:∃f,fuel=f+1:=⟨fuel-1,by omega⟩
   refine ⟨fun h=>(by rw [h] at hmr;cases hmr),fun i hi=>?_⟩
   obtain ⟨h0,o,ho,_⟩:=mem_ready.1 hi;have his:=(Array.getElem?_eq_some_iff.1 ho).1;have hiX:XL listed i=false:=by rw [zou (by omega)];exact h0
   have hw:=zzq W hX hi;have hia:a<=i:=by
    refine Classical.byContradiction (fun hn=>?_);rw [hbel i (by omega)] at hiX
    cases hiX
   have hiT:i<T:=by
    refine Classical.byContradiction (fun hn=>?_);have hp:=hpin (by omega)
    by_cases hiT:i=T
    ·subst hiT;have:=hw i0 (hp.full i0 hi0);rw [hi0X] at this;cases this
    ·have:=hw T (hp.wait i (by omega) his)
     rw [hlow T (Nat.le_refl _) (by omega)] at this
     cases this
   refine hstep _ (XL (listed.setIfInBounds i true)) i hX hia hiT hiX hw (zBN (by omega)) E ts w hS _ (fun E' ts' w' hS'=>?_)
   refine zIZ W hTs hpin hcongr hstep htail fuel (listed.setIfInBounds i true) E' ts' w' (by simp [hsz]) ?_ ?_ ?_ ?_ hS'
   ·intro k hk j hj;rw [zBN (by omega)] at hk ⊢
    by_cases hki:k=i
    ·subst hki;rw [hw j hj];rfl
    ·have:(k==i)=false:=by simp [hki]
     rw [this,Bool.or_false] at hk;rw [hX k hk j hj];rfl
   ·intro k hk;rw [zBN (by omega),hbel k hk];rfl
   ·intro m hm hms;rw [zBN (by omega),hlow m hm hms]
    simp;omega
   ·have:=zAX (listed:=listed) (n:=ops.size) his h0;omega
theorem zSU (hC:CfgOk C)(hH:CtrOk C){a T:Nat}(W:Waits md ops cl)(hT:a+ss.length=T)(hTs:T<=ops.size)(hpin:T<ops.size->Pinned ops.size cl T)(F:Free C ops cl b base a ss st0)(hb:b=false->∀k,a<=k->k<T->zkt ops k=false)(hd:b=true->Dead st0/\0<st0.ep)(hM:∀k,a<=k->k<T->∀n,Mine (base+32*k) n->¬ U n){Q:Exit->Act->World->Prop}(htail:∀(fl:Nat) (l':Array Bool) (E':Env) (ts':Array Value) (w':World),l'.size=ops.size->(∀i,i<ops.size->l'.getD i true=decide (i<T))->left ops.size l'<=fl ->
 Sim w0 S0 (UX U base a T (fun _=>true)) (zbe ops b (fun _=>true) a ss st0) E' ts' sv w'->wpAny C.P md ops Q fl l' { tmps:=ts',defers:=[] } w') :
 ∀(fuel:Nat) (listed:Array Bool) (E:Env) (ts:Array Value) (w:World),listed.size=ops.size->zht cl (XL listed)->(∀i,i<a->XL listed i=true)->(∀m,T<=m->m<ops.size->XL listed m=false)->left ops.size listed<=fuel ->
  Sim w0 S0 (UX U base a T (XL listed)) (zbe ops b (XL listed) a ss st0) E ts sv w->wpAny C.P md ops Q fuel listed { tmps:=ts,defers:=[] } w :=
 zIZ (J:=fun X E ts w=>Sim w0 S0 (UX U base a T X) (zbe ops b X a ss st0) E ts sv w) W hTs hpin
  (fun X Y E ts w h hS=>by
   rw [zmO ss a st0 (fun k h1 h2=>h k h1 (by omega))] at hS
   refine hS.uses ?_
   rintro n (h1|⟨k,h0,h1,h2,h3⟩)
   ·exact .inl h1
   ·exact .inr ⟨k,h0,h1,by rw [<- h k h0 h1];exact h2,h3⟩)
  (fun X Y i hX hia hi hXi hr hY E ts w hS K hK=>zGC hC hH hT F hX hia hi hXi hr hb hd hM hY hS hK) htail
theorem get_put {st:St}{d:Nat}{m:MV}{κ:Key}(h:κ≠.tm d):(st.put (some d) m).get κ=st.get κ:=by
 cases κ with
 | tm t =>
  have:d≠t:=fun e=>h (by rw [e])
  simp [St.get,St.put,List.getElem?_set,this]
 | ro n=>rfl
 | lo n=>rfl
theorem zR7 {st st':St}{o:Oper}(hep:st'.ep=st.ep)(htm:∀t∈zkZ o,st'.get (.tm t)=st.get (.tm t))(hro:∀n∈(zqB st o).flatMap zY,st'.get (.ro n)=st.get (.ro n))(hlo:∀n∈(zqB st o).flatMap zZ,st'.get (.lo n)=st.get (.lo n)):Agree st st' o.op.operands.toList:=by
 refine ⟨hep,fun x hx=>?_,fun x hx m hm a ha=>?_⟩
 ·cases x with
  | tmp t =>
   have ht:t∈zkZ o:=by
    unfold zkZ;exact List.mem_filterMap.2 ⟨_,hx,rfl⟩
   simp only [St.opnd,zCh (htm t ht)]
  | _=>rfl
 ·have hA:a∈zqB st o:=by
   unfold zqB;exact List.mem_flatMap.2 ⟨m,List.mem_filterMap.2 ⟨x,hx,hm⟩,ha⟩
  exact ⟨fun n hn=>zCg (hro n (List.mem_flatMap.2 ⟨a,hA,hn⟩)),fun n hn=>zCf (hlo n (List.mem_flatMap.2 ⟨a,hA,hn⟩))⟩
theorem zLY {st st':St}{o:Oper}(h:Agree st st' o.op.operands.toList):zmK C st' o=zmK C st o:=by
 cases hop:o.op with
 | call c =>
  rw [hop] at h;have hp:∀x∈c.args.toList,x∈(Op.call c).operands.toList:=fun x hx=>by simp only [Op.operands,Call.operands,Array.toList_append,List.mem_append];exact .inr hx
  simp only [zmK,hop];cases hd:o.dst with
  | none=>rfl
  | some d =>
   cases hg:o.guard with
   | some g=>rfl
   | none =>
    simp only;cases hcb:c.callee with
    | builtin b =>
     cases b with
     | append =>
      simp only;split
      ·rename_i x y T T2 hca hct;have hx:=hp x (by rw [hca];simp)
       have hy:=hp y (by rw [hca];simp)
       rw [h.at hx,h.at hy];split
       ·cases hT:C.sty T with
        | none=>rfl
        | some t =>
         cases e:st.at x with
         | none=>rfl
         | some a =>
          cases a with
          | sl r p =>
           cases p with
           | nil=>rfl
           | cons ij p =>
            cases e2:st.at y with
            | none=>rfl
            | some b =>
             cases b with
             | sl r2 p2=>simp only [h.root (zdb hx e),h.node (zdb hx e),h.node (zdb hy e2)]
             | _=>rfl
          | _=>rfl
       ·rfl
      ·rfl
     | _=>rfl
    | _=>rfl
 | _=>simp only [zmK,hop]
theorem zDz (hC:CfgOk C)(hS:Sim w0 S0 U st E ts sv w){o:Oper}{id:Nat}{d:Dl}(hp:zsu o=true)(h:delta C st o id=some d)(hc:d.c=true):o.guard=none/\zot C U st E ts w o d:=by
 unfold zsu at hp;simp only [Bool.and_eq_true,Option.isNone_iff_eq_none] at hp;obtain ⟨hg,hp⟩:=hp;refine ⟨hg,?_⟩;cases hop:o.op
 case move x =>
  rw [hop] at hp;cases x with
  | tmp t =>
   simp only [delta,hop] at h;split at h
   ·rename_i v hv;cases h;exact zRm hS (.inl hop) hv
   ·cases h
  | _=>simp at hp
 case load T x=>exact zRl hC hS hop h
 case fieldAddr T x f=>exact zzo hC hS hop h
 case indexAddr T x y=>exact zzp hC hS hop h hc
 case nilCheck x=>exact zDt hS hop h
 all_goals (rw [hop] at hp;simp at hp)
theorem pure_run {o:Oper}{i:Nat}{d:Dl}{v:Value}{Q:Exit->Act->World->Prop}{K:Act->World->Prop}(ho:ops[i]?=some o)(hg:o.guard=none)(hr:(execOp ({ tmps:=ts,defers:=[] }:Act).eval o).run C.P w = .ok (.value v) w1)(h:K { tmps:=(({ tmps:=ts,defers:=[] }:Act).put o.dst v).tmps,defers:=[] } w1):wpOp C.P ops Q i K { tmps:=ts,defers:=[] } w:=by
 unfold wpOp;simp only [ho];rw [if_pos (by simp [Region.wanted,hg])]
 left
 unfold Oper.wp;rw [hr,Oper.upon_value,zgu];exact h
theorem zK7 {d t:Nat}{v u:Value}(h:ts[t]?=some u)(hne:d≠t):(({ tmps:=ts,defers:=[] }:Act).put (some d) v).tmps[t]?=some u:=by
 simp [Act.put,Array.getElem?_setIfInBounds_ne hne,h]
theorem zS5 (hC:CfgOk C)(hH:CtrOk C){a A:Nat}(W:Waits md ops cl)(hA:a+ss.length=A)(hTs:A+1<=ops.size)(hpin:A+1<ops.size->Pinned ops.size cl (A+1))(F:Free C ops cl b base a ss st0)(hb:b=false->∀k,a<=k->k<A->zkt ops k=false)(hbt:b=true)(hd:b=true->Dead st0/\0<st0.ep)(hM:∀k,a<=k->k<A->∀n,Mine (base+32*k) n->¬ U n){oA:Oper}{x:App}(hoA:ops[A]?=some oA)(hap:zmK C (zbe ops b (fun _=>true) a ss st0) oA=some (true,x))(hlo:zwd ops cl a A=true)(hlen:x.dst<(zbe ops b (fun _=>true) a ss st0).tm.length)(hfoot:∀i s o f,ss[i]?=some s->ops[a+i]?=some o->At1 C ops base (a+i) o (zbe ops b (fun j=>decide (j<a+i)) a ss st0) f s->a+i∉cl.getD A []->f.apart (zd6 (zbe ops b (fun _=>true) a ss st0) ops oA zxo)=true){Q:Exit->Act->World->Prop}(htail:∀(fl:Nat) (l':Array Bool) (E':Env) (ts':Array Value) (w':World) (v:Value),l'.size=ops.size->(∀i,i<ops.size->l'.getD i true=decide (i<A+1))->left ops.size l'<=fl->ts'[x.dst]?=some v ->
 Sim w0 S0 (UX U base a A (fun _=>true)) ((zbe ops b (fun _=>true) a ss st0).put oA.dst (.v (.at .bad))) E' ts' sv w'->Late w0 ((zbe ops b (fun _=>true) a ss st0).put oA.dst (.v (.at .bad))) E' x v w'->wpAny C.P md ops Q fl l' { tmps:=ts',defers:=[] } w')(fuel:Nat)(listed:Array Bool)(E:Env)(ts:Array Value)(w:World)(hsz:listed.size=ops.size)(hX:zht cl (XL listed))(hbel:∀i,i<a->XL listed i=true)(hlow:∀m,A<=m->m<ops.size->XL listed m=false)(hf:left ops.size listed<=fuel)(hS:Sim w0 S0 (UX U base a A (XL listed)) (zbe ops b (XL listed) a ss st0) E ts sv w):wpAny C.P md ops Q fuel listed { tmps:=ts,defers:=[] } w:=by
 have hdst:oA.dst=some x.dst/\oA.guard=none:=by
  unfold zmK at hap;split at hap
  ·rename_i c d ho hdst hgu;refine ⟨?_,hgu⟩;rw [hdst]
   congr 1
   repeat' (first|(split at hap)|(cases hap))
   all_goals first|rfl|(simp only [Option.some.injEq,Prod.mk.injEq] at hap;obtain ⟨_,rfl⟩:=hap;rfl)
  ·cases hap
 have huses:∀{X Y:Nat->Bool} {i:Nat},(∀k,Y k=(X k||k==i))->∀n,UX U base a A X n->UX U base a A Y n:=by
  intro X Y i hY n h;rcases h with h|⟨k,h0,h1,h2,h3⟩
  ·exact .inl h
  ·exact .inr ⟨k,h0,h1,by rw [hY,h2];rfl,h3⟩
 have hfA:∀{X:Nat->Bool} (κ:Key),(∀j∈cl.getD A [],X j=true)->(zd6 (zbe ops b (fun _=>true) a ss st0) ops oA zxo).reads κ->(zbe ops b X a ss st0).get κ=(zbe ops b (fun _=>true) a ss st0).get κ:=by
  intro X κ hr hκ;refine zmN ss a st0 st0 rfl rfl (fun k s' o' hk ho' hne hw=>?_);obtain ⟨o2,f',ho2,h2⟩:=F.at1 k s' hk;rw [ho'] at ho2;cases ho2;have hXk:X (a+k)=false:=by
   cases h:X (a+k) with
   | false=>rfl
   | true=>exact absurd h hne
  have hn:a+k∉cl.getD A []:=fun h=>by rw [hr _ h] at hXk;cases hXk
  exact ((apart_spec (hfoot k s' o' f' hk ho' h2 hn)).1 κ ((zvE h2 κ).1 hw)).1 hκ
 refine zIZ (T:=A+1) (J:=fun X E ts w=>(X A=false->Sim w0 S0 (UX U base a A X) (zbe ops b X a ss st0) E ts sv w) /\
  (X A=true->∃v,ts[x.dst]?=some v/\Sim w0 S0 (UX U base a A X) ((zbe ops b X a ss st0).put oA.dst (.v (.at .bad))) E ts sv w/\Late w0 (zbe ops b X a ss st0) E x v w)) W hTs hpin ?_ ?_ ?_
  fuel listed E ts w hsz hX hbel (fun m h1 h2=>hlow m (by omega) h2) hf ⟨fun _=>hS,fun h=>(by rw [hlow A (Nat.le_refl _) (by omega)] at h;cases h)⟩
 ·intro X Y E ts w h hJ;have hXA:X A=Y A:=h A (by omega) (by omega)
  have e:=zmO (ops:=ops) (b:=b) ss a st0 (X:=X) (Y:=Y) (fun k h1 h2=>h k h1 (by omega))
  have hu:∀n,UX U base a A X n->UX U base a A Y n:=by
   rintro n (h1|⟨k,h0,h1,h2,h3⟩)
   ·exact .inl h1
   ·exact .inr ⟨k,h0,h1,by rw [<- h k h0 (by omega)];exact h2,h3⟩
  refine ⟨fun hYA=>?_,fun hYA=>?_⟩
  ·have:=hJ.1 (hXA.trans hYA);rw [e] at this;exact this.uses hu
  ·obtain ⟨v,h1,h2,h3⟩:=hJ.2 (hXA.trans hYA);rw [e] at h2 h3;exact ⟨v,h1,h2.uses hu,h3⟩
 ·intro X Y i hX hia hi hXi hr hY E ts w hJ K hK
  by_cases hiA:i=A
  ·subst hiA;have hSX:=hJ.1 hXi;have hYX:zbe ops b Y a ss st0=zbe ops b X a ss st0:=zmO ss a st0 (fun k h1 h2=>by
    rw [hY];have:(k==i)=false:=by simp;omega
    rw [this,Bool.or_false])
   have hag:Agree (zbe ops b (fun _=>true) a ss st0) (zbe ops b X a ss st0) oA.op.operands.toList :=
    zR7 (by rw [zfH,zfH]) (fun t ht=>hfA (.tm t) hr (by simp only [Foot.reads,zd6];exact List.mem_append_left _ ht)) (fun n hn=>hfA (.ro n) hr hn) (fun n hn=>hfA (.lo n) hr hn)
   have hapX:=zLY (C:=C) hag;rw [hap] at hapX;have hdX:Dead (zbe ops b X a ss st0):=by
    subst hbt;exact ztp ss a st0 (hd rfl).1 (hd rfl).2
   obtain ⟨hg,hdA,v,w',hrun,hS',hL⟩:=zS7 hC hSX hdX hapX;refine pure_run (d:=zxo) hoA hg hrun (hK E _ w' ⟨fun h=>(by rw [hY] at h;simp at h),fun _=>⟨v,?_,?_,?_⟩⟩)
   ·rw [hdA];have hlt:x.dst<ts.size:=by
     rw [hSX.tm.1,zkp];rw [zkp] at hlen;exact hlen
    simp [Act.put,hlt]
   ·rw [hYX];exact hS'.uses (huses hY)
   ·rw [hYX];exact hL
  ·have hiA':i<A:=by omega
   have hYA:Y A=X A:=by
    rw [hY];have:(A==i)=false:=by simp;omega
    rw [this,Bool.or_false]
   cases hXA:X A with
   | false =>
    refine zGC hC hH hA F hX hia hiA' hXi hr hb hd hM hY (hJ.1 hXA) (fun E' ts' w' hS'=>hK E' ts' w' ⟨fun _=>hS',fun h=>(by rw [hYA,hXA] at h;cases h)⟩)
   | true =>
    obtain ⟨v,hv,hSX,hL⟩:=hJ.2 hXA;obtain ⟨j,rfl⟩:∃j,i=a+j:=⟨i-a,by omega⟩
    obtain ⟨s,hs⟩:∃s,ss[j]?=some s:=⟨_,List.getElem?_eq_getElem (by omega)⟩
    obtain ⟨o,f,ho,h1,h2⟩:=zCe F hX hs hXi hr;have hnA:a+j∉cl.getD A []:=fun h=>by rw [hX A hXA _ h] at hXi;cases hXi
    have hpo:zsu o=true:=by
     have:=List.all_eq_true.1 hlo (a+j) (by simp;omega)
     simp only [ho,Bool.or_eq_true,List.contains_eq_mem,decide_eq_true_eq] at this;rcases this with h|h
     ·exact absurd h hnA
     ·exact h
    have hapf:=apart_spec (hfoot j s o f hs ho h1 hnA);have hwA:(zd6 (zbe ops b (fun _=>true) a ss st0) ops oA zxo).writes (.tm x.dst):=by simp only [Foot.writes,zd6];exact hdst.1
    have hne:∀κ,f.reads κ->κ≠.tm x.dst:=fun κ hκ e=>hapf.2 (.tm x.dst) hwA (e ▸ hκ);have hdne:o.dst≠some x.dst:=fun e=>(hapf.1 (.tm x.dst) ((zvE h1 (.tm x.dst)).1 (by cases s<;>exact e))).2 hwA
    have hep:∀Z,(zbe ops b Z a ss st0).ep=st0.ep:=fun Z=>zfH ss a st0;have hdoes:=zI0 (S':=(zbe ops b X a ss st0).put oA.dst (.v (.at .bad))) h1 (by rw [hep,hdst.1];exact hep X) (fun κ hκ=>by rw [hdst.1,get_put (hne κ hκ)];exact h2 κ hκ)
    have hg0:o.guard=none:=by
     unfold zsu at hpo;simp only [Bool.and_eq_true,Option.isNone_iff_eq_none] at hpo;exact hpo.1
    cases s with
    | none =>
     exfalso;have:zcB ops o ((zbe ops b X a ss st0).put oA.dst (.v (.at .bad)))=some false:=hdoes;simp [zcB,hg0] at this
    | some d =>
     obtain ⟨_,d2,d3⟩:=hdoes;obtain ⟨_,v2,hrun,hvm,hids,e1,e2,e3⟩:=zDz hC hSX hpo d2 d3;have hput:∀κ,(zbe ops b Y a ss st0).get κ=((zbe ops b X a ss st0).put o.dst d.v).get κ:=by
      intro κ;rw [zJz F hX hs ho hXi hY κ];simp only [St.step,St.effD,e1,e2,List.map_nil,List.nil_append]
     have hS2:Sim w0 S0 (UX U base a A X) (((zbe ops b X a ss st0).put oA.dst (.v (.at .bad))).put o.dst d.v) E (({ tmps:=ts,defers:=[] }:Act).put o.dst v2).tmps sv w:=hSX.putV hvm hids;refine pure_run (d:=d) ho hg0 hrun (hK E _ w ⟨fun h=>(by rw [hYA,hXA] at h;cases h),fun _=>⟨v,?_,?_,?_⟩⟩)
     ·cases hod:o.dst with
      | none=>exact hv
      | some t=>exact zK7 hv (fun e=>hdne (by rw [hod,e]))
     ·refine (hS2.same (fun κ=>?_) ?_ ?_).uses (huses hY)
      ·rw [hdst.1];cases κ with
       | tm t =>
        have hk:=hput (.tm t);have hl1:(zbe ops b Y a ss st0).tm.length=(zbe ops b X a ss st0).tm.length:=by rw [zkp,zkp]
        by_cases ht:t=x.dst
        ·subst ht;cases hod:o.dst with
         | none=>simp [St.get,St.put,List.getElem?_set,hl1]
         | some t' =>
          have:t'≠x.dst:=fun e=>hdne (by rw [hod,e])
          simp [St.get,St.put,List.getElem?_set,hl1,this]
        ·have hne':x.dst≠t:=fun e=>ht e.symm;rw [get_put (by simpa using ht),hk]
         cases hod:o.dst with
         | none=>simp [St.get,St.put,List.getElem?_set,hne']
         | some t' =>
          simp only [St.get,St.put,List.getElem?_set,List.length_set];split
          ·rfl
          ·first|rfl|rw [if_neg hne']
       | ro n =>
        have hk:=hput (.ro n);rw [get_put (by simp),hk]
        cases o.dst<;>rfl
       | lo n =>
        have hk:=hput (.lo n);rw [get_put (by simp),hk]
        cases o.dst<;>rfl
      ·rw [hdst.1];have h1:(zbe ops b Y a ss st0).stk=(zbe ops b X a ss st0).stk:=by rw [znA,znA]
       cases o.dst<;>exact h1
      ·rw [hdst.1];have h1:(zbe ops b Y a ss st0).ep=(zbe ops b X a ss st0).ep:=by rw [zfH,zfH]
       cases o.dst<;>exact h1
     ·have hro:∀n,zh (zbe ops b Y a ss st0).ro n=zh (zbe ops b X a ss st0).ro n:=fun n=>by
       rw [zCg (hput (.ro n))];cases o.dst<;>rfl
      have hlo':∀n,zh (zbe ops b Y a ss st0).lo n=zh (zbe ops b X a ss st0).lo n:=fun n=>by
       rw [zCf (hput (.lo n))];cases o.dst<;>rfl
      exact hL.states (fun n=>by
       unfold St.root;rw [hro n,hep Y,hep X]) hlo'
 ·intro fl l' E' ts' w' hsz' hl' hf' hJ;obtain ⟨v,h1,h2,h3⟩:=hJ.2 rfl;refine htail fl l' E' ts' w' v hsz' hl' hf' h1 h2 (h3.states (fun n=>?_) (fun n=>?_))
  ·rw [hdst.1];rfl
  ·rw [hdst.1];rfl
def VV (U:Nat->Prop)(base size m n:Nat):Prop:=U n\/(base<=n/\n<base+32*m)\/base+32*size<=n
theorem zsn (hC:CfgOk C)(W:Waits md ops cl){x:App}{kk:Nat->List Bool->St->Option Ans}{ans:Ans}{Q:Exit->Act->World->Prop}(hkk:∀(m':Nat) (r':List Bool) (U':Nat->Prop) (st':St) (E':Env) (ts':Array Value) (w':World) (fl:Nat) (l':Array Bool),r'=(zfL ops.size cl).drop m'->m'<=ops.size->l'.size=ops.size->(∀i,i<ops.size->l'.getD i true=decide (i<m'))->left ops.size l'<=fl ->
 Sim w0 S0 U' st' E' ts' sv w'->(∀n,U' n->VV U base ops.size m' n)->(∀n,st'.nid<=n->¬ U' n)->base+32*ops.size<=st'.nid->kk m' r' st'=some ans->wpAny C.P md ops Q fl l' { tmps:=ts',defers:=[] } w') :
 ∀(pins:List Bool) (m:Nat) (V:Nat->Prop) (st:St) (E:Env) (ts:Array Value) (w:World) (fuel:Nat) (listed:Array Bool) (v:Value),pins=(zfL ops.size cl).drop m->m<=ops.size->listed.size=ops.size->(∀i,i<ops.size->listed.getD i true=decide (i<m))->left ops.size listed<=fuel ->
  Sim w0 S0 V st E ts sv w->(∀n,V n->VV U base ops.size m n)->(∀n,st.nid<=n->¬ V n)->base+32*ops.size<=st.nid->ts[x.dst]?=some v->Late w0 st E x v w->zma C ops base x kk pins m st=some ans->wpAny C.P md ops Q fuel listed { tmps:=ts,defers:=[] } w
 | [],m,V,st,E,ts,w,fuel,listed,v,_,_,_,_,_,_,_,_,_,_,_,h=>by simp [zma] at h
 | false :: r,m,V,st,E,ts,w,fuel,listed,v,_,_,_,_,_,_,_,_,_,_,_,h=>by simp [zma] at h
 | true :: r,m,V,st,E,ts,w,fuel,listed,v,hp,hm,hsz,hl,hf,hS,hV,hF,hn,hv,hL,h=>by
  simp only [zma] at h;obtain ⟨hms,hpin,hr⟩:=znJ hp;have hV1:∀n,V n->VV U base ops.size (m+1) n:=by
   rintro n hn'
   rcases hV n hn' with h|⟨h1,h2⟩|h
   ·exact .inl h
   ·exact .inr (.inl ⟨h1,by omega⟩)
   ·exact .inr (.inr h)
  refine zNH W hsz hms (zrD hpin.symm) hl hf (fun fl l' hsz' hl' hf' _ _=>?_);split at h
  ·cases h
  ·rename_i o ho;split at h
   ·rename_i c st2 hst;cases hc:c with
    | false=>rw [hc] at h;cases h
    | true =>
     rw [hc] at h hst;simp only [cond_true,zw9] at h;obtain ⟨hg,hgo,hnid⟩:=zO0 (id:=base+32*m) hC hS hL hv hst;unfold wpOp;simp only [ho];rw [if_pos (by simp [Region.wanted,hg])]
     refine .inl (hgo _ _ (fun E' v' w' hS'=>?_));rw [zgu];refine hkk (m+1) r _ _ E' _ w' fl l' hr (by omega) hsz' hl' hf' hS' ?_ ?_ (by rw [zen];omega) h
     ·rintro n (h|⟨h1,h2⟩)
      ·exact hV1 n h
      ·exact .inr (.inl ⟨by omega,by omega⟩)
     ·rintro n hn' (h|⟨h1,h2⟩)
      ·exact hF n (by rw [zen] at hn';omega) h
      ·rw [zen] at hn';omega
   ·split at h
    ·rename_i hcond;simp only [Bool.and_eq_true,Bool.not_eq_true',beq_eq_false_iff_ne] at hcond;split at h
     ·rename_i d hd;cases hc:d.c with
      | false=>rw [hc] at h;cases h
      | true =>
       rw [hc] at h;simp only [cond_true] at h;obtain ⟨hg,v2,hrun,hvm,hids,e1,e2,e3⟩:=zDz hC hS hcond.1 hd hc;have he:st.apply o.dst d=st.put o.dst d.v:=by simp [St.apply,e1,e2,e3]
       rw [he] at h;refine pure_run (d:=d) ho hg hrun ?_;refine zsn hC W hkk r (m+1) V _ E _ w fl l' v hr (by omega) hsz' hl' hf' (hS.putV hvm hids) hV1 (by rw [zen];exact hF) (by rw [zen];exact hn) ?_ (hL.states (fun n=>?_) (fun n=>?_)) h
       ·cases hod:o.dst with
        | none=>exact hv
        | some t=>exact zK7 hv (fun e=>hcond.2 (by rw [hod,e]))
       ·cases o.dst<;>rfl
       ·cases o.dst<;>rfl
     ·cases h
    ·cases h
theorem zjQ (hC:CfgOk C)(hH:CtrOk C)(hG:GraftOk C)(hN:NameOk C){call:ze6}(hcall:zo9 C call)(W:Waits md ops cl){k:St->Option Ans}{ans:Ans}{Q:Exit->Act->World->Prop}(hU0:∀n,base<=n->¬ U n)(hk:∀(U':Nat->Prop) (st':St) (E':Env) (ts':Array Value) (w':World),Sim w0 S0 U' st' E' ts' sv w'->(∀n,U' n->VV U base ops.size ops.size n)->base+32*ops.size<=st'.nid->(∀n,st'.nid<=n->¬ U' n)->k st'=some ans->Q .normal { tmps:=ts',defers:=[] } w') :
 ∀(fs m:Nat) (pins:List Bool) (V:Nat->Prop) (st:St) (E:Env) (ts:Array Value) (w:World) (fuel:Nat) (listed:Array Bool),pins=(zfL ops.size cl).drop m->m<=ops.size->listed.size=ops.size->(∀i,i<ops.size->listed.getD i true=decide (i<m))->left ops.size listed<=fuel ->
  Sim w0 S0 V st E ts sv w->(∀n,V n->VV U base ops.size m n)->(∀n,st.nid<=n->¬ V n)->base+32*ops.size<=st.nid->zhx C call ops cl base k fs m pins st=some ans->wpAny C.P md ops Q fuel listed { tmps:=ts,defers:=[] } w
 | 0,m,pins,V,st,E,ts,w,fuel,listed,_,_,_,_,_,_,_,_,_,h=>by simp [zhx] at h
 | fs+1,m,[],V,st,E,ts,w,fuel,listed,hp,hm,hsz,hl,hf,hS,hV,hF,hn,h=>by
  simp only [zhx] at h;have hms:=zK3 hp;have e:m=ops.size:=by omega
  subst e;exact zTd (fun i hi=>by rw [hl i hi];simp [hi]) (hk V st E ts w hS hV hn hF h)
 | fs+1,m,true :: r,V,st,E,ts,w,fuel,listed,hp,hm,hsz,hl,hf,hS,hV,hF,hn,h=>by
  simp only [zhx] at h;obtain ⟨hms,hpin,hr⟩:=znJ hp;refine zNH W hsz hms (zrD hpin.symm) hl hf (fun fl l' hsz' hl' hf' _ _=>?_)
  let Q':Exit->Act->World->Prop:=fun e a w=>match e with
   | .normal=>wpAny C.P md ops Q fl l' a w
   | e=>Q e a w
  have hQ:∀e,e≠Exit.normal->∀a w,Q' e a w->Q e a w:=by
   intro e he a w h;cases e<;>first|exact absurd rfl he|exact h
  refine zPP hQ ?_;have key:=zkS (Q:=Q') hC hH hG hN hcall (ops:=ops) (base:=base) (V:=VV U base ops.size (m+1)) (nid0:=base+32*ops.size) (fun n hn'=>.inr (.inr hn'))
   (fun U' st' E' ts' w' hS' hU' hn' hF' h'=>zjQ hC hH hG hN hcall W hU0 hk fs (m+1) r U' st' E' ts' w' fl l' hr (by omega) hsz' hl' hf' hS' hU' hF' hn' h')
   [m] V st E ts w hS ?_ hF ?_ (by simp) hn ?_ h
  ·rw [wpOps_cons] at key;exact wpOp_mono (fun a w h=>h) key
  ·rintro n hn'
   rcases hV n hn' with h|⟨h1,h2⟩|h
   ·exact .inl h
   ·exact .inr (.inl ⟨h1,by omega⟩)
   ·exact .inr (.inr h)
  ·intro j hj n hmn;simp only [List.mem_singleton] at hj;subst hj;obtain ⟨g1,g2⟩:=hmn;refine ⟨fun hn'=>?_,.inr (.inl ⟨by omega,by omega⟩)⟩
   rcases hV n hn' with h|⟨h1,h2⟩|h
   ·exact hU0 n (by omega) h
   ·omega
   ·omega
  ·intro j hj;simp only [List.mem_singleton] at hj;subst hj;omega
 | fs+1,m,false :: r,V,st,E,ts,w,fuel,listed,hp,hm,hsz,hl,hf,hS,hV,hF,hn,h=>by
  simp only [zhx] at h;obtain ⟨hms,_,hr⟩:=znJ hp;obtain ⟨hfr1,hfr2,hfr3⟩:=zGX r (m+1) (by omega) hr
  generalize hb0:(List.range' m (zbR r+1)).any (zkt ops)=b at h;have hS0':Sim w0 S0 V { st with ep:=if b then st.ep+1 else st.ep } E ts sv w:=hS.blind b st.nid
  have hnid0:({ st with ep:=if b then st.ep+1 else st.ep }:St).nid=st.nid:=rfl
  have hd':b=true->Dead ({ st with ep:=if b then st.ep+1 else st.ep }:St)/\0<({ st with ep:=if b then st.ep+1 else st.ep }:St).ep:=by
   intro hb;subst hb;refine ⟨fun n R e hR he=>?_,by simp⟩
   have:=hS.mem.epo n R e hR he;simp only [if_true];omega
  have hb':b=false->∀k,m<=k->k<m+1+zbR r->zkt ops k=false:=by
   intro hb k hk1 hk2;rw [hb] at hb0;have:=List.any_eq_false.1 hb0 k (by simp;omega)
   simpa using this
  have hM:∀k,m<=k->k<m+1+zbR r->∀n,Mine (base+32*k) n->¬ V n:=by
   intro k h1 h2 n hn' hv;have g1:=hn'.1;have g2:=hn'.2;rcases hV n hv with h|⟨h3,h4⟩|h
   ·exact hU0 n (by omega) h
   ·omega
   ·omega
  have hoff:∀(ss:List Step) (st0:St),zbe ops b (XL listed) m ss st0=st0:=fun ss st0=>zqr ss m st0 (fun k hk=>by
   rcases Nat.lt_or_ge k ops.size with h|h
   ·rw [zou (by omega),hl k h];simp;omega
   ·simp [XL,Array.getElem?_eq_none (show listed.size<=k by omega)])
  have hVX:∀{T:Nat},T<=m+(zbR r+1)->∀n,UX V base m T (fun _=>true) n->VV U base ops.size (m+(zbR r+1)) n:=by
   rintro T hT n (h|⟨k,h0,h1,_,h3⟩)
   ·rcases hV n h with h|⟨h1,h2⟩|h
    ·exact .inl h
    ·exact .inr (.inl ⟨h1,by omega⟩)
    ·exact .inr (.inr h)
   ·have g1:=h3.1;have g2:=h3.2;exact .inr (.inl ⟨by omega,by omega⟩)
  have hFX:∀{T:Nat},T<=m+(zbR r+1)->∀n,st.nid<=n->¬ UX V base m T (fun _=>true) n:=by
   rintro T hT n hn' (h|⟨k,h0,h1,_,h3⟩)
   ·exact hF n (by omega) h
   ·have:=h3.2;omega
  have hmk:∀{gs:List (Nat×Foot)} {ss:List Step} {st0 st':St},(∀x∈gs,∀y∈gs,(¬ x.1<y.1\/x.1∈cl.getD y.1 [])\/x.2.apart y.2=true)->Trace C ops b base m ss gs st0 st'->Free C ops cl b base m ss st0:=by
   intro gs ss st0 st' hok htr;have hat:=zLK htr;refine ⟨fun i s hs=>?_,fun i k s s' o o' f f' hs hs' ho ho' h1 h2 hik hni=>?_⟩
   ·obtain ⟨o,f,g1,g2,g3⟩:=hat i s hs;exact ⟨o,f,g1,g3⟩
   ·obtain ⟨o1,f1,g1,g2,g3⟩:=hat i s hs;obtain ⟨o2,f2,e1,e2,e3⟩:=hat k s' hs';rw [ho] at g1;cases g1;rw [ho'] at e1;cases e1;have hf1:=zzZ h1 g3;have hf2:=zzZ h2 e3;subst hf1 hf2;rcases hok _ g2 _ e2 with (h|h)|h
    ·exact absurd (by show m+i<m+k;omega) h
    ·exact absurd h hni
    ·exact h
  have hbelow:∀i,i<m->XL listed i=true:=fun i hi=>by rw [zou (by omega),hl i (by omega)];simp [hi]
  have habove:∀k,m<=k->k<ops.size->XL listed k=false:=fun k h1 h2=>by rw [zou (by omega),hl k h2];simp;omega
  rcases znX (zbR r+1) m [] _ h with ⟨ss,gs,st',hlen,htr,hok,hden⟩|⟨ss,gs,st',oA,x,hlen,htr,hoA,hap,hbt,hlo,hxl,hok,hden⟩|⟨ss,gs,st',oA,hlen,htr,hoA,hcv,hlo,hlr,hok,hden⟩
  ·rw [List.append_nil] at hok;unfold zko at hok;simp only [Bool.not_eq_true',List.all_eq_true,Bool.or_eq_true,decide_eq_false_iff_not,List.contains_eq_mem,decide_eq_true_eq,List.mem_reverse] at hok;generalize hst0:({ st with ep:=if b then st.ep+1 else st.ep }:St)=st0 at htr hS0' hnid0 hd'
   have hfin:st'=zbe ops b (fun _=>true) m ss st0:=zG9 htr;refine zSU (w0:=w0) (S0:=S0) (sv:=sv) hC hH W (T:=m+1+zbR r) (by omega) hfr1 hfr3 (hmk hok htr) hb' hd' hM (fun fl l' E' ts' w' hsz' hl' hf' hS'=>?_) fuel listed E ts w hsz (znZ W hsz hl) hbelow (fun k h1 h2=>habove k (by omega) h2) hf ?_
   ·rw [<- hfin] at hS';have hnid':st'.nid=st.nid:=by rw [hfin,zvU,hnid0]
    exact zjQ hC hH hG hN hcall W hU0 hk fs (m+(zbR r+1)) (r.drop (zbR r)) _ st' E' ts' w' fl l' (by rw [hfr2];congr 1;omega) (by omega) hsz' (fun i hi=>by rw [hl' i hi];congr 1;simp only [eq_iff_iff];omega) hf' hS' (hVX (by omega)) (by rw [hnid'];exact hFX (by omega)) (by omega) hden
   ·rw [hoff];exact hS0'.uses (fun n h=>.inl h)
  ·rw [List.append_nil] at hok;unfold zko at hok;simp only [Bool.not_eq_true',List.all_eq_true,Bool.or_eq_true,decide_eq_false_iff_not,List.contains_eq_mem,decide_eq_true_eq,List.mem_cons,List.mem_reverse] at hok;generalize hst0:({ st with ep:=if b then st.ep+1 else st.ep }:St)=st0 at htr hS0' hnid0 hd'
   have hfin:st'=zbe ops b (fun _=>true) m ss st0:=zG9 htr;subst hfin;have hA:m+ss.length=m+zbR r:=by omega
   rw [hA] at hoA hlo hok;have hat:=zLK htr;refine zS5 (w0:=w0) (S0:=S0) (sv:=sv) hC hH W hA (by omega) (fun h=>by
    have e:m+zbR r+1=m+1+zbR r:=by omega
    rw [e] at h ⊢;exact hfr3 h) (hmk (fun x hx y hy=>hok x (.inr hx) y (.inr hy)) htr) (fun hb k h1 h2=>hb' hb k h1 (by omega)) hbt hd' (fun k h1 h2=>hM k h1 (by omega)) hoA hap hlo hxl (fun i s o f hs ho h1 hni=>?_)
    (fun fl l' E' ts' w' v hsz' hl' hf' hv hS' hL=>?_) fuel listed E ts w hsz (znZ W hsz hl) hbelow (fun k h1 h2=>habove k (by omega) h2) hf ?_
   ·obtain ⟨o1,f1,g1,g2,g3⟩:=hat i s hs;rw [ho] at g1;cases g1;have hf1:=zzZ h1 g3;subst hf1;have hi:i<ss.length:=(List.getElem?_eq_some_iff.1 hs).1;rcases hok _ (.inr g2) _ (.inl rfl) with (h|h)|h
    ·exact absurd (by show m+i<m+zbR r;omega) h
    ·exact absurd h hni
    ·exact h
   ·have hnid':((zbe ops b (fun _=>true) m ss st0).put oA.dst (.v (.at .bad))).nid=st.nid:=by rw [zen,zvU,hnid0]
    exact zsn hC W (fun m' r' U' st'' E'' ts'' w'' fl' l'' h1 h2 h3 h4 h5 h6 h7 h8 h9 h10=>zjQ hC hH hG hN hcall W hU0 hk fs m' r' U' st'' E'' ts'' w'' fl' l'' h1 h2 h3 h4 h5 h6 h7 h8 h9 h10)
     (r.drop (zbR r)) (m+(zbR r+1)) _ _ E' ts' w' fl l' v (by rw [hfr2];congr 1;omega) (by omega) hsz' (fun i hi=>by rw [hl' i hi];congr 1) hf' hS' (hVX (by omega)) (by rw [hnid'];exact hFX (by omega)) (by omega) hv hL hden
   ·rw [hoff];exact hS0'.uses (fun n h=>.inl h)
  ·exact Bool.noConfusion (show false=true from hcv)
theorem zVO (hC:CfgOk C)(hH:CtrOk C)(hG:GraftOk C)(hN:NameOk C):DrawOk C:=by
 refine ⟨fun call hcall ops k ans Q w0 S0 sv U0 nid0 U st E ts w hk hS hU hF hn h t=>?_⟩;unfold zAf at h;simp only at h;generalize hcl:zfZ ops (List.range ops.size) []=cl at h;split at h
 case isFalse=>cases h
 rename_i hok;unfold zQz at hok;simp only [Bool.and_eq_true,List.all_eq_true,List.mem_range,decide_eq_true_eq] at hok;obtain ⟨hdep,hlt⟩:=hok;have hatc:∀i,i<ops.size->cl.getD i []=waits ops (cl.take i) i:=fun i hi=>by rw [<- hcl];exact zOj hi
 have hord:∀(md:Region.Mode) (rk:Nat->Nat),zFC md ops rk=true->∃rk:Nat->Nat,∀(i:Nat) (o:Oper),ops[i]?=some o->∀e∈o.after,Region.binds md e=true->e.on<ops.size/\rk e.on<rk i:=by
  intro md rk h;refine ⟨rk,fun i o ho e he hb=>?_⟩;have:=List.all_eq_true.1 h i (List.mem_range.2 (Array.getElem?_eq_some_iff.1 ho).1);rw [ho] at this;have:=List.all_eq_true.1 this e (by simpa using he)
  simpa [hb] using this
 have mkW:∀(md:Region.Mode),(∀e,Region.binds .any e=true->Region.binds md e=true)->(∃rk:Nat->Nat,∀(i:Nat) (o:Oper),ops[i]?=some o->∀e∈o.after,Region.binds md e=true->e.on<ops.size/\rk e.on<rk i)->Waits md ops cl :=
  fun md h1 h2=>⟨hatc,hlt,h1,h2⟩
 have hsubT:∀e,Region.binds .any e=true->Region.binds .text e=true:=fun e h=>by
  unfold Region.binds at *;cases hg:e.ground<;>rw [hg] at h<;>simp at h ⊢
 have hsubG:∀e,Region.binds .any e=true->Region.binds .gc e=true:=fun e h=>by
  unfold Region.binds at *;cases hg:e.ground<;>rw [hg] at h<;>simp at h ⊢
 have hmodes:∃md t',Region.schedule (C.P.follows .mixedOrders) ops t=Region.linearise md ops t'/\Waits md ops cl:=by
  have anyW:Waits .any ops cl:=mkW .any (fun _ h=>h) ⟨fun i=>i,fun i o ho e he hb=>by
   have h1:=zVQ hatc ho he hb;have hi:=(Array.getElem?_eq_some_iff.1 ho).1;have h2:=hlt i hi _ h1;exact ⟨by omega,h2⟩⟩
  unfold Region.schedule
  by_cases hm:(C.P.follows .mixedOrders || !Region.departs ops)=true
  ·rw [if_pos hm];exact ⟨.any,t,rfl,anyW⟩
  ·rw [if_neg hm];have hd:Region.departs ops=true:=by
    cases h:Region.departs ops with
    | true=>rfl
    | false=>rw [h] at hm;simp at hm
   rw [hd,cond_true,Bool.and_eq_true] at hdep
   by_cases ht:(t % 2==0)=true
   ·rw [if_pos ht];exact ⟨.text,t / 2,rfl,mkW .text hsubT (hord .text _ hdep.1)⟩
   ·rw [if_neg ht];exact ⟨.gc,t / 2,rfl,mkW .gc hsubG (hord .gc _ hdep.2)⟩
 obtain ⟨md,t',hsch,W⟩:=hmodes;rw [hsch];refine wpAny_sound ops.size t' _ _ _ ?_;have hS1:Sim w0 S0 U { st with nid:=st.nid+32*ops.size } E ts sv { w with drawn:=w.drawn+1 }:=(hS.nid _).heap (w':={ w with drawn:=w.drawn+1 }) rfl rfl rfl rfl;refine zjQ hC hH hG hN hcall W hF (fun U' st' E' ts' w' hS' hU' hn' hF' h'=>hk U' st' E' ts' w' hS' ?_ (by omega) hF' h') (ops.size+1) 0 (zfL ops.size cl) U _ E ts _ ops.size _ rfl (by omega) (by simp) (fun i hi=>by simp [hi]) ?_ hS1 (fun n h=>.inl h) ?_ (Nat.le_refl _) h
 ·intro n h;rcases hU' n h with h|⟨h1,_⟩|h
  ·exact hU n h
  ·exact .inr (by omega)
  ·exact .inr (by omega)
 ·unfold left;exact Nat.le_trans (List.countP_le_length) (by simp)
 ·intro n hn' h;exact hF n (Nat.le_trans (Nat.le_add_right _ _) hn') h
end
section
variable {P:Program}
def zLT:Value->CTy->Bool
 | .int k n,.i k'=>k==k'&&n==0
 | .bool b,.b=>!b
 | .slice none 0 0,.s _=>true
 | _,_=>false
def zt8:List Value->List CTy->Bool
 | [],[]=>true
 | v :: vs,t :: ts=>zLT v t&&zt8 vs ts
 | _,_=>false
theorem zR5 {v:Value}{t:CTy}(h:zLT v t=true):v=zeroV t:=by
 unfold zLT at h;split at h
 ·simp only [Bool.and_eq_true,beq_iff_eq] at h;obtain ⟨rfl,rfl⟩:=h;rfl
 ·simp only [Bool.not_eq_true'] at h;subst h;rfl
 ·rfl
 ·cases h
theorem zzY:∀{vs:List Value} {ts:List CTy},zt8 vs ts=true->vs=ts.map zeroV
 | [],[],_=>rfl
 | v :: vs,t :: ts,h=>by
  simp only [zt8,Bool.and_eq_true] at h;rw [List.map_cons,zR5 h.1,zzY h.2]
 | [],_ :: _,h=>by cases h
 | _ :: _,[],h=>by cases h
def zv7 (P:Program)(T:TypeId)(tys:List CTy):Bool :=
 match P.info? T with
 | some i=>i.size==tys.length&&(match i.zero with
  | some z=>zt8 z.cells.toList tys
  | none=>false)
 | none=>false
theorem zv8 {T:TypeId}{tys:List CTy}(h:zv7 P T tys=true):∃i z,P.info? T=some i/\i.size=tys.length/\i.zero=some z/\z.cells.toList=tys.map zeroV:=by
 unfold zv7 at h;split at h
 ·rename_i i hi;simp only [Bool.and_eq_true,beq_iff_eq] at h;obtain ⟨h1,h2⟩:=h;split at h2
  ·rename_i z hz;exact ⟨i,z,hi,h1,hz,zzY h2⟩
  ·cases h2
 ·cases h
def zkP (P:Program)(T:TypeId):Bool :=
 (match zbZ P 4 T with
  | some (agg,tys)=>zv7 P T tys&&(!agg||(match P.underlying T with
   | some (.struct fs)=>(fs.toList.mapM (fun f=>(P.info? f.type).map fun i=>(f.offset,i.size))).isSome
   | _=>false))
  | none=>true) &&
 (match P.underlying T with
  | some (.slice e)=>match zh zIM e with
   | some t=>zv7 P e t.shape&&(match P.info? e with
    | some i=>decide (i.bytes<=1024)
    | none=>false)&&(match zbZ P 4 e with
    | some (_,tys)=>decide (tys=t.shape)
    | none=>false)
   | none=>true
  | _=>true)
def zqp (P:Program):List Field->Nat->List CTy->Bool
 | [],_,[]=>true
 | f :: fs,off,ty :: tys=>f.name != "_" && f.offset==off&&(match P.underlying f.type,ty with
  | some (.int k),.i k'=>k==k'
  | some .bool,.b=>true
  | _,_=>false)&&zqp P fs (off+1) tys
 | _,_,_=>false
def zIx (P:Program)(T:TypeId):Bool :=
 match zbZ P 4 T with
 | some (true,tys)=>!P.stoodInHeld T && !P.eqGuardType P.depth T&&(match P.underlying T with
  | some (.struct fs)=>zqp P fs.toList 0 tys
  | _=>false)
 | _=>true
theorem zIw {n:Nat}{T:TypeId}{agg:Bool}{tys:List CTy}(h:zbZ P n T=some (agg,tys)) :
 (∃d,P.underlying T=some d/\zJQ d=agg/\(∀k,tys=[.i k]->agg=false->d = .int k)/\(tys=[.b]->agg=false->d = .bool))/\(agg=false->tys.length=1):=by
 cases n with
 | zero=>cases h
 | succ n =>
  simp only [zbZ] at h;split at h
  ·rename_i k hu;cases h;exact ⟨⟨_,hu,rfl,fun k' h _=>by simp only [List.cons.injEq,CTy.i.injEq,and_true] at h;rw [h],fun h=>by simp at h⟩,fun _=>rfl⟩
  ·rename_i hu;cases h;exact ⟨⟨_,hu,rfl,fun k' h=>by simp at h,fun _ _=>rfl⟩,fun _=>rfl⟩
  ·rename_i e hu;split at h
   ·cases h;exact ⟨⟨_,hu,rfl,fun k' h=>by simp at h,fun h=>by simp at h⟩,fun _=>rfl⟩
   ·cases h
  ·rename_i fs hu;split at h
   ·cases h;exact ⟨⟨_,hu,rfl,fun k' _ h=>(by cases h),fun _ h=>(by cases h)⟩,fun h=>by cases h⟩
   ·cases h
  ·cases h
theorem zBR {α:Type}{T:Nat}{x:Option α}{y:α}(h:below T x=some y):T<zeM/\x=some y:=by
 unfold below at h;cases hb:Nat.blt T zeM with
 | false=>rw [hb] at h;cases h
 | true =>
  rw [hb] at h;exact ⟨by rwa [Nat.blt_eq] at hb,h⟩
theorem mapM_at {α β:Type}{g:α->Option β}:∀{l:List α} {m:List β},l.mapM g=some m->∀{k:Nat} {x:α},l[k]?=some x->m[k]?=g x
 | [],m,h,k,x,hx=>by simp at hx
 | a :: l,m,h,k,x,hx=>by
  simp only [List.mapM_cons,Option.bind_eq_bind,Option.bind_eq_some_iff,Option.pure_def,Option.some.injEq] at h;obtain ⟨b,hb,m',hm',rfl⟩:=h;cases k with
  | zero =>
   simp only [List.getElem?_cons_zero,Option.some.injEq] at hx;subst hx;rw [hb];rfl
  | succ k=>exact mapM_at hm' (by simpa using hx)
theorem zfl {α β:Type}{f:α->Option β}{a:α}{l:List α}{bs:List β}(h:zcf f (a :: l)=some bs):∃b bs',f a=some b/\zcf f l=some bs'/\bs=b :: bs':=by
 simp only [zcf] at h;split at h
 ·rename_i b hb;split at h
  ·rename_i bs' hbs;cases h;exact ⟨b,bs',hb,hbs,rfl⟩
  ·cases h
 ·cases h
theorem zzb (w:World)(d:Nat)(xs ys:Array Value):∀(fs:List Field) (off:Nat) (tys:List CTy) (l m:List At) (e:Bool),zqp P fs off tys=true->zcf zkO l=some tys->zcf zkO m=some tys->zqg l m=some e ->
 xs.size=off+l.length->ys.size=off+m.length->(∀(j:Nat) (a:At) (u:Value),l[j]?=some a->xs[off+j]?=some u->VS a u)->(∀(j:Nat) (a:At) (u:Value),m[j]?=some a->ys[off+j]?=some u->VS a u) ->
 (Op.eqFields (d+1) xs ys fs).run P w = .ok e w
 | [],off,tys,l,m,e,hf,hl,hm,he,_,_,_,_=>by
  cases tys with
  | cons t ts=>cases hf
  | nil =>
   cases l with
   | cons a l=>obtain ⟨_,_,_,_,h⟩:=zfl hl;cases h
   | nil =>
    cases m with
    | cons a m=>obtain ⟨_,_,_,_,h⟩:=zfl hm;cases h
    | nil=>cases he;simp [Op.eqFields]
 | f :: fs,off,tys,l,m,e,hf,hl,hm,he,hsx,hsy,hx,hy=>by
  cases tys with
  | nil=>cases hf
  | cons ty tys =>
   cases l with
   | nil=>cases hl
   | cons a l =>
    cases m with
    | nil=>cases hm
    | cons c m =>
     obtain ⟨ta,tys',ha,hl',h⟩:=zfl hl;cases h;obtain ⟨tc,tys'',hc,hm',h⟩:=zfl hm;cases h;simp only [zqp,Bool.and_eq_true,bne_iff_ne,ne_eq,beq_iff_eq] at hf;obtain ⟨⟨⟨hn,hoff⟩,hk⟩,hrest⟩:=hf;have hxo:xs[off]?=some (xs[off]'(by simp only [List.length_cons] at hsx;omega)):=by simp
     have hyo:ys[off]?=some (ys[off]'(by simp only [List.length_cons] at hsy;omega)):=by simp
     have hvx:=hx 0 a _ rfl hxo;have hvy:=hy 0 c _ rfl hyo;have hstep:∃e0,zI1 a c=some e0/\(part f.type xs f.offset).run P w = .ok (xs[off]'(by simp only [List.length_cons] at hsx;omega)) w/\(part f.type ys f.offset).run P w = .ok (ys[off]'(by simp only [List.length_cons] at hsy;omega)) w /\
      (Op.equalIn (d+1) f.type (xs[off]'(by simp only [List.length_cons] at hsx;omega)) (ys[off]'(by simp only [List.length_cons] at hsy;omega))).run P w = .ok e0 w:=by
      rw [hoff];cases a with
      | i k n =>
       simp only [zkO,Option.some.injEq] at ha;subst ha;cases c with
       | i k' n' =>
        simp only [zkO,Option.some.injEq,CTy.i.injEq] at hc;subst hc;cases hu:P.underlying f.type with
        | none=>rw [hu] at hk;cases hk
        | some D =>
         rw [hu] at hk;cases D<;>first|(cases hk;done)|skip
         refine ⟨ieq n n',by simp [zI1],by simp [part,isAgg,run_underlying hu,hxo],by simp [part,isAgg,run_underlying hu,hyo],?_⟩
         rw [show xs[off]'(by simp only [List.length_cons] at hsx;omega) = .int k' n from hvx,show ys[off]'(by simp only [List.length_cons] at hsy;omega) = .int k' n' from hvy]
         exact run_equalIn_int w d f.type k' _ n n' hu
       | b _=>simp [zkO] at hc
       | _=>simp [zkO] at hc
      | b x =>
       simp only [zkO,Option.some.injEq] at ha;subst ha;cases c with
       | b x' =>
        cases hu:P.underlying f.type with
        | none=>rw [hu] at hk;cases hk
        | some D =>
         rw [hu] at hk;cases D<;>first|(cases hk;done)|skip
         refine ⟨zta x x',by simp [zI1],by simp [part,isAgg,run_underlying hu,hxo],by simp [part,isAgg,run_underlying hu,hyo],?_⟩
         rw [show xs[off]'(by simp only [List.length_cons] at hsx;omega) = .bool x from hvx,show ys[off]'(by simp only [List.length_cons] at hsy;omega) = .bool x' from hvy]
         exact run_equalIn_bool' w d f.type x x' hu
       | i _ _=>simp [zkO] at hc
       | _=>simp [zkO] at hc
      | _=>simp [zkO] at ha
     obtain ⟨e0,he0,hp1,hp2,heq⟩:=hstep;have hcomb:∃e1,zqg l m=some e1/\e=(e0&&e1):=by
      cases l with
      | nil =>
       cases hl';cases m with
       | nil =>
        simp only [zqg,he0,Option.some.injEq] at he;exact ⟨true,rfl,by rw [<- he];simp⟩
       | cons c2 m=>obtain ⟨_,_,_,_,h⟩:=zfl hm';cases h
      | cons a2 l =>
       cases m with
       | nil=>cases hm';obtain ⟨_,_,_,_,h⟩:=zfl hl';cases h
       | cons c2 m =>
        simp only [zqg,he0] at he;split at he
        ·rename_i x y h1 h2;cases h1;cases he;exact ⟨y,by simpa [zqg] using h2,rfl⟩
        ·cases he
     obtain ⟨e1,he1,rfl⟩:=hcomb;have ih:=zzb w d xs ys fs (off+1) tys l m e1 hrest hl' hm' he1 (by simp only [List.length_cons] at hsx;omega) (by simp only [List.length_cons] at hsy;omega)
      (fun j a' u h1 h2=>hx (j+1) a' u (by simpa using h1) (by rw [<- h2];congr 1;omega)) (fun j a' u h1 h2=>hy (j+1) a' u (by simpa using h1) (by rw [<- h2];congr 1;omega))
     simp only [Op.eqFields,ne_eq,hn,not_false_eq_true,if_true,Sem.run_bind,hp1,hp2,Result.andThen_ok,heq,Sem.run_ite,ih];cases e0<;>simp
theorem zSe {C:Cfg}(hP:C.P=P)(hs:∀T,C.sty T=below T (zrk P T))(hc:∀T,C.cty T=below T (zbZ P 4 T))(hf:∀T f,C.fof T f=zpj P T f)(hchk:(List.range zeM).all (zkP P)=true)(heq:∀T,C.eqt T=true->T<zeM->zIx P T=true):CfgOk C:=by
 subst hP;have chk:∀T,T<zeM->zkP C.P T=true:=fun T hT=>List.all_eq_true.1 hchk T (List.mem_range.2 hT);have hcty:∀T agg tys,C.cty T=some (agg,tys)->T<zeM/\zbZ C.P 4 T=some (agg,tys):=fun T agg tys h=>zBR (by rw [<- hc];exact h)
 refine ⟨fun T agg tys h=>?_,fun T t h=>?_,fun T f off n h=>?_,fun T tys h=>?_,fun T tys he h l m e xs ys w x y op hl hm hq hxs hys=>?_⟩
 ·obtain ⟨hT,h⟩:=hcty T agg tys h;obtain ⟨h1,h2⟩:=zIw h;have:=chk T hT;unfold zkP at this;rw [h] at this;simp only [Bool.and_eq_true] at this;exact ⟨h1,zv8 this.1.1,h2⟩
 ·rw [hs] at h;obtain ⟨hT,h⟩:=zBR h;unfold zrk at h;split at h
  ·rename_i e hu;have:=chk T hT;unfold zkP at this;rw [hu] at this;simp only [h,Bool.and_eq_true] at this;obtain ⟨_,⟨h1,h2⟩,_⟩:=this;obtain ⟨i,z,g1,g2,g3,g4⟩:=zv8 h1;rw [g1] at h2;exact ⟨e,hu,i,z,g1,by rw [g2,zdz],g3,g4,by simpa using h2⟩
  ·cases h
 ·rw [hf] at h;unfold zpj at h;split at h
  ·rename_i fs hu;split at h
   ·rename_i x hx;split at h
    ·rename_i i hi;split at h
     ·cases h
     ·rename_i hne;cases h;exact ⟨fs,x,i,hu,hx,rfl,hi,rfl,hne⟩
    ·cases h
   ·cases h
  ·cases h
 ·obtain ⟨hT,h⟩:=hcty T true tys h;have:=chk T hT;unfold zkP at this;rw [h] at this;simp only [Bool.and_eq_true,Bool.or_eq_true,Bool.not_true,Bool.false_eq_true,false_or] at this;obtain ⟨⟨_,h2⟩,_⟩:=this;split at h2
  ·rename_i fs hu;obtain ⟨places,hp⟩:=Option.isSome_iff_exists.1 h2;refine ⟨fs,places,hu,hp,fun f off n hfo=>?_⟩;rw [hf] at hfo;unfold zpj at hfo;rw [hu] at hfo;simp only at hfo;split at hfo
   ·rename_i x hx;split at hfo
    ·rename_i i hi;split at hfo
     ·cases hfo
     ·cases hfo;rw [mapM_at hp (by simpa using hx),hi]
      rfl
    ·cases hfo
   ·cases hfo
  ·cases h2
 ·obtain ⟨hT,h⟩:=hcty T true tys h;have:=heq T he hT;unfold zIx at this;rw [h] at this;simp only [Bool.and_eq_true,Bool.not_eq_true'] at this;obtain ⟨⟨h1,h2⟩,h3⟩:=this;split at h3
  ·rename_i fs hu;have hfe:C.P.fieldsOf T=fs:=by simp [Program.fieldsOf,hu]
   refine ⟨run_eqGuard_agg w op T x y xs ys h2,?_⟩
   show (Op.equalIn (9999+1) T (.agg xs) (.agg ys)).run C.P w=_
   rw [run_equalIn_struct w 9999 T xs ys (by rw [hfe];exact hu) h1,hfe]
   exact zzb w 9998 xs ys fs.toList 0 tys l m e h3 hl hm hq (by rw [hxs.1];omega) (by rw [hys.1];omega) (fun j a u h1 h2=>hxs.2 j a u h1 (by simpa using h2)) (fun j a u h1 h2=>hys.2 j a u h1 (by simpa using h2))
  ·cases h3
end
inductive CVOk:CV->Prop
 | i (k:IntKind) (n:Int) (h:k.min<=n/\n<=k.max):CVOk (.i k n)
 | b (x:Bool):CVOk (.b x)
 | s (t:Ty) (l:List t.den) (hl:l.length<=big) (h:∀(i:Nat) (x:t.den),l[i]?=some x->∀(j:Nat) (c:CV),(t.cells x)[j]?=some c->CVOk c):CVOk (.s t l)
section
variable {P:Program}
def zsq (P:Program)(tot:Nat):List Field->Nat->Bool
 | [],off=>off==tot
 | f :: fs,off=>f.offset==off&&Nat.blt f.type zeM&&zsq P tot fs (off+P.cellsOf f.type)
def ztf (P:Program)(T:TypeId):Bool :=
 match P.underlying T with
 | some (.struct fs)=>match zbZ P 4 T with
  | some _=>zsq P (P.cellsOf T) fs.toList 0
  | none=>true
 | some (.slice e)=>match zh zIM e with
  | some _=>Nat.blt e zeM&&Nat.ble 1 (P.bytesOf e)
  | none=>true
 | _=>true
theorem zzm {α β:Type}{f g:α->Option β}(hfg:∀x y,f x=some y->g x=some y):∀{l:List α} {bs:List β},zcf f l=some bs->zcf g l=some bs
 | [],_,h=>h
 | a :: l,bs,h=>by
  obtain ⟨b,bs',h1,h2,rfl⟩:=zfl h;simp only [zcf,hfg a b h1,zzm hfg h2]
theorem zs5:∀{n:Nat} {T:TypeId} {x:Bool×List CTy},zbZ P n T=some x->zbZ P (n+1) T=some x
 | 0,_,_,h=>by cases h
 | n+1,T,x,h=>by
  rw [zbZ] at h;rw [zbZ];split at h
  ·exact h
  ·exact h
  ·exact h
  ·rename_i fs hu;split at h
   ·rename_i l hl;rw [zzm (f:=_) (g:=_) ?_ hl]
    ·exact h
    ·intro f y hy;split at hy
     ·rename_i z hz;cases hy;rw [zs5 hz]
     ·cases hy
   ·cases h
  ·cases h
theorem zL0 {T:TypeId}{tys:List CTy}(h:zv7 P T tys=true):P.cellsOf T=tys.length:=by
 obtain ⟨i,z,h1,h2,_⟩:=zv8 h;simp [Program.cellsOf,h1,h2]
theorem zTV {k:IntKind}{n:Int}(h:(Lit.int k n).wf=true):k.min<=n/\n<=k.max:=by
 simpa [Lit.wf] using h
theorem all_append {l m:List Nat}(h:(l++m).all (·<=reachBytes)=true):l.all (·<=reachBytes)=true/\m.all (·<=reachBytes)=true:=by
 simpa [List.all_append] using h
theorem zu5 {H:Type}{e:TypeId}:∀{l:List (DataW H)},(DataW.weightsAll P e l).all (·<=reachBytes)=true->∀{i:Nat} {d:DataW H},l[i]?=some d->(d.weights P e).all (·<=reachBytes)=true
 | [],_,i,d,h=>by simp at h
 | x :: l,hw,i,d,h=>by
  simp only [DataW.weightsAll] at hw;obtain ⟨h1,h2⟩:=all_append hw;cases i with
  | zero=>simp at h;subst h;exact h1
  | succ i=>exact zu5 h2 (by simpa using h)
def Opened (W:World)(cs:List Value)(tys:List CTy):Prop :=
 ∃cvs:List CV,cvs.map CV.ty=tys/\cs.length=cvs.length/\∀(j:Nat) (c:CV) (u:Value),cvs[j]?=some c->cs[j]?=some u->Rep false W u c (fun b=>b<W.heap.size)/\CVOk c
theorem Opened.append {W:World}{cs ds:List Value}{t1 t2:List CTy}(h1:Opened W cs t1)(h2:Opened W ds t2):Opened W (cs++ds) (t1++t2):=by
 obtain ⟨c1,a1,b1,d1⟩:=h1;obtain ⟨c2,a2,b2,d2⟩:=h2;refine ⟨c1++c2,by simp [a1,a2],by simp [b1,b2],fun j c u hc hu=>?_⟩
 by_cases hj:j<c1.length
 ·rw [List.getElem?_append_left hj] at hc;rw [List.getElem?_append_left (by omega)] at hu
  exact d1 j c u hc hu
 ·rw [List.getElem?_append_right (by omega)] at hc
  rw [List.getElem?_append_right (by omega)] at hu
  exact d2 _ c u hc (by rw [<- b1];exact hu)
theorem zBU {α:Type}:∀(n:Nat) (p:Nat->α->Prop),(∀i,i<n->∃x,p i x)->∃l:List α,l.length=n/\∀i x,l[i]?=some x->p i x
 | 0,p,_=>⟨[],rfl,fun i x h=>by simp at h⟩
 | n+1,p,h=>by
  obtain ⟨x,hx⟩:=h 0 (by omega)
  obtain ⟨l,h1,h2⟩:=zBU n (fun i=>p (i+1)) (fun i hi=>h (i+1) (by omega))
  refine ⟨x :: l,by simp [h1],fun i y hy=>?_⟩
  cases i with
  | zero=>simp at hy;subst hy;exact hx
  | succ i=>exact h2 i y (by simpa using hy)
theorem cells?_get {W:World}{a:Addr}{n:Nat}{cs:List Value}(h:W.cells? 0 a n=some cs):cs.length=n/\∀i,i<n->W.cell? (a.add i)=cs[i]?:=by
 unfold World.cells? at h;rw [if_pos (Nat.zero_le _)] at h;refine ⟨by simpa using mapM_some_length h,fun i hi=>mapM_some_get h i i (by simp [hi])⟩
theorem addr_add (a:Addr)(h:a.spot=none)(n m:Nat):(a.add n).add m=⟨a.block,a.off+n+m,none⟩:=by
 obtain ⟨b,o,s⟩:=a;simp only at h;subst h;rw [add_lit,add_lit]
theorem zPc (hchk:∀T,T<zeM->zkP P T=true/\ztf P T=true){H:Type}{enc:TypeId×Value->H}{W:World} :
 ∀(fuel:Nat) (T:TypeId) (cs:List Value) (x:DataW H×List MemPlace),T<zeM->∀(agg:Bool) (tys:List CTy),zbZ P 4 T=some (agg,tys) ->
  DataW.trod enc P W 0 (fun _=>true) true fuel T cs=some x->(x.1.weights P T).all (·<=reachBytes)=true->Opened W cs tys:=by
 intro fuel
 induction fuel using Nat.strongRecOn with
 | _ fuel ih =>
  intro T cs x hT agg tys hty hx hw;obtain ⟨hc1,hc2⟩:=hchk T hT;have hty0:=hty;rw [zbZ] at hty;split at hty
  ·rename_i k hu;cases hty;obtain ⟨n,rfl,rfl,hwf⟩:=DataW.trod_int hu hx;refine ⟨[.i k n],rfl,rfl,fun j c u hc hu'=>?_⟩;cases j with
   | zero=>simp at hc hu';subst hc hu';exact ⟨.i k n _,.i k n (zTV hwf)⟩
   | succ j=>simp at hc
  ·rename_i hu;cases hty;obtain ⟨b,rfl,rfl⟩:=DataW.trod_bool hu hx;refine ⟨[.b b],rfl,rfl,fun j c u hc hu'=>?_⟩;cases j with
   | zero=>simp at hc hu';subst hc hu';exact ⟨.b b _,.b b⟩
   | succ j=>simp at hc
  ·rename_i e hu;split at hty
   ·rename_i t het;cases hty;have fin:∀(v:Value) (l:List t.den),Rep false W v (.s t l) (fun b=>b<W.heap.size)->CVOk (.s t l)->Opened W [v] [.s t]:=by
     intro v l h1 h2;refine ⟨[.s t l],rfl,rfl,fun j c u hc hu'=>?_⟩;cases j with
     | zero=>simp at hc hu';subst hc hu';exact ⟨h1,h2⟩
     | succ j=>simp at hc
    have empty:CVOk (.s t []):=.s t [] (Nat.zero_le _) (fun i x h=>by simp at h)
    rcases DataW.trod_slice hu hx with ⟨rfl,rfl⟩|⟨a,len,cap,elems,rest,n,rfl,rfl,rfl,_,hlc,hcm,hel,hget,hsp,_⟩
    ·exact fin _ [] (.nil t _) empty
    ·obtain ⟨hrl,hrget⟩:=hsp rfl
     by_cases hcap:cap=0
     ·subst hcap;have hl0:len=0:=by omega
      subst hl0;exact fin _ [] (.void t a _ rfl) empty
     ·unfold zkP at hc1;rw [hu] at hc1;simp only [het,Bool.and_eq_true] at hc1;obtain ⟨_,⟨hinfo,_⟩,hec⟩:=hc1;unfold ztf at hc2;rw [hu] at hc2;simp only [het,Bool.and_eq_true,Nat.blt_eq,Nat.ble_eq] at hc2;obtain ⟨he,hby⟩:=hc2;have hce:P.cellsOf e=t.width:=by rw [zL0 hinfo,zdz]
      have hwpos:0<t.width:=by cases t<;>simp [Ty.width]
      rw [hce] at hget hrget
      have helem:∀i,i<cap->∃cs',W.cells? 0 (a.add (i*t.width)) t.width=some cs'/\(i<len->∃y,DataW.trod enc P W 0 (fun _=>true) true n e cs'=some y/\elems[i]?=some y):=by
       intro i hi
       by_cases hil:i<len
       ·have h1:=hget i hil;rw [List.getElem?_eq_getElem (by omega)] at h1
        obtain ⟨cs',h2,h3⟩:=Option.bind_eq_some_iff.1 h1;exact ⟨cs',h2,fun _=>⟨_,h3,List.getElem?_eq_getElem (by omega)⟩⟩
       ·have h1:=hrget (i-len) (by omega)
        rw [List.getElem?_eq_getElem (by omega)] at h1
        obtain ⟨cs',h2,h3⟩:=Option.bind_eq_some_iff.1 h1;have e1:len+(i-len)=i:=by omega
        rw [e1] at h2;exact ⟨cs',h2,fun h=>absurd h hil⟩
      have hcell:∀i j,i<cap->j<t.width->∃v,W.cell? ((a.add (i*t.width)).add j)=some v:=by
       intro i j hi hj;obtain ⟨cs',h1,_⟩:=helem i hi;obtain ⟨h2,h3⟩:=cells?_get h1;exact ⟨_,(h3 j hj).trans (List.getElem?_eq_getElem (by omega))⟩
      obtain ⟨v0,hv0⟩:=hcell 0 0 (by omega) hwpos
      have hadd0:(a.add (0*t.width)).add 0=a:=by simp [Addr.add]
      rw [hadd0] at hv0;obtain ⟨arr,et,fz,hb,hspot⟩:∃arr et fz,W.heap[a.block]?=some (.cells arr et fz)/\a.spot=none:=by
       unfold World.cell? at hv0;split at hv0
       ·rename_i c et fz hb;split at hv0
        ·cases hv0
        ·rename_i hs;exact ⟨c,et,fz,hb,by simpa using hs⟩
       ·cases hv0
      have hcarr:∀i j,W.cell? ((a.add (i*t.width)).add j)=arr[a.off+i*t.width+j]?:=by
       intro i j;rw [addr_add a hspot,cell_of_block hb]
      have hsize:a.off+cap*t.width<=arr.size:=by
       obtain ⟨v,hv⟩:=hcell (cap-1) (t.width-1) (by omega) (by omega)
       rw [hcarr] at hv;have:=(Array.getElem?_eq_some_iff.1 hv).1;have h1:(cap-1)*t.width+t.width=cap*t.width:=by
        rw [<- Nat.succ_mul];congr 1;omega
       omega
      have hwl:((DataW.slice (elems.map (·.1)) (rest.map (·.1))).weights P T).all (·<=reachBytes)=true:=hw;simp only [DataW.weights,hu,List.all_cons,Bool.and_eq_true,decide_eq_true_eq,List.length_map] at hwl;obtain ⟨hbytes,hwe⟩:=hwl;obtain ⟨hwe,_⟩:=all_append hwe;have hlen:len<=big:=by
       have h1:(elems.length+rest.length)*1<=(elems.length+rest.length)*P.bytesOf e:=Nat.mul_le_mul_left _ hby;have:reachBytes<=big:=by decide
       omega
      split at hec
      ·rename_i agg' tys' hte;simp only [decide_eq_true_eq] at hec;subst hec
       have hex:∀i,i<len->∃y:t.den,∀(j:Nat) (c:CV) (u:Value),(t.cells y)[j]?=some c->arr[a.off+i*t.width+j]?=some u->Rep false W u c (fun b=>b<W.heap.size)/\CVOk c:=by
        intro i hi;obtain ⟨cs',h1,h2⟩:=helem i (by omega)
        obtain ⟨y,h3,h4⟩:=h2 hi;obtain ⟨cvs,g1,g2,g3⟩:=ih n (by omega) e cs' y he agg' t.shape hte h3 (zu5 hwe (by rw [List.getElem?_map,h4];rfl))
        obtain ⟨z,hz⟩:=zDo g1;refine ⟨z,fun j c u hc hu'=>g3 j c u ?_ ?_⟩
        ·rw [<- zhj hz];exact hc
        ·obtain ⟨k1,k2⟩:=cells?_get h1;have hj:j<t.width:=by have:=(List.getElem?_eq_some_iff.1 hc).1;rwa [zcx] at this
         rw [<- k2 j hj,hcarr];exact hu'
       obtain ⟨l,hl1,hl2⟩:=zBU len _ hex;have hvv:∀i j,i<l.length->j<t.width->arr[a.off+i*t.width+j]?=some ((arr[a.off+i*t.width+j]?).getD undef):=by
        intro i j hi hj;have h1:(i+1)*t.width<=cap*t.width:=Nat.mul_le_mul_right _ (by omega)
        rw [Nat.succ_mul] at h1;have:a.off+i*t.width+j<arr.size:=by omega
        simp [this]
       have hrep:Rep false W (.slice (some ⟨a.block,a.off,none⟩) l.length cap) (.s t l) (fun b=>b<W.heap.size):=by
        refine .sl t l a.block a.off cap arr et fz (fun i j=>(arr[a.off+i*t.width+j]?).getD undef) (fun _ _ b=>b<W.heap.size) _ hb (fun h=>by cases h) (by omega) (by omega) hsize ?_ (fun i j x _ _ hx=>⟨hx,fun h=>by cases h⟩) (fun h=>by cases h) hvv ?_
        ·exact (Array.getElem?_eq_some_iff.1 hb).1
        ·intro i z hz j c hc;have hi:i<l.length:=(List.getElem?_eq_some_iff.1 hz).1;have hj:j<t.width:=by have:=(List.getElem?_eq_some_iff.1 hc).1;rwa [zcx] at this
         exact (hl2 i z hz j c _ hc (hvv i j hi hj)).1
       have ha:a=⟨a.block,a.off,none⟩:=by
        obtain ⟨b,o,s⟩:=a;simp only at hspot;subst hspot;rfl
       rw [hl1,<- ha] at hrep;refine fin _ l hrep (.s t l (by omega) (fun i z hz j c hc=>?_))
       have hi:i<l.length:=(List.getElem?_eq_some_iff.1 hz).1;have hj:j<t.width:=by have:=(List.getElem?_eq_some_iff.1 hc).1;rwa [zcx] at this
       exact (hl2 i z hz j c _ hc (hvv i j hi hj)).2
      ·cases hec
   ·cases hty
  ·rename_i fs hu;split at hty
   ·rename_i l hl;cases hty;obtain ⟨xs,n,rfl,rfl,hcl,hxl,hfld⟩:=DataW.trod_struct hu hx;unfold ztf at hc2;rw [hu,hty0] at hc2;simp only at hc2;have hww:(DataW.weightsEach P (fs.toList.map (·.type)) (xs.map (·.1))).all (·<=reachBytes)=true:=by
     have:((DataW.agg (xs.map (·.1))).weights P T).all (·<=reachBytes)=true:=hw;simpa only [DataW.weights,hu] using this
    have key:∀(gs:List Field) (ys:List (DataW H×List MemPlace)) (ls:List (List CTy)) (off:Nat),zsq P (P.cellsOf T) gs off=true->gs.length=ys.length ->
     (∀(i:Nat) (f:Field),gs[i]?=some f->DataW.trod enc P W 0 (fun _=>true) true n f.type ((cs.drop f.offset).take (P.cellsOf f.type))=ys[i]?) ->
     zcf (fun (f:Field)=>match zbZ P 3 f.type with|some x=>some x.2|none=>none) gs=some ls->(DataW.weightsEach P (gs.map (·.type)) (ys.map (·.1))).all (·<=reachBytes)=true ->
     off<=P.cellsOf T/\Opened W (cs.drop off) ls.flatten:=by
     intro gs
     induction gs with
     | nil =>
      intro ys ls off ho _ _ hls _;cases hls;simp only [zsq,beq_iff_eq] at ho;subst ho;refine ⟨Nat.le_refl _,[],rfl,by simp [hcl],fun j c u h=>by simp at h⟩
     | cons f gs ihg =>
      intro ys ls off ho hlen hf hls hwt;obtain ⟨b,ls',hb1,hb2,rfl⟩:=zfl hls;cases ys with
      | nil=>simp at hlen
      | cons y ys =>
       simp only [zsq,Bool.and_eq_true,beq_iff_eq,Nat.blt_eq] at ho;obtain ⟨⟨ho1,ho2⟩,ho3⟩:=ho;split at hb1
       ·rename_i z hz;cases hb1;obtain ⟨agg',tys'⟩:=z;have hy:=hf 0 f rfl;simp only [List.getElem?_cons_zero] at hy;simp only [List.map_cons,DataW.weightsEach] at hwt;obtain ⟨hw1,hw2⟩:=all_append hwt;have h4:=zs5 hz;obtain ⟨g1,g2⟩:=ihg ys ls' (off+P.cellsOf f.type) ho3 (by simpa using hlen) (fun i g hg=>by simpa using hf (i+1) g (by simpa using hg)) hb2 hw2
        have o1:=ih n (by omega) f.type _ y ho2 agg' tys' h4 hy hw1
        rw [ho1] at o1;refine ⟨by omega,?_⟩
        have e1:cs.drop off=(cs.drop off).take (P.cellsOf f.type)++cs.drop (off+P.cellsOf f.type):=by
         rw [<- List.drop_drop,List.take_append_drop]
        rw [e1];exact Opened.append o1 g2
       ·cases hb1
    have:=(key fs.toList xs l 0 hc2 (by simp [hxl]) (fun i f hf=>hfld i f (by simpa using hf)) hl hww).2
    simpa using this
   ·cases hty
  ·cases hty
end
theorem zNg:(List.range zeM).all (zkP Tryz.prog)=true:=by kernel_rfl
theorem zWT:zxx.all (fun T=>!Nat.blt T zeM||zIx Tryz.prog T)=true:=by kernel_rfl
theorem zSg:Tryz.prog.funcs.toList.all (fun fn=>!(fn.name == "runtime.NumGoroutine"))=true:=by kernel_rfl
theorem zVr (T:TypeId)(h0:zxx.contains T=true)(hT:T<zeM):zIx Tryz.prog T=true:=by
 have h1:T∈zxx:=by
  revert h0
  generalize zxx=l;intro h0;simpa using h0
 have hb:Nat.blt T zeM=true:=by rw [Nat.blt_eq];exact hT
 have h2:=List.all_eq_true.1 zWT T h1;rw [hb,Bool.not_true,Bool.false_or] at h2;exact h2
theorem zWR (ctr:FuncId->Option (List AV->Option (Bool×List AV)))(mct:FuncId->Option (CV->Int->Option (Bool×CV×Int)))(pct:FuncId->Option (List Bool×(List CV->List AV->Option (Bool×List CV×List AV))))(tct:FuncId->Option (List Bool×Option (Nat×Nat×List (List Nat))×(List AV->Option (Bool×List AV)))):CfgOk (zji ctr mct pct tct):=by
 have h1:(zji ctr mct pct tct).P=Tryz.prog:=by simp only [zji]
 have h2:∀T,(zji ctr mct pct tct).sty T=below T (zrk Tryz.prog T):=fun _=>by simp only [zji]
 have h3:∀T,(zji ctr mct pct tct).cty T=below T (zbZ Tryz.prog 4 T):=fun _=>by simp only [zji]
 have h4:∀T f,(zji ctr mct pct tct).fof T f=zpj Tryz.prog T f:=fun _ _=>by simp only [zji]
 have h5:∀T,(zji ctr mct pct tct).eqt T=zxx.contains T:=fun _=>by simp only [zji]
 refine zSe h1 h2 h3 h4 zNg ?_;intro T h hT;rw [h5] at h;exact zVr T h hT
theorem zWi (ctr:FuncId->Option (List AV->Option (Bool×List AV)))(mct:FuncId->Option (CV->Int->Option (Bool×CV×Int)))(pct:FuncId->Option (List Bool×(List CV->List AV->Option (Bool×List CV×List AV))))(tct:FuncId->Option (List Bool×Option (Nat×Nat×List (List Nat))×(List AV->Option (Bool×List AV)))):NameOk (zji ctr mct pct tct):=by
 refine ⟨fun f fn hf=>?_⟩;have:=List.all_eq_true.1 zSg fn (by
  have:Tryz.prog.funcs[f]?=some fn:=hf;rw [<- Array.getElem?_toList] at this;exact List.mem_of_getElem? this)
 simpa using this
theorem zda {ctr:FuncId->Option (List AV->Option (Bool×List AV))}{mct:FuncId->Option (CV->Int->Option (Bool×CV×Int))}{pct:FuncId->Option (List Bool×(List CV->List AV->Option (Bool×List CV×List AV)))}{tct:FuncId->Option (List Bool×Option (Nat×Nat×List (List Nat))×(List AV->Option (Bool×List AV)))}(h:∀f run,ctr f=some run->Holds Tryz.prog f run)(hm:∀f run,mct f=some run->zBL Tryz.prog f run)(hp:∀f own run,pct f=some (own,run)->zdS Tryz.prog f own run)(ht:∀f own inp run,tct f=some (own,inp,run)->zdd Tryz.prog f own inp run):EngOk (zji ctr mct pct tct):=by
 have hC:=zWR ctr mct pct tct;have hH:CtrOk (zji ctr mct pct tct):=⟨h,fun f inp run hf=>ht f [] inp run hf⟩;have hG:=zSX hC ⟨hm⟩ ⟨hp⟩ ⟨ht⟩;have hN:=zWi ctr mct pct tct;exact ⟨hC,hH,hG,hN,zVO hC hH hG hN⟩
section
open Go Go.ChangeShapes Go.WideShapes Go.ChangeAt
def AV.sh:AV->Bool×List CTy
 | .one c=>(false,[c.ty])
 | .agg l=>(true,l.map CV.ty)
section
variable {P:Program}
theorem zFU {T:TypeId}{agg:Bool}{tys:List CTy}(h:zbZ P 4 T=some (agg,tys)) :
 (agg=true/\∃fs,P.underlying T=some (.struct fs))\/(agg=false/\tys.length=1/\((∃k,P.underlying T=some (.int k))\/P.underlying T=some .bool\/∃e,P.underlying T=some (.slice e))):=by
 rw [zbZ] at h;split at h
 ·rename_i k hu;cases h;exact .inr ⟨rfl,rfl,.inl ⟨k,hu⟩⟩
 ·rename_i hu;cases h;exact .inr ⟨rfl,rfl,.inr (.inl hu)⟩
 ·rename_i e hu;split at h
  ·cases h;exact .inr ⟨rfl,rfl,.inr (.inr ⟨e,hu⟩)⟩
  ·cases h
 ·rename_i fs hu;split at h
  ·cases h;exact .inl ⟨rfl,fs,hu⟩
  ·cases h
 ·cases h
theorem zRf {W:World}{T:TypeId}{v:Value}{base:Nat}(hu:(∃k,P.underlying T=some (.int k))\/P.underlying T=some .bool\/∃e,P.underlying T=some (.slice e))(h:Value.okWide P W .any base T v):v.cells = #[v]:=by
 cases v with
 | agg cs =>
  exfalso;rcases hu with ⟨k,hu⟩|hu|⟨e,hu⟩<;>simp [Value.okWide,hu,Cell.okWide,Cell.ok] at h
 | _=>rfl
theorem zGR (hchk:∀T,T<zeM->zkP P T=true/\ztf P T=true){H:Type}{enc:TypeId×Value->H}{W:World}{base:Nat} :
 ∀(ts:List TypeId) (vs:List Value) (ds:List (DataW H)) (p:List MemPlace),DataW.TrodAll enc P W 0 (fun _=>true) true ts vs ds p ->
  (∀(j:Nat) (t:TypeId) (v:Value),ts[j]?=some t->vs[j]?=some v->Value.okWide P W .any base t v)->(∀t∈ts,t<zeM/\(zbZ P 4 t).isSome=true) ->
  (DataW.weightsEach P ts ds).all (·<=reachBytes)=true ->
  ∃(avs:List AV) (xs:List Value),avs.map (fun a=>some a.sh)=ts.map (zbZ P 4)/\zcN false W (zn avs) xs (fun _ b=>b<W.heap.size)/\zbA avs xs=vs/\∀c∈zn avs,CVOk c
 | [],vs,ds,p,h,_,_,_=>by
  obtain ⟨rfl,rfl,rfl⟩:=trodAll_nil h;exact ⟨[],[],rfl,⟨rfl,fun i c x h=>by simp [zn] at h⟩,rfl,fun c h=>by simp [zn] at h⟩
 | T :: ts,vs,ds,p,h,hv,ht,hw=>by
  obtain ⟨v,vs',d,ds',p1,q,rfl,rfl,rfl,h1,h2⟩:=trodAll_cons h;simp only [DataW.weightsEach] at hw;obtain ⟨hw1,hw2⟩:=all_append hw;obtain ⟨avs,xs,g1,g2,g3,g4⟩:=zGR hchk ts vs' ds' q h2 (fun j t v h1 h2=>hv (j+1) t v (by simpa using h1) (by simpa using h2)) (fun t h=>ht t (by simp [h])) hw2
  obtain ⟨hT,hsome⟩:=ht T (by simp)
  obtain ⟨⟨agg,tys⟩,htc⟩:=Option.isSome_iff_exists.1 hsome;obtain ⟨fuel,hf⟩:=h1;obtain ⟨cvs,e1,e2,e3⟩:=zPc hchk fuel T _ _ hT agg tys htc hf hw1;have hv0:=hv 0 T v rfl rfl;have app:∀a:AV,a.cvs=cvs->zcN false W (zn (a :: avs)) (v.cells.toList++xs) (fun _ b=>b<W.heap.size)/\∀c∈zn (a :: avs),CVOk c:=by
   intro a ha;have e:zn (a :: avs)=cvs++zn avs:=by simp [zn,ha]
   rw [e];refine ⟨zcN.append ⟨e2,fun i c x hc hx=>(e3 i c x hc hx).1⟩ g2,fun c hc=>?_⟩;rcases List.mem_append.1 hc with hc|hc
   ·obtain ⟨i,hi⟩:=List.mem_iff_getElem?.1 hc;have hlt:i<v.cells.toList.length:=by rw [e2];exact (List.getElem?_eq_some_iff.1 hi).1
    exact (e3 i c _ hi (List.getElem?_eq_getElem hlt)).2
   ·exact g4 c hc
  rcases zFU htc with ⟨rfl,fs,hu⟩|⟨rfl,hl1,hu⟩
  ·obtain ⟨cs,rfl,_⟩:∃cs,v = .agg cs/\True:=by
    simp only [Value.okWide,hu] at hv0;obtain ⟨cs,h,_⟩:=hv0;exact ⟨cs,h,trivial⟩
   obtain ⟨a1,a2⟩:=app (.agg cvs) rfl;refine ⟨.agg cvs :: avs,_,?_,a1,?_,a2⟩
   ·rw [List.map_cons,List.map_cons,g1,htc];simp only [AV.sh,e1]
   ·simp only [Value.cells] at e2;simp only [zbA,Value.cells,<- e2,List.take_left',List.drop_left',g3,Array.toArray_toList]
  ·have hcells:=zRf hu hv0;rw [<- e1] at hl1;obtain ⟨c,rfl⟩:∃c,cvs=[c]:=by
    match cvs,hl1 with
    | [c],_=>exact ⟨c,rfl⟩
   obtain ⟨a1,a2⟩:=app (.one c) rfl;refine ⟨.one c :: avs,_,?_,a1,?_,a2⟩
   ·rw [List.map_cons,List.map_cons,g1,htc,<- e1];rfl
   ·rw [hcells];simp only [zbA];simp [g3]
theorem zu4 (hl:laidOutB P=true){H:Type}{enc:TypeId×Value->H}{W W':World}(hb:Go.RowKit.Below W.heap.size W W'){sp:Nat->Bool}:∀(ts:List TypeId) (vs:List Value) (ds:List (DataW H)) (ps:List MemPlace),(∀t∈ts,P.readableRec t=true/\t<P.types.size) ->
 DataW.TrodAll enc P W 0 (fun _=>true) true ts vs ds ps->(∀x∈ps,x.block<W.heap.size/\sp x.block=true)->DataW.TrodAll enc P W' 0 sp true ts vs ds ps
 | [],vs,ds,ps,_,h,_=>by
  obtain ⟨rfl,rfl,rfl⟩:=trodAll_nil h;exact rfl
 | T :: ts,vs,ds,ps,ht,h,hlt=>by
  obtain ⟨v,vs',d,ds',p,q,rfl,rfl,rfl,h1,h2⟩:=trodAll_cons h;obtain ⟨hr,hrow⟩:=ht T (by simp)
  exact ⟨p,q,WideElems.Trod_stays hl hr hrow h1 (fun x hx=>hb.same (hlt x (List.mem_append_left _ hx)).1) (fun x hx=>(hlt x (List.mem_append_left _ hx)).2),
   zu4 hl hb ts vs' ds' q (fun t h=>ht t (by simp [h])) h2 (fun x hx=>hlt x (List.mem_append_right _ hx)),rfl⟩
theorem zHy {W W':World}(h:Grown W W')(may:MemPlace->Prop):W.keptBut W' may:=by
 refine ⟨h.os,h.output,fun i hi=>?_⟩;rw [h.keep i hi];cases hc:W.heap[i]? with
 | none=>rfl
 | some o =>
  cases o<;>first|rfl|exact ⟨rfl,rfl,rfl,fun _ _=>rfl⟩|exact .inr ⟨rfl,rfl⟩
def zRo (P:Program)(ts:List TypeId):Bool:=ts.all fun T=>Nat.blt T zeM&&(zbZ P 4 T).isSome&&P.readableRec T&&Nat.blt T P.types.size
def zTY (P:Program)(ts:List TypeId)(avs:List AV):Prop:=avs.map (fun a=>some a.sh)=ts.map (zbZ P 4)/\∀c∈zn avs,CVOk c
def zIP (P:Program)(f:FuncId)(ts:List TypeId):Prop :=
 ∃run,Holds P f run/\∀avs,zTY P ts avs->run avs=some (true,[.one (.b true)])
theorem zC6 (hchk:∀T,T<zeM->zkP P T=true/\ztf P T=true)(hlo:laidOutB P=true){s:ChangeSpec}{f:FuncId}{fn:Func}{B:TypeId}(hvars:s.vars=[])(hfn:∀(H:Type) (ds:List (DataW H)),ds.length=fn.params.toList.length->s.fn H ds={ results:=[.lit (.bool true)],args:=ds })(hpars:zRo P fn.params.toList=true)(hres:fn.resultTypes = #[B])(hB:P.underlying B=some .bool)(hl:zIP P f fn.params.toList){H:Type}{enc:TypeId×Value->H}{apart fresh handsOn:Bool}(W:World)(base:Nat)(args:Array Value)(ds gs:List (DataW H))(before:List MemPlace)(hval:∀(j:Nat) t v,fn.params[j]?=some t->args[j]?=some v->Value.okWide P W .any base t v)(hW:DataW.Whole enc P fn.params.toList s.vars apart W args.toList ds gs before)(hsz:(DataW.weightsEach P (fn.params.toList++s.plain.varTypes P) (ds++gs)).all (·<=reachBytes)=true) :
 Calls P f args W fun e W'=>∃v,e = .returned v/\s.post enc P fn apart fresh handsOn false W args v W':=by
 have hW':=hW;obtain ⟨p,q,hA,hV,rfl,hfz,hnd⟩:=hW;rw [hvars] at hV;obtain ⟨rfl,rfl⟩:=trodVars_none hV;have hvt:s.plain.varTypes P=[]:=by
  unfold DataSpec.varTypes
  show s.vars.filterMap _=[]
  rw [hvars];rfl
 rw [hvt,List.append_nil,List.append_nil] at hsz;unfold zRo at hpars;simp only [List.all_eq_true,Bool.and_eq_true,Nat.blt_eq] at hpars;have hval':∀(j:Nat) (t:TypeId) (v:Value),fn.params.toList[j]?=some t->args.toList[j]?=some v->Value.okWide P W .any base t v:=by
  intro j t v h1 h2;rw [Array.getElem?_toList] at h1 h2;exact hval j t v h1 h2
 obtain ⟨avs,xs,g1,g2,g3,g4⟩:=zGR hchk fn.params.toList args.toList ds p hA hval' (fun t ht=>⟨(hpars t ht).1.1.1,(hpars t ht).1.1.2⟩) hsz;obtain ⟨run,hH,hrun⟩:=hl;have hcall:=hH.2 W avs xs _ g2 (hrun avs ⟨g1,g4⟩);have hargs:(zbA avs xs).toArray=args:=by rw [g3,Array.toArray_toList]
 rw [hargs] at hcall;have hlen:∀(ts:List TypeId) (vs:List Value) (ds:List (DataW H)) (ps:List MemPlace),DataW.TrodAll enc P W 0 (fun _=>true) true ts vs ds ps->ds.length=ts.length:=by
  intro ts
  induction ts with
  | nil=>intro vs ds ps h;obtain ⟨_,rfl,_⟩:=trodAll_nil h;rfl
  | cons t ts ih =>
   intro vs ds ps h;obtain ⟨v,vs',d,ds',p,q,rfl,rfl,rfl,_,h2⟩:=trodAll_cons h;simp [ih vs' ds' q h2]
 refine hcall.mono ?_;intro e W1 he;cases e with
 | panicked c=>exact he.elim
 | outgrown=>exact he.elim
 | returned v =>
  obtain ⟨hg,ys,K,hrep,hv,_⟩:=he;have hv1:v = .bool true:=by
   match ys,hrep with
   | [],h=>exact absurd h.1 (by simp [zn,AV.cvs])
   | [y],h =>
    have:=(h.2 0 (.b true) y rfl rfl).bool_inv;rw [hv,this];rfl
   | y :: z :: r,h=>exact absurd h.1 (by simp [zn,AV.cvs])
  subst hv1;refine ⟨_,rfl,ds,[],p++[],[],p,[],hW',?_,?_,?_,zHy hg _,fun h=>by cases h⟩
  ·rw [List.append_nil,hfn H ds (hlen _ _ _ _ hA),hres];exact ⟨[],[],⟨1,by simp [DataW.trod,hB,Value.cells]⟩,rfl,rfl⟩
  ·rw [List.append_nil,hfn H ds (hlen _ _ _ _ hA)];have hb:Go.RowKit.Below W.heap.size W W1:=⟨hg.os,hg.tape,hg.output,hg.size,hg.keep⟩;have hlt:∀x∈p,x.block<W.heap.size:=fun x hx=>by simpa using hW'.lt x (List.mem_append_left _ hx)
   exact zu4 hlo hb _ _ _ _ (fun t ht=>⟨(hpars t ht).1.2,(hpars t ht).2⟩) hA (fun x hx=>⟨hlt x hx,by simpa using hlt x hx⟩)
  ·rw [hvars,List.append_nil,hfn H ds (hlen _ _ _ _ hA)];rfl
end
theorem zWU:(List.range zeM).all (ztf Tryz.prog)=true:=by kernel_rfl
theorem zS4:laidOutB Tryz.prog=true:=by kernel_rfl
theorem own:ownKnob Tryz.prog.godebug=none:=by kernel_rfl
theorem zSf (T:TypeId)(hT:T<zeM):zkP Tryz.prog T=true/\ztf Tryz.prog T=true :=
 ⟨List.all_eq_true.1 zNg T (List.mem_range.2 hT),List.all_eq_true.1 zWU T (List.mem_range.2 hT)⟩
abbrev Good (ts:List TypeId)(avs:List AV):Prop:=zTY Tryz.prog ts avs
abbrev zM6 (f:FuncId)(ts:List TypeId):Prop:=zIP Tryz.prog f ts
theorem zLX {ctr:FuncId->Option (List AV->Option (Bool×List AV))}{mct:FuncId->Option (CV->Int->Option (Bool×CV×Int))}{pct:FuncId->Option (List Bool×(List CV->List AV->Option (Bool×List CV×List AV)))}{tct:FuncId->Option (List Bool×Option (Nat×Nat×List (List Nat))×(List AV->Option (Bool×List AV)))}(hctr:∀f run,ctr f=some run->Holds Tryz.prog f run)(hmct:∀f run,mct f=some run->zBL Tryz.prog f run)(hpct:∀f own run,pct f=some (own,run)->zdS Tryz.prog f own run)(htct:∀f own inp run,tct f=some (own,inp,run)->zdd Tryz.prog f own inp run){f:FuncId}{ts:List TypeId}(hf:FnOk Tryz.prog f)(h:∀avs,Good ts avs->∃tms N D,evalFn (zji ctr mct pct tct) tms N D f avs=some [.one (.b true)]):zM6 f ts:=by
 refine ⟨fun avs=>open Classical in if Good ts avs then some (true,[.one (.b true)]) else none,zup (zda hctr hmct hpct htct) hf ?_,fun avs hg=>by simp [hg]⟩
 intro avs rs _ hr;split at hr
 ·rename_i hg;cases hr;exact h avs hg
 ·cases hr
end
def St.blkEnd (st:St):List Bool->List At->List MV->Option (List CV×List Nat)
 | [],[],[]=>some ([],[])
 | own :: ms,a :: r,h :: hs =>
  match St.blkEnd st ms r hs with
  | none=>none
  | some (cs,ks) =>
   match a with
   | .i k n=>some (.i k n :: cs,ks)
   | .b x=>some (.b x :: cs,ks)
   | .sl q [] =>
    match st.root q with
    | some R =>
     match own with
     | true=>if R.own && !ks.contains q then some (.s R.t R.l :: cs,q :: ks) else none
     | false =>
      match h with
      | .v (.at (.sl q' []))=>if q==q' then some (.s R.t R.l :: cs,ks) else none
      | _=>none
    | none=>none
   | _=>none
 | _,_,_=>none
def zdu:List Bool->List CV->Nat->List (Nat×Root)
 | own :: ms,.s t l :: cs,id=>(id,⟨t,l,own,none⟩) :: zdu ms cs (id+1)
 | _ :: ms,_ :: cs,id=>zdu ms cs (id+1)
 | _,_,_=>[]
def zNj (own:List Bool)(cs:List CV)(args:List AV):St :=
 { tm:=.v (.at (.lp 0 0)) :: (ze3 cs 0).map fun a=>.v (.at a),lo:=[(0,ze3 cs 0)],ro:=zdu own cs 0++zcE false args cs.length,stk:=[],nid:=cs.length+(args.flatMap AV.cvs).length+1,ep:=0 }
def zhS (C:Cfg)(tms:FuncId->Nat->Option Tmpl)(N D:Nat)(f:FuncId)(own:List Bool)(cs:List CV)(args:List AV):Option Ans :=
 zqn C tms N (zpe C tms N D) f (.v (.at (.lp 0 0)) :: (zcn args cs.length).map .v) (zNj own cs args) fun rs st =>
  match st.tm with
  | .v (.at (.lp l 0)) :: hs =>
   match zh st.lo l with
   | some cells =>
    match st.blkEnd own cells hs with
    | some (cs',ks) =>
     match zmJ st rs ks with
     | some ans=>some (.agg cs' :: ans)
     | none=>none
    | none=>none
   | none=>none
  | _=>none
section
variable {C:Cfg} {w0 w w1:World} {S0:zQ} {U:Nat->Prop} {st st1:St} {E E1:Env} {ts:Array Value} {sv:List (Array Value)}
structure BlkEnd (st:St) (own:List Bool) (cells:List At) (hs:List MV) (cs:List CV) (ks:List Nat):Prop where
 len:cs.length=cells.length
 hlen:hs.length=cells.length
 ownk:∀r∈ks,∃j,zN own j/\cells[j]?=some (.sl r [])
 get:∀(j:Nat) (a:At),cells[j]?=some a->(∃k n,a = .i k n/\cs[j]?=some (.i k n))\/(∃x,a = .b x/\cs[j]?=some (.b x)) \/
  ∃r R,a = .sl r []/\st.root r=some R/\cs[j]?=some (.s R.t R.l)/\((zN own j/\R.own=true/\r∈ks)\/(¬ zN own j/\hs[j]?=some (.v (.at (.sl r [])))))
 inj:∀(i j r:Nat),zN own i->zN own j->cells[i]?=some (.sl r [])->cells[j]?=some (.sl r [])->i=j
theorem zGg:∀(own:List Bool) (cells:List At) (hs:List MV) (cs:List CV) (ks:List Nat),st.blkEnd own cells hs=some (cs,ks)->BlkEnd st own cells hs cs ks
 | [],[],[],cs,ks,h=>by
  cases h;exact ⟨rfl,rfl,fun r h=>by simp at h,fun j a h=>by simp at h,fun i j r h=>by simp [zN] at h⟩
 | o :: ms,a :: r,hd :: hs,cs,ks,h=>by
  simp only [St.blkEnd] at h;split at h
  ·cases h
  ·rename_i cs0 ks0 h0;have ih:=zGg ms r hs cs0 ks0 h0;have tail:∀(ks1:List Nat) (c:CV),(∀x∈ks0,x∈ks1)->∀(j:Nat) (b:At),r[j]?=some b->(∃k n,b = .i k n/\(c :: cs0)[j+1]?=some (.i k n))\/(∃x,b = .b x/\(c :: cs0)[j+1]?=some (.b x)) \/
    ∃q R,b = .sl q []/\st.root q=some R/\(c :: cs0)[j+1]?=some (.s R.t R.l)/\((zN (o :: ms) (j+1)/\R.own=true/\q∈ks1)\/(¬ zN (o :: ms) (j+1)/\(hd :: hs)[j+1]?=some (.v (.at (.sl q []))))):=by
    intro ks1 c hks j b hb;rcases ih.get j b hb with h|h|⟨q,R,g1,g2,g3,g4⟩
    ·exact .inl (by simpa using h)
    ·exact .inr (.inl (by simpa using h))
    ·refine .inr (.inr ⟨q,R,g1,g2,by simpa using g3,?_⟩)
     rcases g4 with ⟨h1,h2,h3⟩|⟨h1,h2⟩
     ·exact .inl ⟨by simpa [zN] using h1,h2,hks q h3⟩
     ·exact .inr ⟨by simpa [zN] using h1,by simpa using h2⟩
   have flat:∀(c:CV),(∀q,a≠.sl q [])->((∃k n,a = .i k n/\c = .i k n)\/(∃x,a = .b x/\c = .b x))->BlkEnd st (o :: ms) (a :: r) (hd :: hs) (c :: cs0) ks0:=by
    intro c hne hc;refine ⟨by simp [ih.len],by simp [ih.hlen],fun q hq=>?_,fun j b hb=>?_,fun i j q hi hj h1 h2=>?_⟩
    ·obtain ⟨j,h1,h2⟩:=ih.ownk q hq;exact ⟨j+1,by simpa [zN] using h1,by simpa using h2⟩
    ·cases j with
     | zero =>
      simp only [List.getElem?_cons_zero,Option.some.injEq] at hb;subst hb;rcases hc with ⟨k,n,h1,h2⟩|⟨x,h1,h2⟩
      ·exact .inl ⟨k,n,h1,by simp [h2]⟩
      ·exact .inr (.inl ⟨x,h1,by simp [h2]⟩)
     | succ j=>exact tail ks0 c (fun _ h=>h) j b (by simpa using hb)
    ·cases i with
     | zero=>simp only [List.getElem?_cons_zero,Option.some.injEq] at h1;exact absurd h1 (hne q)
     | succ i =>
      cases j with
      | zero=>simp only [List.getElem?_cons_zero,Option.some.injEq] at h2;exact absurd h2 (hne q)
      | succ j =>
       have:=ih.inj i j q (by simpa [zN] using hi) (by simpa [zN] using hj) (by simpa using h1) (by simpa using h2)
       omega
   split at h
   ·rename_i k n;cases h;exact flat _ (fun q h=>by cases h) (.inl ⟨k,n,rfl,rfl⟩)
   ·rename_i x;cases h;exact flat _ (fun q h=>by cases h) (.inr ⟨x,rfl,rfl⟩)
   ·rename_i q;split at h
    ·rename_i R hR;split at h
     ·split at h
      ·rename_i hcond;simp only [Bool.and_eq_true,Bool.not_eq_true',List.contains_eq_mem,decide_eq_false_iff_not] at hcond;obtain ⟨hown,hnk⟩:=hcond;cases h;refine ⟨by simp [ih.len],by simp [ih.hlen],fun x hx=>?_,fun j b hb=>?_,fun i j x hi hj h1 h2=>?_⟩
       ·rcases List.mem_cons.1 hx with rfl|hx
        ·exact ⟨0,rfl,rfl⟩
        ·obtain ⟨j,h1,h2⟩:=ih.ownk x hx;exact ⟨j+1,by simpa [zN] using h1,by simpa using h2⟩
       ·cases j with
        | zero =>
         simp only [List.getElem?_cons_zero,Option.some.injEq] at hb;subst hb;exact .inr (.inr ⟨q,R,rfl,hR,by simp,.inl ⟨rfl,hown,List.mem_cons_self⟩⟩)
        | succ j=>exact tail _ _ (fun x hx=>List.mem_cons_of_mem _ hx) j b (by simpa using hb)
       ·have old:∀(i:Nat),zN ms i->r[i]?=some (.sl q [])->False:=by
         intro i hi hq;rcases ih.get i _ hq with ⟨_,_,h,_⟩|⟨_,h,_⟩|⟨r',R',g1,g2,g3,g4⟩
         ·cases h
         ·cases h
         ·cases g1;rcases g4 with ⟨_,_,h⟩|⟨h,_⟩
          ·exact hnk h
          ·exact h hi
        cases i with
        | zero =>
         cases j with
         | zero=>rfl
         | succ j =>
          simp only [List.getElem?_cons_zero,Option.some.injEq,At.sl.injEq,and_true] at h1;subst h1;exact (old j (by simpa [zN] using hj) (by simpa using h2)).elim
        | succ i =>
         cases j with
         | zero =>
          simp only [List.getElem?_cons_zero,Option.some.injEq,At.sl.injEq,and_true] at h2;subst h2;exact (old i (by simpa [zN] using hi) (by simpa using h1)).elim
         | succ j =>
          have:=ih.inj i j x (by simpa [zN] using hi) (by simpa [zN] using hj) (by simpa using h1) (by simpa using h2)
          omega
      ·cases h
     ·split at h
      ·rename_i q';split at h
       ·rename_i he;simp only [beq_iff_eq] at he;subst he;cases h;refine ⟨by simp [ih.len],by simp [ih.hlen],fun x hx=>?_,fun j b hb=>?_,fun i j x hi hj h1 h2=>?_⟩
        ·obtain ⟨j,h1,h2⟩:=ih.ownk x hx;exact ⟨j+1,by simpa [zN] using h1,by simpa using h2⟩
        ·cases j with
         | zero =>
          simp only [List.getElem?_cons_zero,Option.some.injEq] at hb;subst hb;exact .inr (.inr ⟨q,R,rfl,hR,by simp,.inr ⟨by simp [zN],rfl⟩⟩)
         | succ j=>exact tail _ _ (fun x hx=>hx) j b (by simpa using hb)
        ·cases i with
         | zero=>simp [zN] at hi
         | succ i =>
          cases j with
          | zero=>simp [zN] at hj
          | succ j =>
           have:=ih.inj i j x (by simpa [zN] using hi) (by simpa [zN] using hj) (by simpa using h1) (by simpa using h2)
           omega
       ·cases h
      ·cases h
    ·cases h
   ·cases h
 | [],_ :: _,_,_,_,h=>by simp [St.blkEnd] at h
 | [],[],_ :: _,_,_,h=>by simp [St.blkEnd] at h
 | _ :: _,[],_,_,_,h=>by simp [St.blkEnd] at h
 | _ :: _,_ :: _,[],_,_,h=>by simp [St.blkEnd] at h
theorem zR9 (a:Value)(vs:Array Value):(#[a]++vs)[0]?=some a:=by
 rw [Array.getElem?_append_left (by simp)]
 rfl
theorem zSa (a:Value)(vs:Array Value)(i:Nat):(#[a]++vs)[i+1]?=vs[i]?:=by
 rw [Array.getElem?_append_right (by simp)]
 simp
theorem zh2:∀(own:List Bool) (cs:List CV) (id n:Nat) (R:Root),zh (zdu own cs id) n=some R->id<=n/\∃t l,cs[n-id]?=some (.s t l)/\R.t=t/\HEq R.l l/\own[n-id]?=some R.own/\R=⟨t,l,R.own,none⟩
 | [],_,_,_,_,h=>by cases h
 | o :: ms,[],_,_,_,h=>by cases h
 | o :: ms,c :: cs,id,n,R,h=>by
  have hr:zh (zdu ms cs (id+1)) n=some R->id<=n/\∃t l,(c :: cs)[n-id]?=some (.s t l)/\R.t=t/\HEq R.l l/\(o :: ms)[n-id]?=some R.own/\R=⟨t,l,R.own,none⟩:=fun h=>by
   obtain ⟨h1,t,l,h2,h3,h4,h5,h6⟩:=zh2 ms cs (id+1) n R h;have e:n-id=(n-(id+1))+1:=by omega
   exact ⟨by omega,t,l,by rw [e,List.getElem?_cons_succ];exact h2,h3,h4,by rw [e,List.getElem?_cons_succ];exact h5,h6⟩
  cases c with
  | i k x=>exact hr h
  | b x=>exact hr h
  | s t l =>
   simp only [zdu,zh] at h;split at h
   ·rename_i he;simp only [beq_iff_eq] at he;subst he;cases h;exact ⟨Nat.le_refl _,t,l,by simp,rfl,HEq.rfl,by simp,rfl⟩
   ·exact hr h
theorem zcD (hO:EngOk C){f:FuncId}{own:List Bool}{run:List CV->List AV->Option (Bool×List CV×List AV)}(hf:FnOk C.P f)(h:∀(cs:List CV) (avs:List AV) (cs':List CV) (rs:List AV),own.length=cs.length->(∃(w:World) (xs:Nat->Value) (K:Nat->zQ),∀(j:Nat) (c:CV),(cs++zn avs)[j]?=some c->Rep false w (xs j) c (K j))->run cs avs=some (true,cs',rs)->cs'.length=cs.length/\∃tms N D,zhS C tms N D f own cs avs=some (.agg cs' :: rs)):zdS C.P f own run:=by
 refine ⟨hf,fun w blk vals e cs K avs xs Ka cs' rs hb hvs hol hcell hKlt hKd hxs hKa hrun=>?_⟩;obtain ⟨hcl,tms,N,D,hev⟩:=h cs avs cs' rs hol ⟨w,fun j=>if j<cs.length then (vals[j]?).getD undef else (xs[j-cs.length]?).getD undef,fun j=>if j<cs.length then K j else Ka,fun j c hc=>by
  by_cases hj:j<cs.length
  ·rw [List.getElem?_append_left hj] at hc;have hu:=Array.getElem?_eq_getElem (show j<vals.size by omega)
   simp only [if_pos hj,hu,Option.getD_some];exact (hcell j c _ hc hu).ro
  ·rw [List.getElem?_append_right (by omega)] at hc
   have hlt:=(List.getElem?_eq_some_iff.1 hc).1;have hu:=List.getElem?_eq_getElem (show j-cs.length<xs.length by rw [hxs.1];exact hlt)
   simp only [if_neg hj,hu,Option.getD_some];exact hxs.2 _ c _ hc hu⟩ hrun
 unfold zhS at hev;have hblt:blk<w.heap.size:=(Array.getElem?_eq_some_iff.1 hb).1;generalize hst:zNj own cs avs=st at hev;have hro:st.ro=zdu own cs 0++zcE false avs cs.length:=by rw [<- hst];rfl
 have hloe:st.lo=[(0,ze3 cs 0)]:=by rw [<- hst];rfl
 have hstk:st.stk=[]:=by rw [<- hst];rfl
 have hnid:st.nid=cs.length+(zn avs).length+1:=by rw [<- hst];rfl
 have htme:st.tm = .v (.at (.lp 0 0)) :: (ze3 cs 0).map fun a=>.v (.at a):=by rw [<- hst];rfl
 have hroot0:∀r R,zh st.ro r=some R->R.ep=none/\((r<cs.length/\own[r]?=some R.own/\cs[r]?=some (.s R.t R.l))\/(cs.length<=r/\r<cs.length+(zn avs).length/\R.own=false/\(zn avs)[r-cs.length]?=some (.s R.t R.l))):=by
  intro r R hR;rw [hro,zbp] at hR;split at hR
  ·rename_i Q hQ;cases hR;obtain ⟨_,t,l,h2,_,_,h5,h6⟩:=zh2 own cs 0 r R hQ;rw [h6] at h5 ⊢;simp only [Nat.sub_zero] at h2 h5;exact ⟨rfl,.inl ⟨(List.getElem?_eq_some_iff.1 h2).1,h5,h2⟩⟩
  ·obtain ⟨h1,t,l,h2,rfl⟩:=zf1 false avs cs.length r R hR;have:=(List.getElem?_eq_some_iff.1 h2).1;exact ⟨rfl,.inr ⟨h1,by omega,rfl,h2⟩⟩
 have hroot:∀r R,st.root r=some R->(r<cs.length/\own[r]?=some R.own/\cs[r]?=some (.s R.t R.l))\/(cs.length<=r/\R.own=false/\(zn avs)[r-cs.length]?=some (.s R.t R.l)):=by
  intro r R hR;rcases (hroot0 r R (zbf hR).1).2 with h|⟨h1,_,h2,h3⟩
  ·exact .inl h
  ·exact .inr ⟨h1,h2,h3⟩
 let E:Env:={ ρ:=fun n=>if n<cs.length then (vals[n]?).getD undef else (xs[n-cs.length]?).getD undef,φ:=fun n=>if n<cs.length then K n else Ka,β:=fun _=>blk,κ:=w }
 have hE1:∀n,n<cs.length->E.ρ n=(vals[n]?).getD undef/\E.φ n=K n:=fun n hn=>by simp only [E,if_pos hn,and_self]
 have hE2:∀n,cs.length<=n->E.ρ n=(xs[n-cs.length]?).getD undef/\E.φ n=Ka:=fun n hn=>by simp only [E,if_neg (show ¬ n<cs.length by omega),and_self]
 have hva:∀(j:Nat) (a:At) (u:Value),(ze3 cs 0)[j]?=some a->vals[j]?=some u->u.oneCell'=true/\VA w st E a u:=by
  intro j a u ha hu;rw [zpu,Nat.zero_add] at ha;cases hc:cs[j]? with
  | none=>rw [hc] at ha;cases ha
  | some c =>
   rw [hc] at ha;cases ha;have hr:=hcell j c u hc hu;have hj:j<cs.length:=(List.getElem?_eq_some_iff.1 hc).1;refine ⟨hr.one,?_⟩;cases c with
   | i k n=>exact hr.int_inv
   | b x=>exact hr.bool_inv
   | s t l =>
    obtain ⟨⟨a,cap,hv,_⟩,_⟩:=hr.len;refine ⟨⟨a,_,cap,hv⟩,fun R _=>?_⟩;rw [(hE1 j hj).1,hu];rfl
 have hlo:∀l cells,zh st.lo l=some cells->l=0/\cells=ze3 cs 0:=by
  intro l cells h;rw [hloe] at h;simp only [zh] at h;split at h
  ·rename_i he;simp only [beq_iff_eq] at he;cases h;exact ⟨he.symm,rfl⟩
  ·cases h
 have hp:VA w st E (.lp 0 0) (.pointer (some ⟨blk,0,none⟩)):=⟨⟨_,rfl⟩,fun _ _=>rfl⟩;have hids:∀a∈ze3 cs 0,∀m∈a.ids,m<cs.length:=by
  intro a ha m hm;obtain ⟨j,hj⟩:=List.mem_iff_getElem?.1 ha;rw [zpu,Nat.zero_add] at hj;cases hc:cs[j]? with
  | none=>rw [hc] at hj;cases hj
  | some c =>
   rw [hc] at hj;cases hj;have:=ztC hm;have:=(List.getElem?_eq_some_iff.1 hc).1;omega
 let S0:zQ:=fun b=>b=blk\/∃j,j<cs.length/\zN own j/\K j b
 have hS:Sim w S0 (fun n=>n<st.nid) st E (#[.pointer (some ⟨blk,0,none⟩)]++vals) [] w:=by
  refine ⟨⟨rfl,rfl,rfl,Nat.le_refl _,fun _ _ _=>rfl,fun r R hR=>?_,fun r R hR x hx=>?_,fun r R hR ho=>?_,fun r R r' R' hR ho hR' he hne x hx=>?_,fun l cells hl=>?_,fun l l' c1 c2 h1 h2 _=>?_,fun l cells r R hl hR=>?_,fun r R e hR he=>?_,rfl⟩,⟨fun n R hn=>?_,fun n cells hn=>?_,fun m hm n hn=>?_,fun f hf=>?_⟩,⟨?_,fun i m v hm hv=>?_⟩,?_⟩
  ·rcases hroot r R hR with ⟨h1,h2,h3⟩|⟨h1,h2,h3⟩
   ·have hu:=Array.getElem?_eq_getElem (show r<vals.size by omega)
    rw [(hE1 r h1).1,(hE1 r h1).2,hu];have:=hcell r _ _ h3 hu;rw [h2] at this;exact this
   ·have hlt:=(List.getElem?_eq_some_iff.1 h3).1;have hu:=List.getElem?_eq_getElem (show r-cs.length<xs.length by rw [hxs.1];exact hlt)
    rw [(hE2 r h1).1,(hE2 r h1).2,hu,h2];exact hxs.2 _ _ _ h3 hu
  ·rcases hroot r R hR with ⟨h1,h2,h3⟩|⟨h1,h2,h3⟩
   ·rw [(hE1 r h1).2] at hx;exact (hKlt r x h1 hx).1
   ·rw [(hE2 r h1).2] at hx;exact (hKa x hx).1
  ·rcases hroot r R hR with ⟨h1,h2,h3⟩|⟨h1,h2,h3⟩
   ·refine ⟨(hroot0 r R (zbf hR).1).1,fun x hx=>.inl (.inr ⟨r,h1,?_,?_⟩)⟩
    ·show own[r]?=some true
     rw [h2,ho]
    ·rw [(hE1 r h1).2] at hx;exact hx
   ·rw [h2] at ho;cases ho
  ·rcases hroot r R hR with ⟨h1,h2,h3⟩|⟨h1,h2,h3⟩
   ·have hor:zN own r:=by show own[r]?=some true;rw [h2,ho]
    rw [(hE1 r h1).2] at hx;rcases hroot r' R' hR' with ⟨h1',h2',h3'⟩|⟨h1',h2',h3'⟩
    ·rw [(hE1 r' h1').2];exact hKd r r' x h1 h1' hor hne hx
    ·rw [(hE2 r' h1').2];exact fun hk=>(hKa x hk).2.2 r h1 hor hx
   ·rw [h2] at ho;cases ho
  ·obtain ⟨rfl,rfl⟩:=hlo l cells hl;exact ⟨.inl (.inl rfl),vals,e,hb,by rw [hvs,ztB],fun j c u hc hu=>hva j c u hc hu⟩
  ·rw [(hlo l c1 h1).1,(hlo l' c2 h2).1]
  ·intro hx;rcases hroot r R hR with ⟨h1,h2,h3⟩|⟨h1,h2,h3⟩
   ·rw [(hE1 r h1).2] at hx;exact (hKlt r _ h1 hx).2 rfl
   ·rw [(hE2 r h1).2] at hx;exact (hKa _ hx).2.1 rfl
  ·rw [(hroot0 r R hR).1] at he;cases he
  ·rcases (hroot0 n R hn).2 with ⟨h1,_⟩|⟨_,h1,_⟩<;>omega
  ·obtain ⟨rfl,rfl⟩:=hlo n cells hn;refine ⟨by omega,fun a ha m hm=>?_⟩
   have:=hids a ha m hm;omega
  ·rw [htme] at hm;rcases List.mem_cons.1 hm with rfl|hm
   ·simp only [MV.ids,zbk,zG,At.ids,zY,zZ,List.nil_append,List.flatMap_cons,List.flatMap_nil,List.append_nil,List.mem_singleton] at hn;omega
   ·obtain ⟨a,ha,rfl⟩:=List.mem_map.1 hm;simp only [MV.ids,zbk,zG,List.flatMap_cons,List.flatMap_nil,List.append_nil] at hn;have:=hids a ha n hn;omega
  ·rw [hstk] at hf;simp at hf
  ·rw [htme];simp [ztB,hvs];omega
  ·rw [htme] at hm;cases i with
   | zero=>rw [zR9] at hv;simp at hm hv;subst hm hv;exact hp
   | succ i =>
    simp only [List.getElem?_cons_succ,List.getElem?_map] at hm;have hv':vals[i]?=some v:=by rw [zSa] at hv;exact hv
    cases ha:(ze3 cs 0)[i]? with
    | none=>rw [ha] at hm;cases hm
    | some a=>rw [ha] at hm;cases hm;exact (hva i a v ha hv').2
  ·rw [hstk];trivial
 obtain ⟨hl1,hl2⟩:=zfI (w:=w) (st:=st) (E:=E) avs xs cs.length hxs.1 (fun i c u hc hu=>by
  have hr:=hxs.2 i c u hc hu;refine ⟨?_,hr.one⟩;cases c with
  | i k n=>exact hr.int_inv
  | b x=>exact hr.bool_inv
  | s t l =>
   obtain ⟨⟨a,cap,hv,_⟩,_⟩:=hr.len;refine ⟨⟨a,_,cap,hv⟩,fun R hR=>?_⟩;have e:cs.length+i-cs.length=i:=by omega
   rw [(hE2 _ (Nat.le_add_right _ _)).1,e,hu];rfl)
 obtain ⟨_,hcalls⟩:=zhw hO (zgw hO (tms:=tms) (N:=N) D) f _ st _ _ hev w S0 _ E _ [] w (#[.pointer (some ⟨blk,0,none⟩)]++(zbA avs xs).toArray)
  (fun v w'=>w'.os=w.os/\w'.tape=w.tape/\w'.output=w.output/\w.heap.size<=w'.heap.size /\
   (∀b,b<w.heap.size->b≠blk->(∀j,j<cs.length->zN own j->¬ K j b)->w'.heap[b]?=w.heap[b]?) /\
   ∃(vals':Array Value) (e':TypeId) (K':Nat->zQ) (ys:List Value) (Kr:Nat->zQ),w'.heap[blk]?=some (.cells vals' e' (0,0))/\vals'.size=cs'.length/\cs'.length=cs.length /\
    (∀(j:Nat) (c:CV) (u:Value),cs'[j]?=some c->vals'[j]?=some u->match c with
     | .i k n=>u = .int k n
     | .b x=>u = .bool x
     | .s t l=>(zN own j->Rep true w' u (.s t l) (K' j))/\(¬ zN own j->vals[j]?=some u)) /\
    zcN true w' (zn rs) ys Kr/\v=zhR (zbA rs ys) /\
    (∀j x,j<cs.length->K' j x->x<w'.heap.size/\x≠blk/\((∃i,i<cs.length/\zN own i/\K i x)\/w.heap.size<=x)) /\
    (∀i x,i<(zn rs).length->Kr i x->x<w'.heap.size/\x≠blk/\((∃i,i<cs.length/\zN own i/\K i x)\/w.heap.size<=x)) /\
    (∀i j x,i<cs.length->j<cs.length->i≠j->K' i x->¬ K' j x) /\
    (∀i j x,i<(zn rs).length->j<(zn rs).length->i≠j->Kr i x->¬ Kr j x) /\
    (∀i j x,i<cs.length->j<(zn rs).length->K' i x->¬ Kr j x)) hS (fun n hn h=>by omega)
  (by simp [hl1]) (fun i m v hm hv=>by
   cases i with
   | zero=>rw [zR9] at hv;simp at hm hv;subst hm hv;exact hp
   | succ i =>
    simp only [List.getElem?_cons_succ,List.getElem?_map] at hm;have hv':(zbA avs xs)[i]?=some v:=by rw [zSa] at hv;simpa using hv
    cases hx:(zcn avs cs.length)[i]? with
    | none=>rw [hx] at hm;cases hm
    | some x=>rw [hx] at hm;cases hm;exact hl2 i x v hx hv')
  (fun m hm n hn=>by
   rcases List.mem_cons.1 hm with rfl|hm
   ·simp only [MV.ids,zbk,zG,At.ids,zY,zZ,List.nil_append,List.flatMap_cons,List.flatMap_nil,List.append_nil,List.mem_singleton] at hn;omega
   ·obtain ⟨x,hx,rfl⟩:=List.mem_map.1 hm;simp only [MV.ids,zbk,List.mem_flatMap] at hn;obtain ⟨a,ha,hn⟩:=hn;have:=(zeq avs cs.length n x a hx ha hn).2;omega)
  (fun U' st' E' w' tvs v hS' _ _ _ hv _ hans=>by
   split at hans
   ·rename_i l hs htm;split at hans
    ·rename_i cells hcells;split at hans
     ·rename_i cs1 ks hbe;split at hans
      ·rename_i ans hansof;simp only [Option.some.injEq,List.cons.injEq,AV.agg.injEq] at hans;obtain ⟨rfl,rfl⟩:=hans;have hB:=zGg own cells hs _ ks hbe;have hM:=hS'.mem;obtain ⟨hts,htv⟩:=hS'.tm;have hlp:=htv 0 (.v (.at (.lp l 0))) (.pointer (some ⟨blk,0,none⟩)) (by rw [htm];rfl) (zR9 _ _)
       have hβ:E'.β l=blk:=by
        have:=hlp.2 cells hcells;simp only [Value.pointer.injEq,Option.some.injEq,Addr.mk.injEq,and_true] at this;exact this.symm
       obtain ⟨us,rfl,hul,huv⟩:=zs6 hv;obtain ⟨ats,ys,kr,hG,hyl,hyv,rfl,hkr,_⟩:=zgg tvs ks _ us hansof hul huv;obtain ⟨_,vals',e',hb',hsz',hcv⟩:=hM.loc l cells hcells;rw [hβ] at hb';have hS0:∀x,(S0 x\/w.heap.size<=x)->x≠blk->((∃i,i<cs.length/\zN own i/\K i x)\/w.heap.size<=x):=by
        intro x h hne;rcases h with (h|h)|h
        ·exact absurd h hne
        ·exact .inl h
        ·exact .inr h
       have hnb:∀r R x,st'.root r=some R->E'.φ r x->x≠blk:=by
        intro r R x hR hx he;subst he;rw [<- hβ] at hx;exact hM.lro l cells r R hcells hR hx
       have hget:∀i,i<(zn ans).length->∃a,ats[i]?=some a:=fun i hi=>⟨_,List.getElem?_eq_getElem (by rw [<- hG.len];exact hi)⟩
       let K':Nat->zQ:=fun j x=>zN own j/\cφ E' cells j x
       have hK':∀j x,K' j x->∃r R,cells[j]?=some (.sl r [])/\zN own j/\st'.root r=some R/\R.own=true/\r∈ks/\E'.φ r x:=by
        intro j x hx;obtain ⟨ho,hx⟩:=hx;obtain ⟨a,ha,hx⟩:=zpi hx;rcases hB.get j a ha with ⟨_,_,rfl,_⟩|⟨_,rfl,_⟩|⟨r,R,rfl,h1,h2,h3⟩
        ·exact hx.elim
        ·exact hx.elim
        ·rcases h3 with ⟨_,h4,h5⟩|⟨h4,_⟩
         ·exact ⟨r,R,ha,ho,h1,h4,h5,hx⟩
         ·exact absurd ho h4
       have hKr:∀i x,cφ E' ats i x->∃r∈kr,∃R,ats[i]?=some (.sl r [])/\st'.root r=some R/\R.own=true/\E'.φ r x:=by
        intro i x hx;obtain ⟨a,ha,hx⟩:=zpi hx;obtain ⟨r,hr,rfl,hrx⟩:=hG.fi ha hx;obtain ⟨R,hR,ho⟩:=hG.own r hr;exact ⟨r,hr,R,ha,hR,ho,hrx⟩
       refine ⟨hM.os,hM.tape,hM.output,hM.size,fun b hb hne hnk=>hM.keep b hb (fun h=>?_),vals',e',K',ys,cφ E' ats,hb',by rw [hsz',hB.len],hcl,fun j c u hc hu=>?_,⟨by rw [hyl,hG.len],fun i c x hc hx=>?_⟩,rfl,fun j x hj hx=>?_,fun i x hi hx=>?_,fun i j x hi hj hne hx hx'=>?_,fun i j x hi hj hne hx hx'=>?_,fun i j x hi hj hx hx'=>?_⟩
       ·rcases h with h|⟨j,hj,ho,hk⟩
        ·exact hne h
        ·exact hnk j hj ho hk
       ·have hj:j<cells.length:=by rw [<- hB.len];exact (List.getElem?_eq_some_iff.1 hc).1
        have ha:=List.getElem?_eq_getElem hj;obtain ⟨_,hva'⟩:=hcv j _ u ha hu;rcases hB.get j _ ha with ⟨k,n,h1,h2⟩|⟨y,h1,h2⟩|⟨r,R,h1,h2,h3,h4⟩
        ·rw [hc] at h2;cases h2;rw [h1] at hva';exact hva'
        ·rw [hc] at h2;cases h2;rw [h1] at hva';exact hva'
        ·rw [hc] at h3;cases h3;rw [h1] at hva' ha;have hρ:=hva'.2 R h2;simp only [zL,Option.some.injEq] at hρ;refine ⟨fun ho=>?_,fun hno=>?_⟩
         ·rcases h4 with ⟨_,h5,_⟩|⟨h5,_⟩
          ·have hr:=hM.rep r R h2;rw [h5,hρ] at hr;exact hr.weak (fun x hx=>⟨ho,by rw [zfv ha];exact hx⟩)
          ·exact absurd ho h5
         ·rcases h4 with ⟨h5,_⟩|⟨_,h5⟩
          ·exact absurd h5 hno
          ·have hjc:j<cs.length:=by rw [<- hcl,hB.len];exact hj
           have hu0:=Array.getElem?_eq_getElem (show j<vals.size by omega)
           have hsl:=htv (j+1) (.v (.at (.sl r []))) vals[j] (by rw [htm,List.getElem?_cons_succ];exact h5) (by rw [zSa];exact hu0)
           have hρ':=hsl.2 R h2;simp only [zL,Option.some.injEq] at hρ';rw [hu0,<- hρ',hρ]
       ·obtain ⟨a,ha⟩:=hget i (List.getElem?_eq_some_iff.1 hc).1;rw [zfv ha];exact hG.rep hM ha hc (hyv i a x ha hx)
       ·obtain ⟨r,R,_,ho,h1,h2,h3,h4⟩:=hK' j x hx;have:=hnb r R x h1 h4;exact ⟨hM.rlt r R h1 x h4,this,hS0 x ((hM.mine r R h1 h2).2 x h4) this⟩
       ·obtain ⟨r,hr,R,_,h1,h2,h4⟩:=hKr i x hx;have:=hnb r R x h1 h4;exact ⟨hM.rlt r R h1 x h4,this,hS0 x ((hM.mine r R h1 h2).2 x h4) this⟩
       ·obtain ⟨r,R,g1,ho,h1,h2,h3,h4⟩:=hK' i x hx;obtain ⟨r',R',g1',ho',h1',h2',h3',h4'⟩:=hK' j x hx';have:=hM.own_apart h1 h2 h1' h2' h4 h4';subst this;exact hne (hB.inj i j r ho ho' g1 g1')
       ·obtain ⟨r,hr,R,g1,h1,h2,h4⟩:=hKr i x hx;obtain ⟨r',hr',R',g1',h1',h2',h4'⟩:=hKr j x hx';have:=hM.own_apart h1 h2 h1' h2' h4 h4';subst this;exact hne (hG.inj i j r g1 g1')
       ·obtain ⟨r,R,g1,ho,h1,h2,h3,h4⟩:=hK' i x hx;obtain ⟨r',hr',R',g1',h1',h2',h4'⟩:=hKr j x hx';have:=hM.own_apart h1 h2 h1' h2' h4 h4';subst this;exact hkr r hr' h3
      ·cases hans
     ·cases hans
    ·cases hans
   ·cases hans)
 refine hcalls.mono ?_;intro ex w' he;cases ex with
 | returned v=>exact he
 | panicked chain=>exact he.elim
 | outgrown=>exact he.elim
end
def zOE (C:Cfg)(tms:FuncId->Nat->Option Tmpl)(N D:Nat)(f:FuncId)(own:List Bool)(args:List AV):Option Ans :=
 zqn C tms N (zpe C tms N D) f ((zcn args 0).map .v) { tm:=[],lo:=[],ro:=zdu own (args.flatMap AV.cvs) 0,stk:=[],nid:=(args.flatMap AV.cvs).length,ep:=0 } fun rs st=>zmJ st rs []
def zxy (C:Cfg)(tms:FuncId->Nat->Option Tmpl)(N D:Nat)(f:FuncId)(own:List Bool)(ja jr:Nat)(js:List (List Nat))(t:Ty)(args:List AV):Option Ans :=
 zqn C tms N (zpe C tms N D) f ((zcn args 0).map .v) { tm:=[.v (.at (.kp ja js t))],lo:=[],ro:=zdu own (args.flatMap AV.cvs) 0,stk:=[],nid:=(args.flatMap AV.cvs).length,ep:=0 } fun rs st =>
  match st.tm,(rs.flatMap zG)[jr]? with
  | [.v (.at (.kp n J t'))],some (.sl m [])=>cond (Nat.beq n m&&(J==js&&decide (t'=t))) (zmJ st rs []) none
  | _,_=>none
section
variable {C:Cfg} {w0 w w1:World} {S0:zQ} {U:Nat->Prop} {st st1:St} {E E1:Env} {ts:Array Value} {sv:List (Array Value)}
theorem zEn (hO:EngOk C){f:FuncId}{own:List Bool}{run:List AV->Option (Bool×List AV)}(hf:FnOk C.P f)(hal0:zfX f=[[]])(h:∀(avs:List AV) (rs:List AV),own.length=(zn avs).length->(∃(w:World) (xs:Nat->Value) (K:Nat->zQ),∀(j:Nat) (c:CV),(zn avs)[j]?=some c->Rep false w (xs j) c (K j))->run avs=some (true,rs)->∃tms N D,zOE C tms N D f own avs=some rs)(hne:own.isEmpty=false:=by rfl):zdd C.P f own none run:=by
 refine zdd.of (by rintro rfl;cases hne) ?_
 intro al hal;rw [hal0,List.mem_singleton] at hal;subst hal;refine ⟨hf,fun w K avs xs rs hxl hol hrep hKlt hKd0 _ hrun=>?_⟩;have hKd:=fun i j x hi hj ho hne=>hKd0 i j x hi hj ho hne (by simp)
 obtain ⟨tms,N,D,hev⟩:=h avs rs hol ⟨w,fun j=>(xs[j]?).getD undef,K,fun j c hc=>by
  have hlt:=(List.getElem?_eq_some_iff.1 hc).1;have hu:=List.getElem?_eq_getElem (show j<xs.length by rw [hxl];exact hlt)
  simp only [hu,Option.getD_some];exact (hrep j c _ hc hu).ro⟩ hrun
 unfold zOE at hev;generalize hst:({ tm:=[],lo:=[],ro:=zdu own (avs.flatMap AV.cvs) 0,stk:=[],nid:=(avs.flatMap AV.cvs).length,ep:=0 }:St)=st at hev;have hro0:st.ro=zdu own (zn avs) 0:=by rw [<- hst];rfl
 have hroot0:∀r R,zh st.ro r=some R->R.ep=none/\r<(zn avs).length/\own[r]?=some R.own/\(zn avs)[r]?=some (.s R.t R.l):=by
  intro r R hR;rw [hro0] at hR;obtain ⟨_,t,l,h2,_,_,h5,h6⟩:=zh2 own (zn avs) 0 r R hR;rw [h6] at h5 ⊢;simp only [Nat.sub_zero] at h2 h5;exact ⟨rfl,(List.getElem?_eq_some_iff.1 h2).1,h5,h2⟩
 have hlo:∀l,zh st.lo l=none:=fun l=>by rw [<- hst];rfl
 let E:Env:={ ρ:=fun n=>(xs[n]?).getD undef,φ:=K,β:=fun _=>0,κ:=w }
 let S0:zQ:=fun b=>∃j,j<(zn avs).length/\zN own j/\K j b
 have hS:Sim w S0 (fun n=>n<(zn avs).length) st E #[] [] w:=by
  refine ⟨⟨rfl,rfl,rfl,Nat.le_refl _,fun _ _ _=>rfl,fun r R hR=>?_,fun r R hR x hx=>?_,fun r R hR ho=>?_,fun r R r' R' hR ho hR' _ hne x hx=>?_,fun l cs hl=>?_,fun l l' cs cs' hl=>?_,fun l cs r R hl=>?_,fun r R e hR he=>?_,rfl⟩,⟨fun n R hn=>?_,fun n cs hn=>?_,fun m hm=>?_,fun f hf=>?_⟩,⟨?_,fun i m v hm=>?_⟩,?_⟩
  ·obtain ⟨_,h1,h2,h3⟩:=hroot0 r R (zbf hR).1;have hu:=List.getElem?_eq_getElem (show r<xs.length by omega)
   show Rep R.own w ((xs[r]?).getD undef) _ (K r)
   have:=hrep r _ _ h3 hu;rw [h2] at this;rw [hu];exact this
  ·obtain ⟨_,h1,_,_⟩:=hroot0 r R (zbf hR).1;exact hKlt r x h1 hx
  ·obtain ⟨he,h1,h2,_⟩:=hroot0 r R (zbf hR).1;refine ⟨he,fun x hx=>.inl ⟨r,h1,?_,hx⟩⟩
   show own[r]?=some true
   rw [h2,ho]
  ·obtain ⟨_,h1,h2,_⟩:=hroot0 r R (zbf hR).1;obtain ⟨_,h1',_,_⟩:=hroot0 r' R' (zbf hR').1;exact hKd r r' x h1 h1' (by show own[r]?=some true;rw [h2,ho]) hne hx
  ·rw [hlo] at hl;cases hl
  ·rw [hlo] at hl;cases hl
  ·rw [hlo] at hl;cases hl
  ·rw [(hroot0 r R hR).1] at he;cases he
  ·exact (hroot0 n R hn).2.1
  ·rw [hlo] at hn;cases hn
  ·rw [<- hst] at hm;simp at hm
  ·rw [<- hst] at hf;simp at hf
  ·rw [<- hst];rfl
  ·rw [<- hst] at hm;simp at hm
  ·rw [<- hst];trivial
 obtain ⟨hl1,hl2⟩:=zfI (w:=w) (st:=st) (E:=E) avs xs 0 hxl (fun i c u hc hu=>by
  have hr:=hrep i c u hc hu;refine ⟨?_,hr.one⟩;cases c with
  | i k n=>exact hr.int_inv
  | b x=>exact hr.bool_inv
  | s t l =>
   obtain ⟨⟨a,cap,hv,_⟩,_⟩:=hr.len;refine ⟨⟨a,_,cap,hv⟩,fun R hR=>?_⟩;have e:0+i=i:=by omega
   show some ((xs[0+i]?).getD undef)=some u
   rw [e,hu];rfl)
 have hnid:st.nid=(zn avs).length:=by rw [<- hst];rfl
 obtain ⟨_,hcalls⟩:=zhw hO (zgw hO (tms:=tms) (N:=N) D) f _ st _ rs hev w S0 _ E #[] [] w (zbA avs xs).toArray
  (fun v w'=>w'.os=w.os/\w'.tape=w.tape/\w'.output=w.output/\w.heap.size<=w'.heap.size /\
   (∀b,b<w.heap.size->(∀j,j<(zn avs).length->zN own j->¬ K j b)->w'.heap[b]?=w.heap[b]?) /\
   ∃(ys:List Value) (Kr:Nat->zQ),zcN true w' (zn rs) ys Kr/\v=zhR (zbA rs ys) /\
    (∀i x,i<(zn rs).length->Kr i x->x<w'.heap.size/\((∃j,j<(zn avs).length/\zN own j/\K j x)\/w.heap.size<=x)) /\
    (∀i j x,i<(zn rs).length->j<(zn rs).length->i≠j->Kr i x->¬ Kr j x) /\
    (∀ja jr js,(none:Option (Nat×Nat×List (List Nat)))=some (ja,jr,js)->∀t l u,(zn avs)[ja]?=some (.s t l)->xs[ja]?=some u->∃l',(zn rs)[jr]?=some (.s t l')/\ys[jr]?=some u /\
     ∀p v,zL w t u p=some v->js.any (fun c=>c.isPrefixOf (cols p))=false->zL w' t u p=some v)) hS (fun n hn h=>by omega)
  (by simp [hl1]) (fun i m v hm hv=>by
   rw [List.getElem?_map] at hm;cases hx:(zcn avs 0)[i]? with
   | none=>rw [hx] at hm;cases hm
   | some x=>rw [hx] at hm;cases hm;exact hl2 i x v hx (by simpa using hv))
  (fun m hm n hn=>by
   obtain ⟨x,hx,rfl⟩:=List.mem_map.1 hm;simp only [MV.ids,zbk,List.mem_flatMap] at hn;obtain ⟨a,ha,hn⟩:=hn;have:=(zeq avs 0 n x a hx ha hn).2;omega)
  (fun U' st' E' w' tvs v hS' _ _ _ hv _ hans=>by
   obtain ⟨us,rfl,hul,huv⟩:=zs6 hv;obtain ⟨ats,ys,ks,hG,hyl,hyv,rfl,_⟩:=zgg tvs [] rs us hans hul huv;have hM:=hS'.mem;have hget:∀i,i<(zn rs).length->∃a,ats[i]?=some a:=fun i hi=>⟨_,List.getElem?_eq_getElem (by rw [<- hG.len];exact hi)⟩
   have hKr:∀i x,cφ E' ats i x->∃r∈ks,∃R,ats[i]?=some (.sl r [])/\st'.root r=some R/\R.own=true/\E'.φ r x:=by
    intro i x hx;obtain ⟨a,ha,hx⟩:=zpi hx;obtain ⟨r,hr,rfl,hrx⟩:=hG.fi ha hx;obtain ⟨R,hR,ho⟩:=hG.own r hr;exact ⟨r,hr,R,ha,hR,ho,hrx⟩
   refine ⟨hM.os,hM.tape,hM.output,hM.size,fun b hb hnk=>hM.keep b hb (fun ⟨j,hj,ho,hk⟩=>hnk j hj ho hk),ys,cφ E' ats,⟨by rw [hyl,hG.len],fun i c x hc hx=>?_⟩,rfl,fun i x hi hx=>?_,fun i j x hi hj hne hx hx'=>?_,fun ja jr js h=>by cases h⟩
   ·obtain ⟨a,ha⟩:=hget i (List.getElem?_eq_some_iff.1 hc).1;rw [zfv ha];exact hG.rep hM ha hc (hyv i a x ha hx)
   ·obtain ⟨r,hr,R,_,h1,h2,h4⟩:=hKr i x hx;exact ⟨hM.rlt r R h1 x h4,(hM.mine r R h1 h2).2 x h4⟩
   ·obtain ⟨r,hr,R,g1,h1,h2,h4⟩:=hKr i x hx;obtain ⟨r',hr',R',g1',h1',h2',h4'⟩:=hKr j x hx';have:=hM.own_apart h1 h2 h1' h2' h4 h4';subst this;exact hne (hG.inj i j r g1 g1'))
 refine hcalls.mono ?_;intro ex w' he;cases ex with
 | returned v=>exact he
 | panicked chain=>exact he.elim
 | outgrown=>exact he.elim
theorem ziK (hO:EngOk C){f:FuncId}{own:List Bool}{ja jr:Nat}{js:List (List Nat)}{kt:Ty}{run:List AV->Option (Bool×List AV)}(hf:FnOk C.P f)(hal0:zfX f=[[]])(h:∀(avs:List AV) (rs:List AV),own.length=(zn avs).length->(∃(w:World) (xs:Nat->Value) (K:Nat->zQ),∀(j:Nat) (c:CV),(zn avs)[j]?=some c->Rep false w (xs j) c (K j))->run avs=some (true,rs)->(∃l,(zn avs)[ja]?=some (.s kt l))/\own[ja]?=some true/\∃tms N D,zxy C tms N D f own ja jr js kt avs=some rs)(hne:own.isEmpty=false:=by rfl):zdd C.P f own (some (ja,jr,js)) run:=by
 refine zdd.of (by rintro rfl;cases hne) ?_
 intro al hal;rw [hal0,List.mem_singleton] at hal;subst hal;refine ⟨hf,fun w K avs xs rs hxl hol hrep hKlt hKd0 _ hrun=>?_⟩;have hKd:=fun i j x hi hj ho hne=>hKd0 i j x hi hj ho hne (by simp)
 obtain ⟨⟨kl,hkl⟩,hoj,tms,N,D,hev⟩:=h avs rs hol ⟨w,fun j=>(xs[j]?).getD undef,K,fun j c hc=>by
  have hlt:=(List.getElem?_eq_some_iff.1 hc).1;have hu:=List.getElem?_eq_getElem (show j<xs.length by rw [hxl];exact hlt)
  simp only [hu,Option.getD_some];exact (hrep j c _ hc hu).ro⟩ hrun
 unfold zxy at hev;have hjl:ja<(zn avs).length:=(List.getElem?_eq_some_iff.1 hkl).1;have hjx:ja<xs.length:=by rw [hxl];exact hjl
 have hju:=List.getElem?_eq_getElem hjx;generalize hst:({ tm:=[.v (.at (.kp ja js kt))],lo:=[],ro:=zdu own (avs.flatMap AV.cvs) 0,stk:=[],nid:=(avs.flatMap AV.cvs).length,ep:=0 }:St)=st at hev;have hro0:st.ro=zdu own (zn avs) 0:=by rw [<- hst];rfl
 have hroot0:∀r R,zh st.ro r=some R->R.ep=none/\r<(zn avs).length/\own[r]?=some R.own/\(zn avs)[r]?=some (.s R.t R.l):=by
  intro r R hR;rw [hro0] at hR;obtain ⟨_,t,l,h2,_,_,h5,h6⟩:=zh2 own (zn avs) 0 r R hR;rw [h6] at h5 ⊢;simp only [Nat.sub_zero] at h2 h5;exact ⟨rfl,(List.getElem?_eq_some_iff.1 h2).1,h5,h2⟩
 have hlo:∀l,zh st.lo l=none:=fun l=>by rw [<- hst];rfl
 let E:Env:={ ρ:=fun n=>(xs[n]?).getD undef,φ:=K,β:=fun _=>0,κ:=w }
 let S0:zQ:=fun b=>∃j,j<(zn avs).length/\zN own j/\K j b
 have hS:Sim w S0 (fun n=>n<(zn avs).length) st E #[xs[ja]] [] w:=by
  refine ⟨⟨rfl,rfl,rfl,Nat.le_refl _,fun _ _ _=>rfl,fun r R hR=>?_,fun r R hR x hx=>?_,fun r R hR ho=>?_,fun r R r' R' hR ho hR' _ hne x hx=>?_,fun l cs hl=>?_,fun l l' cs cs' hl=>?_,fun l cs r R hl=>?_,fun r R e hR he=>?_,rfl⟩,⟨fun n R hn=>?_,fun n cs hn=>?_,fun m hm=>?_,fun f hf=>?_⟩,⟨?_,fun i m v hm hv=>?_⟩,?_⟩
  ·obtain ⟨_,h1,h2,h3⟩:=hroot0 r R (zbf hR).1;have hu:=List.getElem?_eq_getElem (show r<xs.length by omega)
   show Rep R.own w ((xs[r]?).getD undef) _ (K r)
   have:=hrep r _ _ h3 hu;rw [h2] at this;rw [hu];exact this
  ·obtain ⟨_,h1,_,_⟩:=hroot0 r R (zbf hR).1;exact hKlt r x h1 hx
  ·obtain ⟨he,h1,h2,_⟩:=hroot0 r R (zbf hR).1;refine ⟨he,fun x hx=>.inl ⟨r,h1,?_,hx⟩⟩
   show own[r]?=some true
   rw [h2,ho]
  ·obtain ⟨_,h1,h2,_⟩:=hroot0 r R (zbf hR).1;obtain ⟨_,h1',_,_⟩:=hroot0 r' R' (zbf hR').1;exact hKd r r' x h1 h1' (by show own[r]?=some true;rw [h2,ho]) hne hx
  ·rw [hlo] at hl;cases hl
  ·rw [hlo] at hl;cases hl
  ·rw [hlo] at hl;cases hl
  ·rw [(hroot0 r R hR).1] at he;cases he
  ·exact (hroot0 n R hn).2.1
  ·rw [hlo] at hn;cases hn
  ·rw [<- hst] at hm;simp only [List.mem_singleton] at hm;subst hm;intro n hn;simp only [MV.ids,zbk,zG,List.flatMap_cons,List.flatMap_nil,At.ids,zY,zZ,List.append_nil,List.mem_singleton] at hn;subst hn;exact hjl
  ·rw [<- hst] at hf;simp at hf
  ·rw [<- hst];rfl
  ·rw [<- hst] at hm;cases i with
   | succ i=>simp at hm
   | zero =>
    simp only [List.getElem?_cons_zero,Option.some.injEq] at hm hv;subst hm;have hv:xs[ja]=v:=by simpa using hv
    subst hv;have hr:=hrep ja _ _ hkl hju;obtain ⟨⟨a,cap,hva,_⟩,_⟩:=hr.len;refine ⟨⟨a,_,cap,hva⟩,fun R hR=>?_⟩;obtain ⟨_,_,_,h4⟩:=hroot0 ja R (zbf hR).1;rw [hkl] at h4;cases h4;refine ⟨rfl,?_,fun p u hp _=>hp⟩
    show (xs[ja]?).getD undef=xs[ja]
    rw [hju];rfl
  ·rw [<- hst];trivial
 obtain ⟨hl1,hl2⟩:=zfI (w:=w) (st:=st) (E:=E) avs xs 0 hxl (fun i c u hc hu=>by
  have hr:=hrep i c u hc hu;refine ⟨?_,hr.one⟩;cases c with
  | i k n=>exact hr.int_inv
  | b x=>exact hr.bool_inv
  | s t l =>
   obtain ⟨⟨a,cap,hv,_⟩,_⟩:=hr.len;refine ⟨⟨a,_,cap,hv⟩,fun R hR=>?_⟩;have e:0+i=i:=by omega
   show some ((xs[0+i]?).getD undef)=some u
   rw [e,hu];rfl)
 have hnid:st.nid=(zn avs).length:=by rw [<- hst];rfl
 obtain ⟨_,hcalls⟩:=zhw hO (zgw hO (tms:=tms) (N:=N) D) f _ st _ rs hev w S0 _ E #[xs[ja]] [] w (zbA avs xs).toArray
  (fun v w'=>w'.os=w.os/\w'.tape=w.tape/\w'.output=w.output/\w.heap.size<=w'.heap.size /\
   (∀b,b<w.heap.size->(∀j,j<(zn avs).length->zN own j->¬ K j b)->w'.heap[b]?=w.heap[b]?) /\
   ∃(ys:List Value) (Kr:Nat->zQ),zcN true w' (zn rs) ys Kr/\v=zhR (zbA rs ys) /\
    (∀i x,i<(zn rs).length->Kr i x->x<w'.heap.size/\((∃j,j<(zn avs).length/\zN own j/\K j x)\/w.heap.size<=x)) /\
    (∀i j x,i<(zn rs).length->j<(zn rs).length->i≠j->Kr i x->¬ Kr j x) /\
    (∀ja2 jr2 js2,some (ja,jr,js)=some (ja2,jr2,js2)->∀t l u,(zn avs)[ja2]?=some (.s t l)->xs[ja2]?=some u->∃l',(zn rs)[jr2]?=some (.s t l')/\ys[jr2]?=some u /\
     ∀p v,zL w t u p=some v->js2.any (fun c=>c.isPrefixOf (cols p))=false->zL w' t u p=some v)) hS (fun n hn h=>by omega)
  (by simp [hl1]) (fun i m v hm hv=>by
   rw [List.getElem?_map] at hm;cases hx:(zcn avs 0)[i]? with
   | none=>rw [hx] at hm;cases hm
   | some x=>rw [hx] at hm;cases hm;exact hl2 i x v hx (by simpa using hv))
  (fun m hm n hn=>by
   obtain ⟨x,hx,rfl⟩:=List.mem_map.1 hm;simp only [MV.ids,zbk,List.mem_flatMap] at hn;obtain ⟨a,ha,hn⟩:=hn;have:=(zeq avs 0 n x a hx ha hn).2;omega)
  (fun U' st' E' w' tvs v hS' _ _ _ hv _ hans=>by
   obtain ⟨us,rfl,hul,huv⟩:=zs6 hv;split at hans
   rotate_left
   ·cases hans
   rename_i n J t' m htm hrm;cases hck:(Nat.beq n m&&(J==js&&decide (t'=kt))) with
   | false=>rw [hck] at hans;cases hans
   | true =>
   rw [hck] at hans;simp only [cond_true] at hans;simp only [Bool.and_eq_true,Nat.beq_eq,beq_iff_eq,decide_eq_true_eq] at hck;obtain ⟨hnm,hJ,ht⟩:=hck;subst hnm hJ ht;obtain ⟨ats,ys,ks,hG,hyl,hyv,rfl,_,hats⟩:=zgg tvs [] rs us hans hul huv;have hM:=hS'.mem;have hget:∀i,i<(zn rs).length->∃a,ats[i]?=some a:=fun i hi=>⟨_,List.getElem?_eq_getElem (by rw [<- hG.len];exact hi)⟩
   have hKr:∀i x,cφ E' ats i x->∃r∈ks,∃R,ats[i]?=some (.sl r [])/\st'.root r=some R/\R.own=true/\E'.φ r x:=by
    intro i x hx;obtain ⟨a,ha,hx⟩:=zpi hx;obtain ⟨r,hr,rfl,hrx⟩:=hG.fi ha hx;obtain ⟨R,hR,ho⟩:=hG.own r hr;exact ⟨r,hr,R,ha,hR,ho,hrx⟩
   refine ⟨hM.os,hM.tape,hM.output,hM.size,fun b hb hnk=>hM.keep b hb (fun ⟨j,hj,ho,hk⟩=>hnk j hj ho hk),ys,cφ E' ats,⟨by rw [hyl,hG.len],fun i c x hc hx=>?_⟩,rfl,fun i x hi hx=>?_,fun i j x hi hj hne hx hx'=>?_,fun ja2 jr2 js2 he t l u hcl hxu=>?_⟩
   ·obtain ⟨a,ha⟩:=hget i (List.getElem?_eq_some_iff.1 hc).1;rw [zfv ha];exact hG.rep hM ha hc (hyv i a x ha hx)
   ·obtain ⟨r,hr,R,_,h1,h2,h4⟩:=hKr i x hx;exact ⟨hM.rlt r R h1 x h4,(hM.mine r R h1 h2).2 x h4⟩
   ·obtain ⟨r,hr,R,g1,h1,h2,h4⟩:=hKr i x hx;obtain ⟨r',hr',R',g1',h1',h2',h4'⟩:=hKr j x hx';have:=hM.own_apart h1 h2 h1' h2' h4 h4';subst this;exact hne (hG.inj i j r g1 g1')
   ·cases he;rw [hkl] at hcl;cases hcl;rw [hju] at hxu;cases hxu;have ha:ats[jr]?=some (.sl n []):=by rw [hats];exact hrm
    rcases hG.get jr _ ha with ⟨_,_,h,_⟩|⟨_,h,_⟩|⟨r,R,h,hR,_,hcs⟩
    ·cases h
    ·cases h
    ·cases h;have hty:=hS'.tm.2 0 (.v (.at (.kp n J t'))) xs[ja] (by rw [htm];rfl) (by simp)
     obtain ⟨e1,e2,e3⟩:=hty.2 R hR;have hyl2:jr<ys.length:=by rw [hyl];exact (List.getElem?_eq_some_iff.1 ha).1
     have hy:=List.getElem?_eq_getElem hyl2;have e4:=(hyv jr _ _ ha hy).2 R hR;simp only [zL,Option.some.injEq] at e4;refine ⟨e1 ▸ R.l,?_,by rw [hy,<- e4,e2],?_⟩
     ·rw [hcs];cases e1;rfl
     ·rw [hM.κ] at e3;exact e3)
 refine hcalls.mono ?_;intro ex w' he;cases ex with
 | returned v=>exact he
 | panicked chain=>exact he.elim
 | outgrown=>exact he.elim
def zIX (al:List (Nat×Nat)):At->At
 | .sl r []=>match al.find? (fun x=>Nat.beq x.1 r) with
  | some x=>.sl x.2 []
  | none=>.sl r []
 | a=>a
def zIA (C:Cfg)(tms:FuncId->Nat->Option Tmpl)(N D:Nat)(f:FuncId)(own:List Bool)(al:List (Nat×Nat))(ja jr:Nat)(js:List (List Nat))(t:Ty)(args:List AV):Option Ans :=
 zqn C tms N (zpe C tms N D) f (((zcn args 0).map .v).map (zg3 (zIX al))) { tm:=[.v (.at (.kp ja js t))],lo:=[],ro:=(zdu own (args.flatMap AV.cvs) 0).filter (fun x=>!al.any (fun y=>Nat.beq y.1 x.1)),stk:=[],nid:=(args.flatMap AV.cvs).length,ep:=0 } fun rs st =>
  match st.tm,(rs.flatMap zG)[jr]? with
  | [.v (.at (.kp n J t'))],some (.sl m [])=>cond (Nat.beq n m&&(J==js&&decide (t'=t))) (zmJ st rs []) none
  | _,_=>none
def zK4 (a:At):Prop:=(∃k n,a = .i k n)\/(∃b,a = .b b)\/∃r,a = .sl r []
theorem zoB:∀(cs:List CV) (id:Nat) (a:At),a∈ze3 cs id->zK4 a
 | [],_,_,h=>by simp [ze3] at h
 | .i k n :: cs,id,a,h=>by
  simp only [ze3,List.mem_cons] at h;rcases h with rfl|h
  ·exact .inl ⟨k,n,rfl⟩
  ·exact zoB cs (id+1) a h
 | .b x :: cs,id,a,h=>by
  simp only [ze3,List.mem_cons] at h;rcases h with rfl|h
  ·exact .inr (.inl ⟨x,rfl⟩)
  ·exact zoB cs (id+1) a h
 | .s t l :: cs,id,a,h=>by
  simp only [ze3,List.mem_cons] at h;rcases h with rfl|h
  ·exact .inr (.inr ⟨id,rfl⟩)
  ·exact zoB cs (id+1) a h
theorem zrC:∀(rs:List AV) (id:Nat) (x:TV) (a:At),x∈zcn rs id->a∈zG x->zK4 a
 | [],_,_,_,h,_=>by simp [zcn] at h
 | .one c :: rs,id,x,a,h,ha=>by
  simp only [zcn,List.mem_cons] at h;rcases h with rfl|h
  ·simp only [zG,List.mem_singleton] at ha;subst ha;cases c with
   | i k n=>exact .inl ⟨k,n,rfl⟩
   | b x=>exact .inr (.inl ⟨x,rfl⟩)
   | s t l=>exact .inr (.inr ⟨id,rfl⟩)
  ·exact zrC rs (id+1) x a h ha
 | .agg cs :: rs,id,x,a,h,ha=>by
  simp only [zcn,List.mem_cons] at h;rcases h with rfl|h
  ·exact zoB cs id a ha
  ·exact zrC rs (id+cs.length) x a h ha
theorem zWb {w1:World}{st1:St}{E1:Env}{w:World}{st:St}{E:Env}{f:At->At}{P:At->Prop}(T:∀a v,P a->VA w st E a v->VA w1 st1 E1 (f a) v){x:TV}{v:Value}(hP:∀a∈zG x,P a)(h:VT w st E x v):VT w1 st1 E1 (zmW f x) v:=by
 rcases x with a|l
 ·exact T a v (hP a (by simp [zG])) h
 ·obtain ⟨vs,h1,h2,h3⟩:=h;refine ⟨vs,h1,by simp [h2],fun j a u ha hu=>?_⟩
  rw [List.getElem?_map] at ha;cases hl:l[j]? with
  | none=>rw [hl] at ha;cases ha
  | some b=>rw [hl] at ha;cases ha;exact ⟨(h3 j b u hl hu).1,T _ _ (hP b (by simp only [zG];exact List.mem_of_getElem? hl)) (h3 j b u hl hu).2⟩
theorem zR8 {al:List (Nat×Nat)}{a:At}{n:Nat}(h:n∈(zIX al a).ids):n∈a.ids\/∃r,(r,n)∈al:=by
 unfold zIX at h;split at h
 ·split at h
  ·rename_i r x hx;simp only [At.ids,zY,zZ,List.append_nil,List.mem_singleton] at h;subst h;exact .inr ⟨x.1,List.mem_of_find?_eq_some hx⟩
  ·exact .inl h
 ·exact .inl h
theorem zmI {α:Type}(q:Nat->Bool):∀(l:List (Nat×α)) (n:Nat) (x:α),zh (l.filter (fun y=>q y.1)) n=some x->q n=true/\zh l n=some x
 | [],_,_,h=>by simp [zh] at h
 | (k,v) :: l,n,x,h=>by
  cases hq:q k with
  | false =>
   rw [List.filter_cons_of_neg (by simp [hq])] at h
   obtain ⟨h1,h2⟩:=zmI q l n x h;refine ⟨h1,?_⟩;simp only [zh];cases hk:k==n with
   | false=>exact h2
   | true =>
    have:k=n:=by simpa using hk
    subst this;rw [hq] at h1;cases h1
  | true =>
   rw [List.filter_cons_of_pos (by simp [hq])] at h
   simp only [zh] at h ⊢;cases hk:k==n with
   | false =>
    rw [hk] at h;exact zmI q l n x (by simpa using h)
   | true =>
    rw [hk] at h;have:k=n:=by simpa using hk
    subst this;exact ⟨hq,by simpa using h⟩
theorem zEm (hO:EngOk C){f:FuncId}{own:List Bool}{ja jr:Nat}{js:List (List Nat)}{kt:Ty}{run:List AV->Option (Bool×List AV)}(hf:FnOk C.P f)(h:∀(al:List (Nat×Nat)) (avs:List AV) (rs:List AV),al∈zfX f->(∀j i,(j,i)∈al->(zn avs)[j]?=(zn avs)[i]?)->own.length=(zn avs).length->(∃(w:World) (xs:Nat->Value) (K:Nat->zQ),∀(j:Nat) (c:CV),(zn avs)[j]?=some c->Rep false w (xs j) c (K j))->run avs=some (true,rs)->(∃l,(zn avs)[ja]?=some (.s kt l))/\own[ja]?=some true/\∃tms N D,zIA C tms N D f own al ja jr js kt avs=some rs)(hne:own.isEmpty=false:=by rfl):zdd C.P f own (some (ja,jr,js)) run:=by
 refine zdd.of (by rintro rfl;cases hne) ?_
 intro al hal;refine ⟨hf,fun w K avs xs rs hxl hol hrep hKlt hKd0 hali hrun=>?_⟩;obtain ⟨⟨kl,hkl⟩,hoj,tms,N,D,hev⟩:=h al avs rs hal (fun j i hji=>(hali j i hji).2.2.2.1) hol ⟨w,fun j=>(xs[j]?).getD undef,K,fun j c hc=>by
  have hlt:=(List.getElem?_eq_some_iff.1 hc).1;have hu:=List.getElem?_eq_getElem (show j<xs.length by rw [hxl];exact hlt)
  simp only [hu,Option.getD_some];exact (hrep j c _ hc hu).ro⟩ hrun
 unfold zIA at hev;have hjl:ja<(zn avs).length:=(List.getElem?_eq_some_iff.1 hkl).1;have hjx:ja<xs.length:=by rw [hxl];exact hjl
 have hju:=List.getElem?_eq_getElem hjx;generalize hst:({ tm:=[.v (.at (.kp ja js kt))],lo:=[],ro:=(zdu own (avs.flatMap AV.cvs) 0).filter (fun x=>!al.any (fun y=>Nat.beq y.1 x.1)),stk:=[],nid:=(avs.flatMap AV.cvs).length,ep:=0 }:St)=st at hev;have hro0:st.ro=(zdu own (zn avs) 0).filter (fun x=>!al.any (fun y=>Nat.beq y.1 x.1)):=by rw [<- hst];rfl
 have hna:∀r R,zh st.ro r=some R->∀i,(r,i)∉al:=by
  intro r R hR i hi;rw [hro0] at hR;have:=(zmI (fun n=>!al.any (fun y=>Nat.beq y.1 n)) _ r R hR).1;simp only [Bool.not_eq_true',List.any_eq_false] at this;exact this _ hi (Nat.beq_refl r)
 have hroot0:∀r R,zh st.ro r=some R->R.ep=none/\r<(zn avs).length/\own[r]?=some R.own/\(zn avs)[r]?=some (.s R.t R.l):=by
  intro r R hR;rw [hro0] at hR;obtain ⟨_,t,l,h2,_,_,h5,h6⟩:=zh2 own (zn avs) 0 r R (zmI (fun n=>!al.any (fun y=>Nat.beq y.1 n)) _ r R hR).2;rw [h6] at h5 ⊢;simp only [Nat.sub_zero] at h2 h5;exact ⟨rfl,(List.getElem?_eq_some_iff.1 h2).1,h5,h2⟩
 have hlo:∀l,zh st.lo l=none:=fun l=>by rw [<- hst];rfl
 let E:Env:={ ρ:=fun n=>(xs[n]?).getD undef,φ:=K,β:=fun _=>0,κ:=w }
 let S0:zQ:=fun b=>∃j,j<(zn avs).length/\zN own j/\K j b
 have hS:Sim w S0 (fun n=>n<(zn avs).length) st E #[xs[ja]] [] w:=by
  refine ⟨⟨rfl,rfl,rfl,Nat.le_refl _,fun _ _ _=>rfl,fun r R hR=>?_,fun r R hR x hx=>?_,fun r R hR ho=>?_,fun r R r' R' hR ho hR' _ hne x hx=>?_,fun l cs hl=>?_,fun l l' cs cs' hl=>?_,fun l cs r R hl=>?_,fun r R e hR he=>?_,rfl⟩,⟨fun n R hn=>?_,fun n cs hn=>?_,fun m hm=>?_,fun f hf=>?_⟩,⟨?_,fun i m v hm hv=>?_⟩,?_⟩
  ·obtain ⟨_,h1,h2,h3⟩:=hroot0 r R (zbf hR).1;have hu:=List.getElem?_eq_getElem (show r<xs.length by omega)
   show Rep R.own w ((xs[r]?).getD undef) _ (K r)
   have:=hrep r _ _ h3 hu;rw [h2] at this;rw [hu];exact this
  ·obtain ⟨_,h1,_,_⟩:=hroot0 r R (zbf hR).1;exact hKlt r x h1 hx
  ·obtain ⟨he,h1,h2,_⟩:=hroot0 r R (zbf hR).1;refine ⟨he,fun x hx=>.inl ⟨r,h1,?_,hx⟩⟩
   show own[r]?=some true
   rw [h2,ho]
  ·obtain ⟨_,h1,h2,_⟩:=hroot0 r R (zbf hR).1;obtain ⟨_,h1',_,_⟩:=hroot0 r' R' (zbf hR').1;exact hKd0 r r' x h1 h1' (by show own[r]?=some true;rw [h2,ho]) hne (hna r' R' (zbf hR').1 r) hx
  ·rw [hlo] at hl;cases hl
  ·rw [hlo] at hl;cases hl
  ·rw [hlo] at hl;cases hl
  ·rw [(hroot0 r R hR).1] at he;cases he
  ·exact (hroot0 n R hn).2.1
  ·rw [hlo] at hn;cases hn
  ·rw [<- hst] at hm;simp only [List.mem_singleton] at hm;subst hm;intro n hn;simp only [MV.ids,zbk,zG,List.flatMap_cons,List.flatMap_nil,At.ids,zY,zZ,List.append_nil,List.mem_singleton] at hn;subst hn;exact hjl
  ·rw [<- hst] at hf;simp at hf
  ·rw [<- hst];rfl
  ·rw [<- hst] at hm;cases i with
   | succ i=>simp at hm
   | zero =>
    simp only [List.getElem?_cons_zero,Option.some.injEq] at hm hv;subst hm;have hv:xs[ja]=v:=by simpa using hv
    subst hv;have hr:=hrep ja _ _ hkl hju;obtain ⟨⟨a,cap,hva,_⟩,_⟩:=hr.len;refine ⟨⟨a,_,cap,hva⟩,fun R hR=>?_⟩;obtain ⟨_,_,_,h4⟩:=hroot0 ja R (zbf hR).1;rw [hkl] at h4;cases h4;refine ⟨rfl,?_,fun p u hp _=>hp⟩
    show (xs[ja]?).getD undef=xs[ja]
    rw [hju];rfl
  ·rw [<- hst];trivial
 let st0:St:={ st with ro:=(List.range (zn avs).length).map (fun r=>(r,(⟨.int,[],false,none⟩:Root))),ep:=0 }
 have hst0:∀r,r<(zn avs).length->st0.root r=some ⟨.int,[],false,none⟩:=by
  intro r hr;have:∀(n k:Nat),k<=r->r<k+n->zh ((List.range' k n).map (fun r=>(r,(⟨.int,[],false,none⟩:Root)))) r=some ⟨.int,[],false,none⟩:=by
   intro n
   induction n with
   | zero=>intro k h1 h2;omega
   | succ n ih =>
    intro k h1 h2;simp only [List.range'_succ,List.map_cons,zh]
    by_cases he:k=r
    ·subst he;simp
    ·have hb:(k==r)=false:=by simpa using he
     simp only [hb,Bool.false_eq_true,if_false];exact ih (k+1) (by omega) (by omega)
  have h2:=this (zn avs).length 0 (Nat.zero_le _) (by omega)
  rw [<- List.range_eq_range'] at h2;exact zgD h2 (.inl rfl)
 obtain ⟨hl1,hl2⟩:=zfI (w:=w) (st:=st0) (E:=E) avs xs 0 hxl (fun i c u hc hu=>by
  have hr:=hrep i c u hc hu;refine ⟨?_,hr.one⟩;cases c with
  | i k n=>exact hr.int_inv
  | b x=>exact hr.bool_inv
  | s t l =>
   obtain ⟨⟨a,cap,hv,_⟩,_⟩:=hr.len;refine ⟨⟨a,_,cap,hv⟩,fun R hR=>?_⟩;have e:0+i=i:=by omega
   show some ((xs[0+i]?).getD undef)=some u
   rw [e,hu];rfl)
 have hT:∀a v,(zK4 a/\∀n∈a.ids,n<(zn avs).length)->VA w st0 E a v->VA w st E (zIX al a) v:=by
  intro a v ⟨hpl,hid⟩ hv;have hkey:∀r,∀i,(r,i)∈al->E.ρ i=E.ρ r:=by
   intro r i hi
   show (xs[i]?).getD undef=(xs[r]?).getD undef
   rw [(hali r i hi).2.2.1]
  rcases hpl with ⟨k,n,rfl⟩|⟨b,rfl⟩|⟨r,rfl⟩
  ·exact hv
  ·exact hv
  ·have hr:r<(zn avs).length:=hid r (by simp [At.ids,zY])
   have e1:=hv.2 _ (hst0 r hr);simp only [zL,Option.some.injEq] at e1;simp only [zIX];split
   ·rename_i x hx;have hm:=List.mem_of_find?_eq_some hx;have hx1:x.1=r:=Nat.eq_of_beq_eq_true (by simpa using List.find?_some hx)
    subst hx1;refine ⟨hv.1,fun R _=>?_⟩;simp only [zL,Option.some.injEq];rw [hkey x.1 x.2 hm];exact e1
   ·refine ⟨hv.1,fun R _=>?_⟩;simp only [zL,Option.some.injEq];exact e1
 have hnid:st.nid=(zn avs).length:=by rw [<- hst];rfl
 obtain ⟨_,hcalls⟩:=zhw hO (zgw hO (tms:=tms) (N:=N) D) f _ st _ rs hev w S0 _ E #[xs[ja]] [] w (zbA avs xs).toArray
  (fun v w'=>w'.os=w.os/\w'.tape=w.tape/\w'.output=w.output/\w.heap.size<=w'.heap.size /\
   (∀b,b<w.heap.size->(∀j,j<(zn avs).length->zN own j->¬ K j b)->w'.heap[b]?=w.heap[b]?) /\
   ∃(ys:List Value) (Kr:Nat->zQ),zcN true w' (zn rs) ys Kr/\v=zhR (zbA rs ys) /\
    (∀i x,i<(zn rs).length->Kr i x->x<w'.heap.size/\((∃j,j<(zn avs).length/\zN own j/\K j x)\/w.heap.size<=x)) /\
    (∀i j x,i<(zn rs).length->j<(zn rs).length->i≠j->Kr i x->¬ Kr j x) /\
    (∀ja2 jr2 js2,some (ja,jr,js)=some (ja2,jr2,js2)->∀t l u,(zn avs)[ja2]?=some (.s t l)->xs[ja2]?=some u->∃l',(zn rs)[jr2]?=some (.s t l')/\ys[jr2]?=some u /\
     ∀p v,zL w t u p=some v->js2.any (fun c=>c.isPrefixOf (cols p))=false->zL w' t u p=some v)) hS (fun n hn h=>by omega)
  (by simp [hl1]) (fun i m v hm hv=>by
   rw [List.getElem?_map,List.getElem?_map] at hm;cases hx:(zcn avs 0)[i]? with
   | none=>rw [hx] at hm;cases hm
   | some x =>
    rw [hx] at hm;cases hm;exact zWb hT (fun a ha=>⟨zrC avs 0 x a (List.mem_of_getElem? hx) ha,fun n hn=>by
     have:=(zeq avs 0 n x a (List.mem_of_getElem? hx) ha hn).2;omega⟩) (hl2 i x v hx (by simpa using hv)))
  (fun m hm n hn=>by
   obtain ⟨m0,hm0,rfl⟩:=List.mem_map.1 hm;obtain ⟨x,hx,rfl⟩:=List.mem_map.1 hm0;obtain ⟨a,ha,hn⟩:=zGK hn;simp only [zbk] at ha;rcases zR8 hn with h|⟨r,h⟩
   ·have:=(zeq avs 0 n x a hx ha h).2;omega
   ·obtain ⟨_,_,_,_,t,l,h5⟩:=hali r n h;exact (List.getElem?_eq_some_iff.1 h5).1)
  (fun U' st' E' w' tvs v hS' _ _ _ hv _ hans=>by
   obtain ⟨us,rfl,hul,huv⟩:=zs6 hv;split at hans
   rotate_left
   ·cases hans
   rename_i n J t' m htm hrm;cases hck:(Nat.beq n m&&(J==js&&decide (t'=kt))) with
   | false=>rw [hck] at hans;cases hans
   | true =>
   rw [hck] at hans;simp only [cond_true] at hans;simp only [Bool.and_eq_true,Nat.beq_eq,beq_iff_eq,decide_eq_true_eq] at hck;obtain ⟨hnm,hJ,ht⟩:=hck;subst hnm hJ ht;obtain ⟨ats,ys,ks,hG,hyl,hyv,rfl,_,hats⟩:=zgg tvs [] rs us hans hul huv;have hM:=hS'.mem;have hget:∀i,i<(zn rs).length->∃a,ats[i]?=some a:=fun i hi=>⟨_,List.getElem?_eq_getElem (by rw [<- hG.len];exact hi)⟩
   have hKr:∀i x,cφ E' ats i x->∃r∈ks,∃R,ats[i]?=some (.sl r [])/\st'.root r=some R/\R.own=true/\E'.φ r x:=by
    intro i x hx;obtain ⟨a,ha,hx⟩:=zpi hx;obtain ⟨r,hr,rfl,hrx⟩:=hG.fi ha hx;obtain ⟨R,hR,ho⟩:=hG.own r hr;exact ⟨r,hr,R,ha,hR,ho,hrx⟩
   refine ⟨hM.os,hM.tape,hM.output,hM.size,fun b hb hnk=>hM.keep b hb (fun ⟨j,hj,ho,hk⟩=>hnk j hj ho hk),ys,cφ E' ats,⟨by rw [hyl,hG.len],fun i c x hc hx=>?_⟩,rfl,fun i x hi hx=>?_,fun i j x hi hj hne hx hx'=>?_,fun ja2 jr2 js2 he t l u hcl hxu=>?_⟩
   ·obtain ⟨a,ha⟩:=hget i (List.getElem?_eq_some_iff.1 hc).1;rw [zfv ha];exact hG.rep hM ha hc (hyv i a x ha hx)
   ·obtain ⟨r,hr,R,_,h1,h2,h4⟩:=hKr i x hx;exact ⟨hM.rlt r R h1 x h4,(hM.mine r R h1 h2).2 x h4⟩
   ·obtain ⟨r,hr,R,g1,h1,h2,h4⟩:=hKr i x hx;obtain ⟨r',hr',R',g1',h1',h2',h4'⟩:=hKr j x hx';have:=hM.own_apart h1 h2 h1' h2' h4 h4';subst this;exact hne (hG.inj i j r g1 g1')
   ·cases he;rw [hkl] at hcl;cases hcl;rw [hju] at hxu;cases hxu;have ha:ats[jr]?=some (.sl n []):=by rw [hats];exact hrm
    rcases hG.get jr _ ha with ⟨_,_,h,_⟩|⟨_,h,_⟩|⟨r,R,h,hR,_,hcs⟩
    ·cases h
    ·cases h
    ·cases h;have hty:=hS'.tm.2 0 (.v (.at (.kp n J t'))) xs[ja] (by rw [htm];rfl) (by simp)
     obtain ⟨e1,e2,e3⟩:=hty.2 R hR;have hyl2:jr<ys.length:=by rw [hyl];exact (List.getElem?_eq_some_iff.1 ha).1
     have hy:=List.getElem?_eq_getElem hyl2;have e4:=(hyv jr _ _ ha hy).2 R hR;simp only [zL,Option.some.injEq] at e4;refine ⟨e1 ▸ R.l,?_,by rw [hy,<- e4,e2],?_⟩
     ·rw [hcs];cases e1;rfl
     ·rw [hM.κ] at e3;exact e3)
 refine hcalls.mono ?_;intro ex w' he;cases ex with
 | returned v=>exact he
 | panicked chain=>exact he.elim
 | outgrown=>exact he.elim
end
def zbE (h:Host):List CV:=[.s (.sl .int) h.Memory,.s .mon h.Mons,.s .entry h.Buffer,.s .entry h.IoBuffer]
def zvJ (c:Ctl):List CV:=[.i .i64 c.Traps,.i .i64 c.Post,.b c.Open]
def ztm (e:GExit):List CV:=[.i .i64 e.Kind,.i .i64 e.Page,.b e.Write,.i .i64 e.N]
structure Cur where
 b:List Int
 i:Int
 h:Int
def zbr (c:Cur):List CV:=[.s .u8 c.b,.i .i64 c.i,.i .i64 c.h]
def zA:List (Nat×Nat×Tmpl)->FuncId->Nat->Option Tmpl
 | [],_,_=>none
 | (g,c,T) :: r,f,b=>cond (Nat.beq g f) (cond (Nat.beq c b) (some T) (zA r f b)) (zA r f b)
def pc (p:Prop):Bool:=@decide p (Classical.propDecidable p)
theorem zJ {p:Prop}:pc p=true↔p:=by
 unfold pc;exact @decide_eq_true_iff p (Classical.propDecidable p)
theorem zbc {p:Prop}(h:p):pc p=true:=zJ.2 h
inductive CVB (K:Nat):CV->Prop
 | i (k:IntKind) (n:Int):CVB K (.i k n)
 | b (x:Bool):CVB K (.b x)
 | s (t:Ty) (l:List t.den) (hl:l.length<=K) (h:∀x∈l,∀c∈t.cells x,CVB K c):CVB K (.s t l)
theorem CVB.inv {K:Nat}{t:Ty}{l:List t.den}(h:CVB K (.s t l)):l.length<=K/\∀x∈l,∀c∈t.cells x,CVB K c:=by
 cases h with
 | s _ _ hl h=>exact ⟨hl,h⟩
theorem CVB.len {K:Nat}{t:Ty}{l:List t.den}(h:CVB K (.s t l)):l.length<=K:=h.inv.1
theorem CVB.mono {K L:Nat}(hKL:K<=L){c:CV}(h:CVB K c):CVB L c:=by
 induction h with
 | i k n=>exact .i k n
 | b x=>exact .b x
 | s t l hl h ih=>exact .s t l (Nat.le_trans hl hKL) ih
theorem CVB.of_rep {o:Bool}{w:World}{v:Value}{c:CV}{S:zQ}(h:Rep o w v c S):CVB big c:=by
 induction h with
 | i k n S=>exact .i k n
 | b x S=>exact .b x
 | nil t S=>exact .s t [] (Nat.zero_le _) (fun x h=>by cases h)
 | void t a S ho=>exact .s t [] (Nat.zero_le _) (fun x h=>by cases h)
 | sl t l b off cap arr e fz V K S hb hfz hlen hcap hsz hS hsub hdis hv hc ih =>
  refine .s t l hlen (fun x hx c hcx=>?_);obtain ⟨i,hi⟩:=List.mem_iff_getElem?.1 hx;obtain ⟨j,hj⟩:=List.mem_iff_getElem?.1 hcx;exact ih i x hi j c hj
theorem CVB.of_ok {c:CV}(h:CVOk c):CVB big c:=by
 induction h with
 | i k n _=>exact .i k n
 | b x=>exact .b x
 | s t l hl h ih =>
  refine .s t l hl (fun x hx c hcx=>?_);obtain ⟨i,hi⟩:=List.mem_iff_getElem?.1 hx;obtain ⟨j,hj⟩:=List.mem_iff_getElem?.1 hcx;exact ih i x hi j c hj
def zci (K:Nat)(avs:List AV):Prop:=∀c∈zn avs,CVB K c
theorem zeN {K:Nat}{a:AV}{avs:List AV}(h:zci K (a :: avs)):(∀c∈a.cvs,CVB K c)/\zci K avs:=by
 unfold zci zn at *;simp only [List.flatMap_cons,List.mem_append] at h;exact ⟨fun c hc=>h c (.inl hc),fun c hc=>h c (.inr hc)⟩
theorem zLV {avs:List AV}(h:∃w xs,zcN false w (zn avs) xs (fun _ b=>b<w.heap.size)):zci big avs:=by
 obtain ⟨w,xs,h1,h2⟩:=h;intro c hc;obtain ⟨i,hi⟩:=List.mem_iff_getElem?.1 hc;have hlt:i<xs.length:=by rw [h1];exact (List.getElem?_eq_some_iff.1 hi).1
 exact CVB.of_rep (h2 i c _ hi (List.getElem?_eq_getElem hlt))
theorem zcX {cs:List CV}{avs:List AV}(h:∃(w:World) (xs:Nat->Value) (K:Nat->zQ),∀(j:Nat) (c:CV),(cs++zn avs)[j]?=some c->Rep false w (xs j) c (K j)):zci big (.agg cs :: avs):=by
 obtain ⟨w,xs,K,h⟩:=h;intro c hc;have e:zn (AV.agg cs :: avs)=cs++zn avs:=by simp [zn,AV.cvs]
 rw [e] at hc;obtain ⟨j,hj⟩:=List.mem_iff_getElem?.1 hc;exact CVB.of_rep (h j c hj)
theorem zdm {b c:Bool}{x y:List CV}{z u:List AV}(h:some (b,x,z)=some (c,y,u)):b=c/\y=x/\u=z:=by
 cases h;exact ⟨rfl,rfl,rfl⟩
theorem zdi {b c:Bool}{x y:List AV}(h:some (b,x)=some (c,y)):b=c/\y=x:=by
 cases h;exact ⟨rfl,rfl⟩
abbrev zS:=List (Nat×(List AV->Option (Bool×List AV)))
def zlX:zS:=[]
theorem zfu:∀f run,zh zlX f=some run->Holds Tryz.prog f run:=fun f run h=>by cases h
abbrev zD (l:zS):Prop:=∀f run,zh l f=some run->Holds Tryz.prog f run
theorem zk {l:zS}{f:Nat}{run:List AV->Option (Bool×List AV)}(h:Holds Tryz.prog f run)(hl:zD l):zD ((f,run) :: l):=by
 intro g r hg;unfold zh at hg;split at hg
 ·rename_i e;cases hg;rw [<- beq_iff_eq.1 e];exact h
 ·exact hl g r hg
abbrev zgf:=List (Nat×(CV->Int->Option (Bool×CV×Int)))
def zj7:zgf:=[]
abbrev ze7 (m:zgf):Prop:=∀f run,zh m f=some run->zBL Tryz.prog f run
theorem zbs:ze7 zj7:=fun f run h=>by cases h
abbrev zc7:=List (Nat×(List Bool×(List CV->List AV->Option (Bool×List CV×List AV))))
def zKS:zc7:=[]
abbrev zct (p:zc7):Prop:=∀f own run,zh p f=some (own,run)->zdS Tryz.prog f own run
theorem zC:zct zKS:=fun f own run h=>by cases h
theorem zfK {l m:zc7}(hm:∀f own run,zh m f=some (own,run)->zdS Tryz.prog f own run)(hl:∀x∈l,zdS Tryz.prog x.1 x.2.1 x.2.2):∀f own run,zh (l++m) f=some (own,run)->zdS Tryz.prog f own run:=by
 intro f own run h;rw [zbp] at h;split at h
 ·rename_i y hy;cases h;exact hl _ (zlR hy)
 ·exact hm f own run h
abbrev zew:=List (Nat×(List Bool×Option (Nat×Nat×List (List Nat))×(List AV->Option (Bool×List AV))))
def zjk:zew:=[]
abbrev zdC (t:zew):Prop:=∀f own inp run,zh t f=some (own,inp,run)->zdd Tryz.prog f own inp run
theorem zB:zdC zjk:=fun f own inp run h=>by cases h
theorem zmD {l m:zew}(hm:∀f own inp run,zh m f=some (own,inp,run)->zdd Tryz.prog f own inp run)(hl:∀x∈l,zdd Tryz.prog x.1 x.2.1 x.2.2.1 x.2.2.2):∀f own inp run,zh (l++m) f=some (own,inp,run)->zdd Tryz.prog f own inp run:=by
 intro f own inp run h;rw [zbp] at h;split at h
 ·rename_i y hy;cases h;exact hl _ (zlR hy)
 ·exact hm f own inp run h
abbrev cQ (c:zS)(m:zgf)(p:zc7)(t:zew):Cfg:=zji (zh c) (zh m) (zh p) (zh t)
theorem zSY {c:zS}{m:zgf}{p:zc7}{t:zew}(o1:zD c)(o2:ze7 m)(o3:zct p)(o4:zdC t){f:FuncId}{run:List AV->Option (Bool×List AV)}(hf:FnOk Tryz.prog f)(h:∀avs rs,zci big avs->run avs=some (true,rs)->∃tms N,evalFn (cQ c m p t) tms N 12 f avs=some rs):Holds Tryz.prog f run :=
 zup (zda o1 o2 o3 o4) hf fun avs rs hr e=>(h avs rs (zLV hr) e).elim fun t x=>x.elim fun N y=>⟨t,N,12,y⟩
noncomputable def zfG (f:FuncId):Bool :=
 match Tryz.prog.funcs[f]? with
 | some fn=>fn.body.isSome && !(fn.name == "runtime.NumGoroutine")
 | none=>false
theorem zeW {f:FuncId}(h:zfG f=true):FnOk Tryz.prog f:=by
 unfold zfG at h;split at h
 ·rename_i fn hf;simp only [Bool.and_eq_true,Bool.not_eq_true'] at h;obtain ⟨b,hb⟩:=Option.isSome_iff_exists.1 h.1;exact ⟨fn,b,hf,hb,h.2⟩
 ·cases h
abbrev oN {α:Type}(c:Bool)(a:Option α):Option α:=bif c then a else none
abbrev nB (c:Bool):Bool:=bif c then false else true
abbrev ti:AT:=.i .i64
structure Dc (α:Type) where
 d:AV->Option α
 e:α->AV
 h:∀{a x},d a=some x->a=e x
abbrev aI (x:Int):AV:=.one (.i .i64 x)
abbrev aB (x:Bool):AV:=.one (.b x)
abbrev aS (t:Ty)(l:List t.den):AV:=.one (.s t l)
abbrev aT (t:Ty)(x:t.den):AV:=.agg (t.cells x)
abbrev aH (h:Host):AV:=.agg (zbE h)
abbrev OA:=Option Ans
abbrev oF:OA:=some [aB false]
abbrev oT:OA:=some [aB true]
abbrev lA:=List GAct
abbrev lB:=List Bool
abbrev lE:=List Entry
abbrev lG:=List Guest
abbrev lI:=List Ins
abbrev lK:=List Kept
abbrev lM:=List (List Int)
abbrev lN:=List Mon
abbrev lP:=List (List Ins)
abbrev lQ:=List (List (List Ins))
abbrev lS:=List Slot
abbrev lT:=List Told
def dI:Dc Int:=⟨fun a=>match a with | .one (.i .i64 x)=>some x|_=>none,aI,fun {a x} h=>by split at h<;>cases h;rfl⟩
def dB:Dc Bool:=⟨fun a=>match a with | .one (.b x)=>some x|_=>none,aB,fun {a x} h=>by split at h<;>cases h;rfl⟩
def dS (t:Ty):Dc (List t.den):=⟨fun a=>match a with | .one (.s t' l)=>if h:t'=t then some (h ▸ l) else none|_=>none,aS t,fun {a x} h=>by
 split at h
 ·rename_i t' l;split at h
  ·rename_i e;subst e;cases h;rfl
  ·cases h
 ·cases h⟩
def dT (t:Ty):Dc t.den:=⟨fun a=>match a with | .agg cs=>t.ofCells cs|_=>none,aT t,fun {a x} h=>by
 split at h
 ·rw [<- zhj h]
 ·cases h⟩
def dH:Dc Host:=⟨fun a=>match a with | .agg [.s (.sl .int) x,.s .mon y,.s .entry z,.s .entry u]=>some ⟨x,y,z,u⟩|_=>none,aH,fun {a x} h=>by split at h<;>cases h;rfl⟩
def dC:Dc Ctl:=⟨fun a=>match a with | .agg [.i .i64 x,.i .i64 y,.b z]=>some ⟨x,y,z⟩|_=>none,fun x=>.agg (zvJ x),fun {a x} h=>by split at h<;>cases h;rfl⟩
def dE:Dc GExit:=⟨fun a=>match a with | .agg [.i .i64 x,.i .i64 y,.b z,.i .i64 u]=>some ⟨x,y,z,u⟩|_=>none,fun x=>.agg (ztm x),fun {a x} h=>by split at h<;>cases h;rfl⟩
abbrev Run:=List AV->Option (Bool×List AV)
def eat {α:Type}(D:Dc α)(k:α->Run):Run
 | []=>none
 | a :: l=>match D.d a with
  | some x=>k x l
  | none=>none
def stop (r:Bool×List AV):Run
 | []=>some r
 | _=>none
theorem zVP {α:Type}{D:Dc α}{k:α->Run}{avs:List AV}{r:Bool×List AV}(h:eat D k avs=some r):∃x l,avs=D.e x :: l/\k x l=some r:=by
 unfold eat at h;split at h
 ·cases h
 ·rename_i a l;split at h
  ·rename_i x hx;exact ⟨x,l,by rw [D.h hx],h⟩
  ·cases h
theorem zTN {q r:Bool×List AV}{avs:List AV}(h:stop q avs=some r):avs=[]/\r=q:=by
 unfold stop at h;split at h<;>cases h;exact ⟨rfl,rfl⟩
theorem zc9 {p:Nat->Prop}(h:∀N,(∀{n:Nat},n<=big->n<N)->p N):∃N,p N:=⟨big+1,h _ fun h=>Nat.lt_succ_of_le h⟩
theorem len0 {t:Ty}{l:List t.den}{r:List AV}(hb:zci big (.one (.s t l) :: r)):l.length<=big:=((zeN hb).1 _ (List.mem_singleton.2 rfl)).len
def Read (c:zS)(m:zgf)(p:zc7)(t:zew)(tms:FuncId->Nat->Option Tmpl)(f:FuncId)(pre:List AV)(r:Run):Prop:=∀avs rs,zci big (pre++avs)->r avs=some (true,rs)->∃N,evalFn (cQ c m p t) tms N 12 f (pre++avs)=some rs
theorem zdP {c:zS}{m:zgf}{p:zc7}{t:zew}{tms:FuncId->Nat->Option Tmpl}{f:FuncId}{pre:List AV}{α:Type}{D:Dc α}{k:α->Run}(h:∀a,Read c m p t tms f (pre++[D.e a]) (k a)):Read c m p t tms f pre (eat D k):=by
 intro avs rs hb e;obtain ⟨x,l,h1,e1⟩:=zVP e;subst h1;have:=h x l rs (by simpa using hb) e1
 simpa using this
theorem zkw {c:zS}{m:zgf}{p:zc7}{t:zew}{tms:FuncId->Nat->Option Tmpl}{f:FuncId}{pre:List AV}{g:Bool×List AV}{E:Nat->OA}(law:zci big pre->g.1=true->∃N,E N=some g.2)(nf:∀N,evalFn (cQ c m p t) tms N 12 f pre=E N):Read c m p t tms f pre (stop g):=by
 intro avs rs hb e;obtain ⟨h1,e1⟩:=zTN e;subst h1;cases g with
 | mk b x =>
  cases e1;rw [List.append_nil] at hb ⊢;obtain ⟨N,e⟩:=law hb rfl;exact ⟨N,(nf N).trans e⟩
theorem zmi {c:zS}{m:zgf}{p:zc7}{t:zew}(o1:zD c)(o2:ze7 m)(o3:zct p)(o4:zdC t){tms:FuncId->Nat->Option Tmpl}{f:FuncId}{r:Run}(hf:zfG f=true)(h:Read c m p t tms f [] r):Holds Tryz.prog f r :=
 zSY o1 o2 o3 o4 (zeW hf) fun avs rs hb e=>(h avs rs hb e).elim fun N x=>⟨tms,N,x⟩
def rF0  (g:Bool×List AV):Run:=stop g
theorem hF0 {c:zS}{m:zgf}{p:zc7}{t:zew}(o1:zD c)(o2:ze7 m)(o3:zct p)(o4:zdC t)(tms:FuncId->Nat->Option Tmpl){g:Bool×List AV}{E:Nat->OA}{f:FuncId}(law:zci big []->g.1=true->∃N,E N=some g.2)(nf:∀N,evalFn (cQ c m p t) tms N 12 f []=E N:=by intros;kernel_rfl)(hf:zfG f=true:=by kernel_rfl):Holds Tryz.prog f (rF0 g) :=
 zmi o1 o2 o3 o4 hf (zkw (fun hb hc=>law hb hc) fun N=>nf N)
theorem kF0 {c:zS}{m:zgf}{p:zc7}{t:zew}(o1:zD c)(o2:ze7 m)(o3:zct p)(o4:zdC t)(tms:FuncId->Nat->Option Tmpl){g:Bool×List AV}{E:Nat->OA}{f:FuncId}(law:g.1=true->∃N,E N=some g.2)(nf:∀N,evalFn (cQ c m p t) tms N 12 f []=E N:=by intros;kernel_rfl)(hf:zfG f=true:=by kernel_rfl):Holds Tryz.prog f (rF0 g):=hF0 o1 o2 o3 o4 tms (fun _=>law) nf hf
def rF1 {A0:Type}(D0:Dc A0)(g:A0->Bool×List AV):Run:=eat D0 fun a0=>stop (g a0)
theorem hF1 {A0:Type}{c:zS}{m:zgf}{p:zc7}{t:zew}(o1:zD c)(o2:ze7 m)(o3:zct p)(o4:zdC t)(tms:FuncId->Nat->Option Tmpl){D0:Dc A0}{g:A0->Bool×List AV}{E:Nat->A0->OA}{f:FuncId}(law:∀a0,zci big [D0.e a0]->(g a0).1=true->∃N,E N a0=some (g a0).2)(nf:∀N a0,evalFn (cQ c m p t) tms N 12 f [D0.e a0]=E N a0:=by intros;kernel_rfl)(hf:zfG f=true:=by kernel_rfl):Holds Tryz.prog f (rF1 D0 g) :=
 zmi o1 o2 o3 o4 hf (zdP fun a0=>zkw (fun hb hc=>law a0 hb hc) fun N=>nf N a0)
theorem kF1 {A0:Type}{c:zS}{m:zgf}{p:zc7}{t:zew}(o1:zD c)(o2:ze7 m)(o3:zct p)(o4:zdC t)(tms:FuncId->Nat->Option Tmpl){D0:Dc A0}{g:A0->Bool×List AV}{E:Nat->A0->OA}{f:FuncId}(law:∀a0,(g a0).1=true->∃N,E N a0=some (g a0).2)(nf:∀N a0,evalFn (cQ c m p t) tms N 12 f [D0.e a0]=E N a0:=by intros;kernel_rfl)(hf:zfG f=true:=by kernel_rfl):Holds Tryz.prog f (rF1 D0 g):=hF1 o1 o2 o3 o4 tms (fun a0 _=>law a0) nf hf
def rF2 {A0 A1:Type}(D0:Dc A0)(D1:Dc A1)(g:A0->A1->Bool×List AV):Run:=eat D0 fun a0=>eat D1 fun a1=>stop (g a0 a1)
theorem hF2 {A0 A1:Type}{c:zS}{m:zgf}{p:zc7}{t:zew}(o1:zD c)(o2:ze7 m)(o3:zct p)(o4:zdC t)(tms:FuncId->Nat->Option Tmpl){D0:Dc A0}{D1:Dc A1}{g:A0->A1->Bool×List AV}{E:Nat->A0->A1->OA}{f:FuncId}(law:∀a0 a1,zci big [D0.e a0,D1.e a1]->(g a0 a1).1=true->∃N,E N a0 a1=some (g a0 a1).2)(nf:∀N a0 a1,evalFn (cQ c m p t) tms N 12 f [D0.e a0,D1.e a1]=E N a0 a1:=by intros;kernel_rfl)(hf:zfG f=true:=by kernel_rfl):Holds Tryz.prog f (rF2 D0 D1 g) :=
 zmi o1 o2 o3 o4 hf (zdP fun a0=>zdP fun a1=>zkw (fun hb hc=>law a0 a1 hb hc) fun N=>nf N a0 a1)
theorem kF2 {A0 A1:Type}{c:zS}{m:zgf}{p:zc7}{t:zew}(o1:zD c)(o2:ze7 m)(o3:zct p)(o4:zdC t)(tms:FuncId->Nat->Option Tmpl){D0:Dc A0}{D1:Dc A1}{g:A0->A1->Bool×List AV}{E:Nat->A0->A1->OA}{f:FuncId}(law:∀a0 a1,(g a0 a1).1=true->∃N,E N a0 a1=some (g a0 a1).2)(nf:∀N a0 a1,evalFn (cQ c m p t) tms N 12 f [D0.e a0,D1.e a1]=E N a0 a1:=by intros;kernel_rfl)(hf:zfG f=true:=by kernel_rfl):Holds Tryz.prog f (rF2 D0 D1 g):=hF2 o1 o2 o3 o4 tms (fun a0 a1 _=>law a0 a1) nf hf
def rF3 {A0 A1 A2:Type}(D0:Dc A0)(D1:Dc A1)(D2:Dc A2)(g:A0->A1->A2->Bool×List AV):Run:=eat D0 fun a0=>eat D1 fun a1=>eat D2 fun a2=>stop (g a0 a1 a2)
theorem hF3 {A0 A1 A2:Type}{c:zS}{m:zgf}{p:zc7}{t:zew}(o1:zD c)(o2:ze7 m)(o3:zct p)(o4:zdC t)(tms:FuncId->Nat->Option Tmpl){D0:Dc A0}{D1:Dc A1}{D2:Dc A2}{g:A0->A1->A2->Bool×List AV}{E:Nat->A0->A1->A2->OA}{f:FuncId}(law:∀a0 a1 a2,zci big [D0.e a0,D1.e a1,D2.e a2]->(g a0 a1 a2).1=true->∃N,E N a0 a1 a2=some (g a0 a1 a2).2)(nf:∀N a0 a1 a2,evalFn (cQ c m p t) tms N 12 f [D0.e a0,D1.e a1,D2.e a2]=E N a0 a1 a2:=by intros;kernel_rfl)(hf:zfG f=true:=by kernel_rfl):Holds Tryz.prog f (rF3 D0 D1 D2 g) :=
 zmi o1 o2 o3 o4 hf (zdP fun a0=>zdP fun a1=>zdP fun a2=>zkw (fun hb hc=>law a0 a1 a2 hb hc) fun N=>nf N a0 a1 a2)
theorem kF3 {A0 A1 A2:Type}{c:zS}{m:zgf}{p:zc7}{t:zew}(o1:zD c)(o2:ze7 m)(o3:zct p)(o4:zdC t)(tms:FuncId->Nat->Option Tmpl){D0:Dc A0}{D1:Dc A1}{D2:Dc A2}{g:A0->A1->A2->Bool×List AV}{E:Nat->A0->A1->A2->OA}{f:FuncId}(law:∀a0 a1 a2,(g a0 a1 a2).1=true->∃N,E N a0 a1 a2=some (g a0 a1 a2).2)(nf:∀N a0 a1 a2,evalFn (cQ c m p t) tms N 12 f [D0.e a0,D1.e a1,D2.e a2]=E N a0 a1 a2:=by intros;kernel_rfl)(hf:zfG f=true:=by kernel_rfl):Holds Tryz.prog f (rF3 D0 D1 D2 g):=hF3 o1 o2 o3 o4 tms (fun a0 a1 a2 _=>law a0 a1 a2) nf hf
def rF4 {A0 A1 A2 A3:Type}(D0:Dc A0)(D1:Dc A1)(D2:Dc A2)(D3:Dc A3)(g:A0->A1->A2->A3->Bool×List AV):Run:=eat D0 fun a0=>eat D1 fun a1=>eat D2 fun a2=>eat D3 fun a3=>stop (g a0 a1 a2 a3)
theorem hF4 {A0 A1 A2 A3:Type}{c:zS}{m:zgf}{p:zc7}{t:zew}(o1:zD c)(o2:ze7 m)(o3:zct p)(o4:zdC t)(tms:FuncId->Nat->Option Tmpl){D0:Dc A0}{D1:Dc A1}{D2:Dc A2}{D3:Dc A3}{g:A0->A1->A2->A3->Bool×List AV}{E:Nat->A0->A1->A2->A3->OA}{f:FuncId}(law:∀a0 a1 a2 a3,zci big [D0.e a0,D1.e a1,D2.e a2,D3.e a3]->(g a0 a1 a2 a3).1=true->∃N,E N a0 a1 a2 a3=some (g a0 a1 a2 a3).2)(nf:∀N a0 a1 a2 a3,evalFn (cQ c m p t) tms N 12 f [D0.e a0,D1.e a1,D2.e a2,D3.e a3]=E N a0 a1 a2 a3:=by intros;kernel_rfl)(hf:zfG f=true:=by kernel_rfl):Holds Tryz.prog f (rF4 D0 D1 D2 D3 g) :=
 zmi o1 o2 o3 o4 hf (zdP fun a0=>zdP fun a1=>zdP fun a2=>zdP fun a3=>zkw (fun hb hc=>law a0 a1 a2 a3 hb hc) fun N=>nf N a0 a1 a2 a3)
theorem kF4 {A0 A1 A2 A3:Type}{c:zS}{m:zgf}{p:zc7}{t:zew}(o1:zD c)(o2:ze7 m)(o3:zct p)(o4:zdC t)(tms:FuncId->Nat->Option Tmpl){D0:Dc A0}{D1:Dc A1}{D2:Dc A2}{D3:Dc A3}{g:A0->A1->A2->A3->Bool×List AV}{E:Nat->A0->A1->A2->A3->OA}{f:FuncId}(law:∀a0 a1 a2 a3,(g a0 a1 a2 a3).1=true->∃N,E N a0 a1 a2 a3=some (g a0 a1 a2 a3).2)(nf:∀N a0 a1 a2 a3,evalFn (cQ c m p t) tms N 12 f [D0.e a0,D1.e a1,D2.e a2,D3.e a3]=E N a0 a1 a2 a3:=by intros;kernel_rfl)(hf:zfG f=true:=by kernel_rfl):Holds Tryz.prog f (rF4 D0 D1 D2 D3 g):=hF4 o1 o2 o3 o4 tms (fun a0 a1 a2 a3 _=>law a0 a1 a2 a3) nf hf
def rF5 {A0 A1 A2 A3 A4:Type}(D0:Dc A0)(D1:Dc A1)(D2:Dc A2)(D3:Dc A3)(D4:Dc A4)(g:A0->A1->A2->A3->A4->Bool×List AV):Run:=eat D0 fun a0=>eat D1 fun a1=>eat D2 fun a2=>eat D3 fun a3=>eat D4 fun a4=>stop (g a0 a1 a2 a3 a4)
theorem hF5 {A0 A1 A2 A3 A4:Type}{c:zS}{m:zgf}{p:zc7}{t:zew}(o1:zD c)(o2:ze7 m)(o3:zct p)(o4:zdC t)(tms:FuncId->Nat->Option Tmpl){D0:Dc A0}{D1:Dc A1}{D2:Dc A2}{D3:Dc A3}{D4:Dc A4}{g:A0->A1->A2->A3->A4->Bool×List AV}{E:Nat->A0->A1->A2->A3->A4->OA}{f:FuncId}(law:∀a0 a1 a2 a3 a4,zci big [D0.e a0,D1.e a1,D2.e a2,D3.e a3,D4.e a4]->(g a0 a1 a2 a3 a4).1=true->∃N,E N a0 a1 a2 a3 a4=some (g a0 a1 a2 a3 a4).2)(nf:∀N a0 a1 a2 a3 a4,evalFn (cQ c m p t) tms N 12 f [D0.e a0,D1.e a1,D2.e a2,D3.e a3,D4.e a4]=E N a0 a1 a2 a3 a4:=by intros;kernel_rfl)(hf:zfG f=true:=by kernel_rfl):Holds Tryz.prog f (rF5 D0 D1 D2 D3 D4 g) :=
 zmi o1 o2 o3 o4 hf (zdP fun a0=>zdP fun a1=>zdP fun a2=>zdP fun a3=>zdP fun a4=>zkw (fun hb hc=>law a0 a1 a2 a3 a4 hb hc) fun N=>nf N a0 a1 a2 a3 a4)
theorem kF5 {A0 A1 A2 A3 A4:Type}{c:zS}{m:zgf}{p:zc7}{t:zew}(o1:zD c)(o2:ze7 m)(o3:zct p)(o4:zdC t)(tms:FuncId->Nat->Option Tmpl){D0:Dc A0}{D1:Dc A1}{D2:Dc A2}{D3:Dc A3}{D4:Dc A4}{g:A0->A1->A2->A3->A4->Bool×List AV}{E:Nat->A0->A1->A2->A3->A4->OA}{f:FuncId}(law:∀a0 a1 a2 a3 a4,(g a0 a1 a2 a3 a4).1=true->∃N,E N a0 a1 a2 a3 a4=some (g a0 a1 a2 a3 a4).2)(nf:∀N a0 a1 a2 a3 a4,evalFn (cQ c m p t) tms N 12 f [D0.e a0,D1.e a1,D2.e a2,D3.e a3,D4.e a4]=E N a0 a1 a2 a3 a4:=by intros;kernel_rfl)(hf:zfG f=true:=by kernel_rfl):Holds Tryz.prog f (rF5 D0 D1 D2 D3 D4 g):=hF5 o1 o2 o3 o4 tms (fun a0 a1 a2 a3 a4 _=>law a0 a1 a2 a3 a4) nf hf
theorem zgv {avs:List AV}(h:∃(w:World) (xs:Nat->Value) (K:Nat->zQ),∀(j:Nat) (c:CV),(zn avs)[j]?=some c->Rep false w (xs j) c (K j)):zci big avs:=by
 obtain ⟨w,xs,K,h⟩:=h;intro c hc;obtain ⟨j,hj⟩:=List.mem_iff_getElem?.1 hc;exact CVB.of_rep (h j c hj)
theorem cT {α:Type}(x y:α):(cond true x y)=x:=by simp
theorem cF {α:Type}(x y:α):(cond false x y)=y:=by simp
theorem zr9:big=140737488355328:=rfl
theorem zo8 {x:Int}(h1 : -9223372036854775808<=x)(h2:x<=9223372036854775807):IntKind.i64.wrap x=x:=by
 simp only [IntKind.wrap,IntKind.signed,IntKind.bits];simp;omega
theorem zhP {x y:Int}(h1 : -9223372036854775808<=x+y)(h2:x+y<=9223372036854775807):zK .i64 x y=x+y:=zo8 h1 h2
theorem zxV {x y:Int}(h1 : -9223372036854775808<=x-y)(h2:x-y<=9223372036854775807):wsub .i64 x y=x-y:=zo8 h1 h2
theorem zbu {i n:Nat}(h:i<n)(hn:n<=big):zK .i64 (i:Int) 1=((i+1:Nat):Int):=by
 rw [zr9] at hn;rw [zhP (by omega) (by omega)]
 omega
section
variable {α:Type}
theorem zcb {l:List α}{i:Nat}(h:i<l.length):ilt (i:Int) (ln l)=true:=by
 unfold ilt ln;exact decide_eq_true (by omega)
theorem zb6 {l:List α}:ilt ((l.length:Nat):Int) (ln l)=false:=by
 unfold ilt ln;exact decide_eq_false (by omega)
theorem zbx {l:List α}{i:Nat}(h:i<l.length):inb (i:Int) (ln l)=true:=by
 unfold inb ln;exact decide_eq_true (by omega)
theorem zbF {l:List α}{i:Nat}(h:i<l.length)(d:α):ix l (i:Int) d=l[i]:=by
 unfold ix;simp [List.getD,List.getElem?_eq_getElem h]
theorem zf0 {l:List α}(h:l.length<=2147483648):few (ln l)=true:=by
 unfold few ln;exact decide_eq_true (by omega)
theorem ztz (x:Int):ieq x x=true:=by simp [ieq]
end
theorem zc6 {σ ρ:Type}(n:Nat)(F:(σ->Option ρ)->σ->Option ρ)(s:σ):iter (n+1) F s=F (iter n F) s:=rfl
def goL {α τ ρ:Type}(body:Nat->α->τ->(τ->Option ρ)->Option ρ)(K:τ->Option ρ):List α->Nat->τ->Option ρ
 | [],_,t=>K t
 | x :: l,i,t=>body i x t (goL body K l (i+1))
theorem zby {α τ ρ σ:Type}(l:List α)(st:Nat->τ->σ)(F:(σ->Option ρ)->σ->Option ρ)(body:Nat->α->τ->(τ->Option ρ)->Option ρ)(K:τ->Option ρ)(hstep:∀(i:Nat) (hi:i<l.length) (t:τ) (rec:σ->Option ρ),F rec (st i t)=body i l[i] t (fun t'=>rec (st (i+1) t')))(hend:∀(t:τ) (rec:σ->Option ρ),F rec (st l.length t)=K t) :
 ∀(N:Nat) (t:τ),l.length<N->iter N F (st 0 t)=goL body K l 0 t:=by
 have key:∀(m i N:Nat) (t:τ),l.length-i=m->i<=l.length->m<N->iter N F (st i t)=goL body K (l.drop i) i t:=by
  intro m
  induction m with
  | zero =>
   intro i N t hm hi hN;have:i=l.length:=by omega
   subst this;obtain ⟨n,rfl⟩:∃n,N=n+1:=⟨N-1,by omega⟩
   rw [zc6,hend,List.drop_length];rfl
  | succ m ih =>
   intro i N t hm hi hN;obtain ⟨n,rfl⟩:∃n,N=n+1:=⟨N-1,by omega⟩
   have hlt:i<l.length:=by omega
   rw [zc6,hstep i hlt,List.drop_eq_getElem_cons hlt];simp only [goL]
   congr 1
   funext t'
   exact ih (i+1) n t' (by omega) (by omega) (by omega)
 intro N t hN;have:=key l.length 0 N t (by omega) (Nat.zero_le _) hN
 simpa using this
def goN {τ ρ:Type}(body:Nat->τ->(τ->Option ρ)->Option ρ)(K:τ->Option ρ):Nat->Nat->τ->Option ρ
 | 0,_,t=>K t
 | n+1,i,t=>body i t (goN body K n (i+1))
theorem zAM {τ ρ σ:Type}(n:Nat)(st:Nat->τ->σ)(F:(σ->Option ρ)->σ->Option ρ)(body:Nat->τ->(τ->Option ρ)->Option ρ)(K:τ->Option ρ)(hstep:∀(i:Nat) (hi:i<n) (t:τ) (rec:σ->Option ρ),F rec (st i t)=body i t (fun t'=>rec (st (i+1) t')))(hend:∀(t:τ) (rec:σ->Option ρ),F rec (st n t)=K t) :
 ∀(N:Nat) (t:τ),n<N->iter N F (st 0 t)=goN body K n 0 t:=by
 have key:∀(m i N:Nat) (t:τ),n-i=m->i<=n->m<N->iter N F (st i t)=goN body K (n-i) i t:=by
  intro m
  induction m with
  | zero =>
   intro i N t hm hi hN;have:i=n:=by omega
   subst this;obtain ⟨k,rfl⟩:∃k,N=k+1:=⟨N-1,by omega⟩
   rw [zc6,hend,Nat.sub_self];rfl
  | succ m ih =>
   intro i N t hm hi hN;obtain ⟨k,rfl⟩:∃k,N=k+1:=⟨N-1,by omega⟩
   have hlt:i<n:=by omega
   have e:n-i=(n-(i+1))+1:=by omega
   rw [zc6,hstep i hlt,e];simp only [goN]
   congr 1
   funext t'
   exact ih (i+1) k t' (by omega) (by omega) (by omega)
 intro N t hN;have:=key n 0 N t (by omega) (Nat.zero_le _) hN
 simpa using this
def sm:Nat:=1048576
theorem zc0 {n:Nat}(h:n<=sm):n<=big/\n<=2147483648:=by
 unfold sm at h;rw [zr9];omega
def hasB (i n:Int):Bool:=decide (0<=i/\i<n)
theorem has_eq (i n:Int):(ige i 0&&ilt i n)=hasB i n:=by
 unfold ige ilt hasB
 by_cases h1:0<=i<;>by_cases h2:i<n<;>simp [h1,h2]
theorem zx {i n:Int}(h:hasB i n=true):inb i n=true:=h
theorem zex {i:Int}{n:Nat}(h:hasB i n=true):∃k:Nat,i=k/\k<n:=by
 have:0<=i/\i<n:=of_decide_eq_true h;exact ⟨i.toNat,by omega,by omega⟩
theorem zbj {α:Type}{l:List α}{i:Int}(h:hasB i (ln l)=true)(d:α):ix l i d∈l:=by
 obtain ⟨k,rfl,hk⟩:=zex (n:=l.length) h;rw [zbF hk];exact List.getElem_mem hk
theorem zjs {α:Type}(l:List α):ap [] l=l:=rfl
theorem zpb {α ρ:Type}(c:α->Bool)(f:α->α)(K:List α->Option ρ):∀(l:List α) (i:Nat) (acc:List α),(∀x∈l,c x=true/\f x=x)->acc.length+l.length<=2147483648 ->
 goL (fun _ x acc k=>bif c x then (cond (few (ln (ap acc [f x]))) (k (ap acc [f x])) none) else none) K l i acc=K (acc++l)
 | [],i,acc,_,_=>by simp [goL]
 | x :: l,i,acc,h,hn=>by
  obtain ⟨h1,h2⟩:=h x (by simp)
  simp only [List.length_cons] at hn;simp only [goL,h1,h2,cT];rw [zf0 (by simp [ap];omega),cT,zpb c f K l (i+1) _ (fun y hy=>h y (by simp [hy])) (by simp [ap];omega)]
  simp [ap]
def zb3 (h:Host):Prop:=∀c∈zbE h,CVB sm c
theorem zb3.mem {h:Host}(hs:zb3 h):CVB sm (.s (.sl .int) h.Memory):=hs _ (by simp [zbE])
theorem zb3.mons {h:Host}(hs:zb3 h):CVB sm (.s .mon h.Mons):=hs _ (by simp [zbE])
theorem zjt {t:Ty}{l:List t.den}(h:CVB sm (.s t l)):few (ln l)=true:=zf0 (zc0 h.len).2
def zkY (h:Host)(m:Int):Mon:=bif hasB m (ln h.Mons) then ix h.Mons m zf else Ty.dflt .mon
def zlS (p:Nat->Bool):Nat->Nat->Bool
 | 0,_=>true
 | n+1,i=>p i&&zlS p n (i+1)
theorem zEl {ρ:Type}(p:Nat->Bool)(r:Option ρ)(K:Unit->Option ρ):∀(n i:Nat),goN (fun i (_:Unit) k=>bif p i then k () else r) K n i ()=bif zlS p n i then K () else r
 | 0,_=>rfl
 | n+1,i=>by
  simp only [goN,zlS];cases p i
  ·rfl
  ·simp only [cT,Bool.true_and];exact zEl p r K n (i+1)
theorem zNt {α τ ρ:Type}(b:Nat->τ->(τ->Option ρ)->Option ρ)(K:τ->Option ρ):∀(l:List α) (i:Nat) (t:τ),goL (fun i _ t k=>b i t k) K l i t=goN b K l.length i t
 | [],_,_=>rfl
 | _ :: l,i,t=>by
  have ih:goL (fun i _ t k=>b i t k) K l (i+1)=goN b K l.length (i+1):=funext fun t=>zNt b K l (i+1) t;simp only [goL,List.length_cons,goN,ih]
theorem zl2 {α ρ:Type}(p:α->Bool)(r:Option ρ)(K:Unit->Option ρ):∀(l:List α) (i:Nat),goL (fun _ x (_:Unit) k=>bif p x then k () else r) K l i ()=bif l.all p then K () else r
 | [],_=>rfl
 | x :: l,i=>by
  simp only [goL,List.all_cons];cases p x
  ·rfl
  ·simp only [cT,Bool.true_and];exact zl2 p r K l (i+1)
theorem zC4 {n:Nat}(hn:n<=big)(i:Int):(ige i 0&&ile i (wsub .i64 (n:Int) 1))=hasB i n:=by
 rw [zr9] at hn;rw [zxV (by omega) (by omega)]
 unfold ige ile hasB
 by_cases h1:0<=i<;>by_cases h2:i<n
 ·rw [decide_eq_true (p:=i≥0) (by omega),decide_eq_true (p:=i<=(n:Int)-1) (by omega),decide_eq_true (p:=0<=i/\i<(n:Int)) ⟨h1,h2⟩];rfl
 ·rw [decide_eq_false (p:=i<=(n:Int)-1) (by omega),decide_eq_false (p:=0<=i/\i<(n:Int)) (by omega)];simp
 ·rw [decide_eq_false (p:=i≥0) (by omega),decide_eq_false (p:=0<=i/\i<(n:Int)) (by omega)];simp
 ·rw [decide_eq_false (p:=i≥0) (by omega),decide_eq_false (p:=0<=i/\i<(n:Int)) (by omega)];simp
theorem zxH {σ ρ τ:Type}(n:Nat)(st:Nat->τ->σ)(F:(σ->Option ρ)->σ->Option ρ)(I:Nat->τ->Prop)(res:Nat->τ->Option ρ)(hstep:∀(i:Nat) (t:τ) (rec:σ->Option ρ),i<n->I i t->(∀t',I (i+1) t'->rec (st (i+1) t')=res (i+1) t')->F rec (st i t)=res i t)(hend:∀(t:τ) (rec:σ->Option ρ),I n t->F rec (st n t)=res n t):∀(N i:Nat) (t:τ),I i t->i<=n->n-i<N->iter N F (st i t)=res i t:=by
 have key:∀(m N i:Nat) (t:τ),n-i=m->I i t->i<=n->m<N->iter N F (st i t)=res i t:=by
  intro m
  induction m with
  | zero =>
   intro N i t hm hI hi hN;obtain ⟨k,rfl⟩:∃k,N=k+1:=⟨N-1,by omega⟩
   have:i=n:=by omega
   subst this;rw [zc6];exact hend t _ hI
  | succ m ih =>
   intro N i t hm hI hi hN;obtain ⟨k,rfl⟩:∃k,N=k+1:=⟨N-1,by omega⟩
   rw [zc6];exact hstep i t _ (by omega) hI (fun t' hI'=>ih k (i+1) t' (by omega) hI' (by omega) (by omega))
 intro N i t hI hi hN;exact key (n-i) N i t rfl hI hi hN
section
variable {α:Type}
theorem zN6 {l:List α}{i:Nat}(h:i<l.length)(d:α):up l (i:Int) (ix l (i:Int) d)=l:=by
 rw [zbF h];unfold up;apply List.ext_getElem?;intro k;rw [List.getElem?_set];have e:(i:Int).toNat=i:=by omega
 rw [e]
 by_cases hk:i=k
 ·subst hk;simp [h]
 ·simp [hk]
theorem zeY {l:List α}{i:Nat}(h:i<l.length)(x d:α):ix (up l (i:Int) x) (i:Int) d=x:=by
 unfold ix up;have e:(i:Int).toNat=i:=by omega
 rw [e];simp [List.getD,h]
theorem zxT (l:List α)(i:Int)(x y:α):up (up l i x) i y=up l i y:=by
 unfold up;simp
theorem zXe {l:List α}{i k:Nat}(h:i<k)(x:α):(up l (i:Int) x)[k]?=l[k]?:=by
 unfold up;have e:(i:Int).toNat=i:=by omega
 rw [e,List.getElem?_set,if_neg (by omega)]
end
def Ends {ρ:Type}(G:ρ->Prop)(o:Option ρ):Prop:=∃a,o=some a/\G a
section
variable {ρ:Type} {G:ρ->Prop}
theorem zbB {c:Bool}{a b:Option ρ}(h:c=true)(k:Ends G a):Ends G (cond c a b):=by rw [h];exact k
theorem zxw {c:Bool}{a b:Option ρ}(h:c=false)(k:Ends G b):Ends G (cond c a b):=by rw [h];exact k
theorem zcP {c:Bool}{a b:Option ρ}(h1:c=true->Ends G a)(h2:c=false->Ends G b):Ends G (cond c a b):=by
 cases c
 ·exact h2 rfl
 ·exact h1 rfl
theorem zj3 {x:Option ρ}{f:Option ρ->Option ρ}(h:Ends G x)(k:∀t,Ends G t->Ends G (f t)):Ends G (share x f):=k x h
theorem zB5 {a:ρ}(h:G a):Ends G (some a):=⟨a,rfl,h⟩
theorem zse {σ:Type}{F:(σ->Option ρ)->σ->Option ρ}(I:Nat->σ->Prop)(h:∀n s rec,I n s->(∀k s',k<n->I k s'->Ends G (rec s'))->Ends G (F rec s)):∀(N n:Nat) (s:σ),I n s->n<N->Ends G (iter N F s)
 | 0,n,s,_,hn=>absurd hn (Nat.not_lt_zero n)
 | N+1,n,s,hI,hn=>h n s (iter N F) hI fun k s' hk hs=>zse I h N k s' hs (by omega)
theorem zVS {G:Ans->Prop}{o:OA}{r:Ans}(h:Ends (fun a=>a=r) o):o=some r:=by
 obtain ⟨a,h1,h2⟩:=h;rw [h1,h2]
end
instance:Inhabited Cur:=⟨⟨[],0,0⟩⟩
instance:Inhabited Ins:=⟨⟨0,0⟩⟩
instance:Inhabited GAct:=⟨⟨0,0,0,0,0,0⟩⟩
instance:Inhabited Ctl:=⟨⟨0,0,false⟩⟩
instance:Inhabited Host:=⟨⟨[],[],[],[]⟩⟩
def zc2 (c:Cur):Prop:=0<=c.i/\c.b.length<=big
theorem ziI {T:Type}(av:T->AV){good:T->Prop}{b:List Int}{x y:Int}{v:T}(h:0<=x)(g:good v):Ends (fun a=>∃s v0,a=(AV.agg (zbr s) :: [av v0])/\(s.b=b/\0<=s.i)/\good v0) (some (AV.agg [.s .u8 b,.i .i64 x,.i .i64 y] :: [av v])) :=
 ⟨_,rfl,⟨b,x,y⟩,v,rfl,⟨rfl,h⟩,g⟩
def zjl (N:Nat)(c:Cur)  : OA :=
 let y0:=(zK .i64 (zlM .i64 c.h 6364136223846793005) 1442695040888963407);let y1:=(wand .i64 (zTX .i64 (zxl .i64 y0 33) (zxl .i64 y0 45)) 255); (oN (ile 0 33) (oN (ile 0 45) (cond (ilt c.i (ln c.b)) (oN (inb c.i (ln c.b)) (some [(.agg [(.s .u8 c.b),(.i .i64 (zK .i64 c.i 1)),(.i .i64 y0)]),(aI (wand .i64 (zK .i64 y1 (wcv .i64 (ix c.b c.i 0))) 255))])) (some [(.agg [(.s .u8 c.b),(.i .i64 c.i),(.i .i64 y0)]),(aI y1)]))))
theorem zKI (N:Nat)(c:Cur)  : zhS (cQ zlX zj7 zKS zjk) (zA []) N 12 50 [false,true,true] (zbr c) []=zjl N c:=by kernel_rfl
def ziq (c:Cur)(s:Cur)(v0:Int):Prop:=(∃N,zjl N c=some (AV.agg (zbr s) :: [aI v0]))/\(s.b=c.b/\0<=s.i)/\(0<=v0/\v0<=255)
def zcF (c:Cur)  : Bool:=pc (∃s v0,ziq c s v0)
def znn (c:Cur)  : Cur×Int:=Classical.epsilon fun r=>ziq c r.1 r.2
def zb0 (c:Cur)  : Cur:=bif zcF c then (znn c).1 else ⟨[],0,0⟩
def zes (c:Cur)  : Int:=(znn c).2
theorem zhL {c:Cur}(h:zcF c=true):ziq c (zb0 c) (zes c):=by
 obtain ⟨s,v0,h2⟩:=zJ.1 h;have h3:ziq c (znn c).1 (znn c).2:=Classical.epsilon_spec (p:=fun r=>ziq c r.1 r.2) ⟨(s,v0),h2⟩;unfold zb0;rw [h,cT];exact h3
theorem zjI (c:Cur)  : 0<=(zb0 c).i:=by
 unfold zb0;cases h:zcF c with
 | false=>exact Int.le_refl 0
 | true =>
  have:=(zhL h).2.1.2;unfold zb0 at this
  rwa [h] at this
theorem zMN (c:Cur)(h:∃N,Ends (fun a=>∃s v0,a=(AV.agg (zbr s) :: [aI v0])/\(s.b=c.b/\0<=s.i)/\(0<=v0/\v0<=255)) (zjl N c)):zcF c=true:=by
 obtain ⟨N,a,e,s,v0,rfl,h⟩:=h;exact zbc ⟨s,v0,⟨N,e⟩,h⟩
def zmd:List CV->List AV->Option (Bool×List CV×List AV)
 | [.s .u8 b,.i .i64 c,.i .i64 d],[]=>some ((zcF (⟨b,c,d⟩:Cur)),zbr (zb0 (⟨b,c,d⟩:Cur)),[aI (zes (⟨b,c,d⟩:Cur))])
 | _,_=>none
theorem zHZ (c:Cur)(hb:zci big (.agg (zbr c) :: []))(hc:(zcF c)=true):∃N,zjl N c=some (.agg (zbr (zb0 c)) :: [aI (zes c)]):=by
 exact (zhL hc).1
theorem zCL:zdS Tryz.prog 50 [false,true,true] zmd:=by
 refine zcD (zda zfu zbs zC zB) (zeW (by kernel_rfl)) ?_
 intro cs avs cs' rs hl hr h;have hb:=zcX hr;unfold zmd at h;split at h
 ·obtain ⟨hc,rfl,rfl⟩:=zdm h;obtain ⟨N,hN⟩:=zHZ _ (by exact hb) hc
  exact ⟨rfl,_,N,12,(zKI N _ ).trans hN⟩
 ·cases h
theorem zHa {x m:Int}(h0:0<=m)(h1:m<9223372036854775808):0<=wand .i64 x m/\wand .i64 x m<=m:=by
 have hm:(BitVec.ofInt 64 m).toNat=m.toNat:=by
  rw [BitVec.toNat_ofInt];omega
 have hle:(BitVec.ofInt 64 x &&& BitVec.ofInt 64 m).toNat<=m.toNat:=by
  rw [BitVec.toNat_and,hm];exact Nat.and_le_right
 unfold wand
 show 0<=IntKind.wrap .i64 ((BitVec.ofInt 64 x &&& BitVec.ofInt 64 m).toNat:Int)/\IntKind.wrap .i64 ((BitVec.ofInt 64 x &&& BitVec.ofInt 64 m).toNat:Int)<=m
 rw [zo8 (by omega) (by omega)]
 omega
@[simp] theorem zBV {c:Cur}(h:zc2 c):zcF c=true:=by
 refine zMN c ⟨0,?_⟩;unfold zjl oN
 conv=>zeta
 refine zbB rfl (zbB rfl (zcP (fun h0=>zbB (decide_eq_true ⟨h.1,of_decide_eq_true h0⟩) (ziI aI ?_ (zHa (by omega) (by omega)))) (fun _=>ziI aI h.1 (zHa (by omega) (by omega)))))
 have h1:c.i<ln c.b:=of_decide_eq_true h0;have h2:=h.2;have h3:=h.1;rw [zr9] at h2;unfold ln at h1;rw [zhP (by omega) (by omega)]
 omega
def zPd:zc7:=[(50,([false,true,true],zmd))]++zKS
theorem zKT:zct zPd:=zfK zC (by
 intro x hx;simp only [List.mem_cons,List.not_mem_nil,or_false] at hx;rcases hx with rfl
 ·exact zCL)
theorem zAe {b:List Int}{i h:Int}(h0:0<=i)(hb:b.length<=big):zc2 ⟨b,i,h⟩:=⟨h0,hb⟩
theorem zOa {x n:Int}(h0:0<=x)(hn:0<n):0<=zmG x n/\zmG x n<n:=by
 unfold zmG;exact ⟨Int.tmod_nonneg _ h0,Int.tmod_lt_of_pos _ hn⟩
def zhY (N:Nat)(c:Cur)(a0:Int):OA :=
 let y2:=({ (zb0 c) with b:=c.b }:Cur);let y0:=({ (zb0 y2) with b:=c.b }:Cur);let y1:=({ (zb0 y0) with b:=c.b }:Cur); (cond (ile a0 0) (some [(.agg [(.s .u8 c.b),(.i .i64 c.i),(.i .i64 c.h)]),(aI 0)]) (cond (ile a0 256) (oN (zcF c) (oN (ine a0 0) (some [(.agg [(.s .u8 c.b),(.i .i64 (zb0 c).i),(.i .i64 (zb0 c).h)]),(aI (zmG (zes c) a0))]))) (oN (zcF c) (oN (zcF y2) (oN (zcF y0) (oN (zcF y1) (oN (ine a0 0) (some [(.agg [(.s .u8 c.b),(.i .i64 (zb0 y1).i),(.i .i64 (zb0 y1).h)]),(aI (zmG (zK .i64 (zK .i64 (zK .i64 (zlM .i64 (zes c) 16777216) (zlM .i64 (zes y2) 65536)) (zlM .i64 (zes y0) 256)) (zes y1)) a0))]))))))))
theorem zIh (N:Nat)(c:Cur)(a0:Int):zhS (cQ zlX zj7 zPd zjk) (zA []) N 12 25 [false,true,true] (zbr c) [aI a0]=zhY N c a0:=by kernel_rfl
def zhp (c:Cur)(a0:Int)(s:Cur)(v0:Int):Prop:=(∃N,zhY N c a0=some (AV.agg (zbr s) :: [aI v0]))/\(s.b=c.b/\0<=s.i)/\((0<a0->0<=v0/\v0<a0))
def zV (c:Cur)(a0:Int):Bool:=pc (∃s v0,zhp c a0 s v0)
def zlE (c:Cur)(a0:Int):Cur×Int:=Classical.epsilon fun r=>zhp c a0 r.1 r.2
def zu (c:Cur)(a0:Int):Cur:=bif zV c a0 then (zlE c a0).1 else ⟨[],0,0⟩
def zW (c:Cur)(a0:Int):Int:=(zlE c a0).2
theorem zlD {c:Cur}{a0:Int}(h:zV c a0=true):zhp c a0 (zu c a0) (zW c a0):=by
 obtain ⟨s,v0,h2⟩:=zJ.1 h;have h3:zhp c a0 (zlE c a0).1 (zlE c a0).2:=Classical.epsilon_spec (p:=fun r=>zhp c a0 r.1 r.2) ⟨(s,v0),h2⟩;unfold zu;rw [h,cT];exact h3
theorem zcj (c:Cur)(a0:Int):0<=(zu c a0).i:=by
 unfold zu;cases h:zV c a0 with
 | false=>exact Int.le_refl 0
 | true =>
  have:=(zlD h).2.1.2;unfold zu at this
  rwa [h] at this
theorem zLc (c:Cur)(a0:Int)(h:∃N,Ends (fun a=>∃s v0,a=(AV.agg (zbr s) :: [aI v0])/\(s.b=c.b/\0<=s.i)/\((0<a0->0<=v0/\v0<a0))) (zhY N c a0)):zV c a0=true:=by
 obtain ⟨N,a,e,s,v0,rfl,h⟩:=h;exact zbc ⟨s,v0,⟨N,e⟩,h⟩
def zk3:List CV->List AV->Option (Bool×List CV×List AV)
 | [.s .u8 b,.i .i64 c,.i .i64 d],[.one (.i .i64 e)]=>some ((zV (⟨b,c,d⟩:Cur) e),zbr (zu (⟨b,c,d⟩:Cur) e),[aI (zW (⟨b,c,d⟩:Cur) e)])
 | _,_=>none
theorem zFm (c:Cur)(a0:Int)(hb:zci big (.agg (zbr c) :: [aI a0]))(hc:(zV c a0)=true):∃N,zhY N c a0=some (.agg (zbr (zu c a0)) :: [aI (zW c a0)]):=by
 exact (zlD hc).1
theorem zAE:zdS Tryz.prog 25 [false,true,true] zk3:=by
 refine zcD (zda zfu zbs zKT zB) (zeW (by kernel_rfl)) ?_
 intro cs avs cs' rs hl hr h;have hb:=zcX hr;unfold zk3 at h;split at h
 ·obtain ⟨hc,rfl,rfl⟩:=zdm h;obtain ⟨N,hN⟩:=zFm _ _ (by exact hb) hc
  exact ⟨rfl,_,N,12,(zIh N _ _ ).trans hN⟩
 ·cases h
theorem zhv {c:Cur}(h:zc2 c)(n:Int):zV c n=true:=by
 refine zLc c n ⟨0,?_⟩;have k1:=zBV h;have k2:zcF { zb0 c with b:=c.b }=true:=zBV (zAe (zjI _) h.2);have k3:zcF { zb0 { zb0 c with b:=c.b } with b:=c.b }=true:=zBV (zAe (zjI _) h.2);have k4:zcF { zb0 { zb0 { zb0 c with b:=c.b } with b:=c.b } with b:=c.b }=true:=zBV (zAe (zjI _) h.2);have b1:=(zhL k1).2.2;have b2:=(zhL k2).2.2;have b3:=(zhL k3).2.2;have b4:=(zhL k4).2.2;unfold zhY oN
 conv=>zeta
 refine zcP (fun h0=>ziI aI h.1 (fun hn=>absurd (of_decide_eq_true h0) (by omega))) (fun h0=>?_)
 have hn:¬ n<=0:=of_decide_eq_false h0;have hz:ine n 0=true:=by simp [ine];omega
 refine zcP (fun h1=>zbB k1 (zbB hz (ziI aI (zjI _) (fun hp=>zOa b1.1 hp)))) (fun h1=>?_);refine zbB k1 (zbB k2 (zbB k3 (zbB k4 (zbB hz (ziI aI (zjI _) (fun hp=>zOa ?_ hp))))));generalize zes c=x1 at b1;generalize zes _=x2 at b2;generalize zes _=x3 at b3;generalize zes _=x4 at b4;have w1:zlM .i64 x1 16777216=x1*16777216:=zo8 (by omega) (by omega)
 have w2:zlM .i64 x2 65536=x2*65536:=zo8 (by omega) (by omega)
 have w3:zlM .i64 x3 256=x3*256:=zo8 (by omega) (by omega)
 rw [w1,w2,w3,zhP (x:=x1*16777216) (by omega) (by omega),zhP (x:=x1*16777216+x2*65536) (by omega) (by omega),zhP (by omega) (by omega)]
 omega
def zIE:zc7:=[(25,([false,true,true],zk3))]++zPd
theorem zA1:zct zIE:=zfK zKT (by
 intro x hx;simp only [List.mem_cons,List.not_mem_nil,or_false] at hx;rcases hx with rfl
 ·exact zAE)
def zjm (N:Nat)(c:Cur)(a0:Int):OA :=
 (oN (zV c a0) (some [(.agg [(.s .u8 c.b),(.i .i64 (zu c a0).i),(.i .i64 (zu c a0).h)]),(aB (ieq (zW c a0) 0))]))
theorem zKJ (N:Nat)(c:Cur)(a0:Int):zhS (cQ zlX zj7 zIE zjk) (zA []) N 12 27 [false,true,true] (zbr c) [aI a0]=zjm N c a0:=by kernel_rfl
def zis (c:Cur)(a0:Int)(s:Cur)(v0:Bool):Prop:=(∃N,zjm N c a0=some (AV.agg (zbr s) :: [aB v0]))/\(s.b=c.b/\0<=s.i)/\(True)
def zdE (c:Cur)(a0:Int):Bool:=pc (∃s v0,zis c a0 s v0)
def zno (c:Cur)(a0:Int):Cur×Bool:=Classical.epsilon fun r=>zis c a0 r.1 r.2
def zb8 (c:Cur)(a0:Int):Cur:=bif zdE c a0 then (zno c a0).1 else ⟨[],0,0⟩
def zir (c:Cur)(a0:Int):Bool:=(zno c a0).2
theorem zzJ {c:Cur}{a0:Int}(h:zdE c a0=true):zis c a0 (zb8 c a0) (zir c a0):=by
 obtain ⟨s,v0,h2⟩:=zJ.1 h;have h3:zis c a0 (zno c a0).1 (zno c a0).2:=Classical.epsilon_spec (p:=fun r=>zis c a0 r.1 r.2) ⟨(s,v0),h2⟩;unfold zb8;rw [h,cT];exact h3
theorem zgp (c:Cur)(a0:Int):0<=(zb8 c a0).i:=by
 unfold zb8;cases h:zdE c a0 with
 | false=>exact Int.le_refl 0
 | true =>
  have:=(zzJ h).2.1.2;unfold zb8 at this
  rwa [h] at this
theorem zMO (c:Cur)(a0:Int)(h:∃N,Ends (fun a=>∃s v0,a=(AV.agg (zbr s) :: [aB v0])/\(s.b=c.b/\0<=s.i)/\(True)) (zjm N c a0)):zdE c a0=true:=by
 obtain ⟨N,a,e,s,v0,rfl,h⟩:=h;exact zbc ⟨s,v0,⟨N,e⟩,h⟩
def zme:List CV->List AV->Option (Bool×List CV×List AV)
 | [.s .u8 b,.i .i64 c,.i .i64 d],[.one (.i .i64 e)]=>some ((zdE (⟨b,c,d⟩:Cur) e),zbr (zb8 (⟨b,c,d⟩:Cur) e),[aB (zir (⟨b,c,d⟩:Cur) e)])
 | _,_=>none
theorem zH0 (c:Cur)(a0:Int)(hb:zci big (.agg (zbr c) :: [aI a0]))(hc:(zdE c a0)=true):∃N,zjm N c a0=some (.agg (zbr (zb8 c a0)) :: [aB (zir c a0)]):=by
 exact (zzJ hc).1
theorem zCM:zdS Tryz.prog 27 [false,true,true] zme:=by
 refine zcD (zda zfu zbs zA1 zB) (zeW (by kernel_rfl)) ?_
 intro cs avs cs' rs hl hr h;have hb:=zcX hr;unfold zme at h;split at h
 ·obtain ⟨hc,rfl,rfl⟩:=zdm h;obtain ⟨N,hN⟩:=zH0 _ _ (by exact hb) hc
  exact ⟨rfl,_,N,12,(zKJ N _ _ ).trans hN⟩
 ·cases h
theorem zKQ {c:Cur}(h:zc2 c)(n:Int):zdE c n=true:=by
 refine zMO c n ⟨0,?_⟩;unfold zjm oN;exact zbB (zhv h _) (ziI aB (zcj _ _) trivial)
def zgt (N:Nat)(c:Cur)(a0:List Int):OA :=
 (oN (zV c (ln a0)) (oN (inb (zW c (ln a0)) (ln a0)) (some [(.agg [(.s .u8 c.b),(.i .i64 (zu c (ln a0)).i),(.i .i64 (zu c (ln a0)).h)]),(aI (ix a0 (zW c (ln a0)) 0))])))
theorem zDm (N:Nat)(c:Cur)(a0:List Int):zhS (cQ zlX zj7 zIE zjk) (zA []) N 12 52 [false,true,true] (zbr c) [aS .int a0]=zgt N c a0:=by kernel_rfl
def zga (c:Cur)(a0:List Int)(s:Cur)(v0:Int):Prop:=(∃N,zgt N c a0=some (AV.agg (zbr s) :: [aI v0]))/\(s.b=c.b/\0<=s.i)/\((0<a0.length->v0∈a0))
def zcR (c:Cur)(a0:List Int):Bool:=pc (∃s v0,zga c a0 s v0)
def zjc (c:Cur)(a0:List Int):Cur×Int:=Classical.epsilon fun r=>zga c a0 r.1 r.2
def zbH (c:Cur)(a0:List Int):Cur:=bif zcR c a0 then (zjc c a0).1 else ⟨[],0,0⟩
def zeg (c:Cur)(a0:List Int):Int:=(zjc c a0).2
theorem zmx {c:Cur}{a0:List Int}(h:zcR c a0=true):zga c a0 (zbH c a0) (zeg c a0):=by
 obtain ⟨s,v0,h2⟩:=zJ.1 h;have h3:zga c a0 (zjc c a0).1 (zjc c a0).2:=Classical.epsilon_spec (p:=fun r=>zga c a0 r.1 r.2) ⟨(s,v0),h2⟩;unfold zbH;rw [h,cT];exact h3
theorem zjb (c:Cur)(a0:List Int):0<=(zbH c a0).i:=by
 unfold zbH;cases h:zcR c a0 with
 | false=>exact Int.le_refl 0
 | true =>
  have:=(zmx h).2.1.2;unfold zbH at this
  rwa [h] at this
theorem zFF (c:Cur)(a0:List Int)(h:∃N,Ends (fun a=>∃s v0,a=(AV.agg (zbr s) :: [aI v0])/\(s.b=c.b/\0<=s.i)/\((0<a0.length->v0∈a0))) (zgt N c a0)):zcR c a0=true:=by
 obtain ⟨N,a,e,s,v0,rfl,h⟩:=h;exact zbc ⟨s,v0,⟨N,e⟩,h⟩
def zjj:List CV->List AV->Option (Bool×List CV×List AV)
 | [.s .u8 b,.i .i64 c,.i .i64 d],[.one (.s .int e)]=>some ((zcR (⟨b,c,d⟩:Cur) e),zbr (zbH (⟨b,c,d⟩:Cur) e),[aI (zeg (⟨b,c,d⟩:Cur) e)])
 | _,_=>none
theorem zAV (c:Cur)(a0:List Int)(hb:zci big (.agg (zbr c) :: [aS .int a0]))(hc:(zcR c a0)=true):∃N,zgt N c a0=some (.agg (zbr (zbH c a0)) :: [aI (zeg c a0)]):=by
 exact (zmx hc).1
theorem zv4:zdS Tryz.prog 52 [false,true,true] zjj:=by
 refine zcD (zda zfu zbs zA1 zB) (zeW (by kernel_rfl)) ?_
 intro cs avs cs' rs hl hr h;have hb:=zcX hr;unfold zjj at h;split at h
 ·obtain ⟨hc,rfl,rfl⟩:=zdm h;obtain ⟨N,hN⟩:=zAV _ _ (by exact hb) hc
  exact ⟨rfl,_,N,12,(zDm N _ _ ).trans hN⟩
 ·cases h
theorem zDx {c:Cur}(h:zc2 c){l:List Int}(hl:l≠[]):zcR c l=true:=by
 refine zFF c l ⟨0,?_⟩;have hp:0<ln l:=by unfold ln;have:=List.length_pos_iff.2 hl;omega
 have g:=(zlD (zhv h (ln l))).2.2 hp;have hb:inb (zW c (ln l)) (ln l)=true:=decide_eq_true ⟨g.1,g.2⟩;unfold zgt oN;exact zbB (zhv h _) (zbB hb (ziI aI (zcj _ _) (fun _=>zbj hb 0)))
def zPe:zc7:=[(27,([false,true,true],zme)),(52,([false,true,true],zjj))]++zIE
theorem zKU:zct zPe:=zfK zA1 (by
 intro x hx;simp only [List.mem_cons,List.not_mem_nil,or_false] at hx;rcases hx with rfl|rfl
 ·exact zCM
 ·exact zv4)
def zWX:zS:=zlX
theorem zVu:zD zWX:=zfu
def zWY:zS:=zWX
theorem zVv:zD zWY:=zVu
def zWZ:zS:=zWY
theorem zVw:zD zWZ:=zVv
def zW0:zS:=zWZ
theorem zVx:zD zW0:=zVw
def zW1:zS:=zW0
theorem zVy:zD zW1:=zVx
def zW2:zS:=zW1
theorem zVz:zD zW2:=zVy
def zW3:zS:=zW2
theorem zVA:zD zW3:=zVz
def zT1:zS:=zW3
theorem zSi:zD zT1:=zVA
def zT2:zS:=zT1
theorem zSj:zD zT2:=zSi
def zT3:zS:=zT2
theorem zSk:zD zT3:=zSj
def zT4:zS:=zT3
theorem zSl:zD zT4:=zSk
def zT5:zS:=zT4
theorem zSm:zD zT5:=zSl
def zT6:zS:=zT5
theorem zSn:zD zT6:=zSm
def zT7:zS:=zT6
theorem zSo:zD zT7:=zSn
def zT8:zS:=zT7
theorem zSp:zD zT8:=zSo
def zT9:zS:=zT8
theorem zSq:zD zT9:=zSp
def zUa:zS:=zT9
theorem zSr:zD zUa:=zSq
def zUb:zS:=zUa
theorem zSs:zD zUb:=zSr
def zUc:zS:=zUb
theorem zSt:zD zUc:=zSs
def zUd:zS:=zUc
theorem zSu:zD zUd:=zSt
def zW8:zS:=zUd
theorem zoX:∀f run,zh zW8 f=some run->Holds Tryz.prog f run:=zSu
def zF (_ _ _:Int):Bool:=true
def zI (x a b:Int):Bool:=ige x a&&ile x b
def zzF:Run:=rF3 dI dI dI (fun b c d=>((zF b c d),[aB (zI b c d)]))
def zGa (N:Nat)(a0 a1 a2:Int):OA :=
 (cond (ige a0 a1) (some [(aB (ile a0 a2))]) oF)
theorem zMr (a0 a1 a2:Int)(hc:(zF a0 a1 a2)=true):∃N,zGa N a0 a1 a2=some [aB (zI a0 a1 a2)]:=by
 refine ⟨0,?_⟩;unfold zGa zI;cases ige a0 a1<;>rfl
theorem zHs:Holds Tryz.prog 58 zzF:=kF3 zoX zbs zC zB (zA []) zMr
def zl8 (_ _:Int):Bool:=true
abbrev zmR (i n:Int):Bool:=hasB i n
def zG0:Run:=rF2 dI dI (fun b c=>((zl8 b c),[aB (zmR b c)]))
def zM7 (N:Nat)(a0 a1:Int):OA :=
 (cond (ige a0 0) (some [(aB (ilt a0 a1))]) oF)
theorem zQZ (a0 a1:Int)(hc:(zl8 a0 a1)=true):∃N,zM7 N a0 a1=some [aB (zmR a0 a1)]:=by
 refine ⟨0,?_⟩;unfold zM7 zmR;rw [<- has_eq];cases ige a0 0<;>rfl
theorem zMb:Holds Tryz.prog 13 zG0:=kF2 zoX zbs zC zB (zA []) zQZ
theorem zGF {n:Nat}(hn:n<=big)(i:Int):zI i 0 (wsub .i64 (n:Int) 1)=hasB i n:=by
 rw [zr9] at hn;rw [zxV (by omega) (by omega)]
 unfold zI ige ile hasB
 by_cases h1:0<=i<;>by_cases h2:i<n
 ·rw [decide_eq_true (p:=i≥0) (by omega),decide_eq_true (p:=i<=(n:Int)-1) (by omega),decide_eq_true (p:=0<=i/\i<(n:Int)) ⟨h1,h2⟩];rfl
 ·rw [decide_eq_false (p:=i<=(n:Int)-1) (by omega),decide_eq_false (p:=0<=i/\i<(n:Int)) (by omega)];simp
 ·rw [decide_eq_false (p:=i≥0) (by omega),decide_eq_false (p:=0<=i/\i<(n:Int)) (by omega)];simp
 ·rw [decide_eq_false (p:=i≥0) (by omega),decide_eq_false (p:=0<=i/\i<(n:Int)) (by omega)];simp
def zeG (l:List (List Int)):Bool:=pc (CVB sm (.s (.sl .int) l))
abbrev zdy (l:List (List Int)):List (List Int):=l
def zuM:Run:=rF1 (dS (.sl .int)) (fun b=>((zeG b),[aS (.sl .int) (zdy b)]))
def zyY (N:Nat)(a0:lM):OA :=
 (iter (σ:=(Int×(lM×(lM×Unit)))) N (fun r2 s3=>let y0:=(ap [] (ix s3.2.1 s3.1 [])); (cond (ilt s3.1 (ln s3.2.1)) (oN (inb s3.1 (ln s3.2.1)) (oN (few (ln y0)) (oN (few (ln (ap s3.2.2.1 [y0]))) (r2 ((zK .i64 s3.1 1),(s3.2.1,((ap s3.2.2.1 [y0]),()))))))) (some [(aS (.sl .int) s3.2.2.1)]))) (0,(a0,([],()))))
def zIr:FuncId->Nat->Option Tmpl:=zA [(59,0,{ n:=22,tm:=[(0,.sl 0 []),(3,.sl 1 []),(4,ti)],lo:=[],ro:=[(0,(.sl .int),false),(1,(.sl .int),true)] })]
theorem zH1 (a0:List (List Int))(hc:(zeG a0)=true):∃N,zyY N a0=some [aS (.sl .int) (zdy a0)]:=by
 have hs:=zJ.1 hc;have hl:=zc0 hs.len;refine ⟨a0.length+1,?_⟩;unfold zyY oN
 conv=>zeta
 refine (zby a0 (fun i acc=>((i:Int),(a0,(acc,())))) _ (fun _ x acc k=>bif few (ln x) then (cond (few (ln (ap acc [x]))) (k (ap acc [x])) none) else none) (fun acc=>some [AV.one (.s (.sl .int) acc)])
  (fun i hi t rec=>?_) (fun t rec=>?_) _ [] (Nat.lt_succ_self _)).trans ((zpb (fun x=>few (ln x)) (fun x=>x) _ a0 0 [] (fun x hx=>⟨zf0 (zc0 (hs.inv.2 x hx _ (List.mem_singleton.2 rfl)).len).2,rfl⟩) (by simpa using hl.2)))
 ·simp only [zcb hi,zbx hi,zbF hi,cT,zbu hi hl.1,zjs]
 ·simp only [zb6,cF]
theorem zCN:Holds Tryz.prog 59 zuM:=kF1 zoX zbs zC zB zIr zH1
abbrev zeH (k:Kept):Bool:=pc (∀c∈Ty.cells .kept k,CVB sm c)
abbrev zcM (k:Kept):Kept:=k
def zuN:Run:=rF1 (dT .kept) (fun b=>((zeH b),[aT .kept (zcM b)]))
def zyZ (N:Nat)(a0:Kept):OA :=
 (oN (few (ln (ap [] a0.Known))) (oN (few (ln (ap [] a0.Slots))) (some [(.agg [(.s .bool (ap [] a0.Known)),(.s .slot (ap [] a0.Slots))])])))
theorem zH2 (a0:Kept)(hc:(zeH a0)=true):∃N,zyZ N a0=some [aT .kept (zcM a0)]:=by
 have h:=zJ.1 hc;have h1:=zjt (h (.s .bool a0.Known) (by simp [Ty.cells]))
 have h2:=zjt (h (.s .slot a0.Slots) (by simp [Ty.cells]))
 refine ⟨0,?_⟩;simp only [zyZ,zjs,h1,h2,cT];rfl
theorem zCO:Holds Tryz.prog 96 zuN:=kF1 zoX zbs zC zB (zA []) zH2
def zcG (g:Guest):Bool:=pc (∀c∈Ty.cells .guest g,CVB sm c)
abbrev zcs (g:Guest):Guest:=g
def zuO:Run:=rF1 (dT .guest) (fun b=>((zcG b),[aT .guest (zcs b)]))
def zy0 (N:Nat)(a0:Guest):OA :=
 (oN (few (ln (ap [] a0.Prog))) (oN (few (ln (ap [] a0.Written))) (oN (few (ln (ap [] a0.Live))) (oN (few (ln (ap [] a0.Seen))) (some [(.agg [(.s .ins (ap [] a0.Prog)),(.i .i64 a0.A),(.i .i64 a0.Pc),(.s .slot (ap [] a0.Written)),(.s .slot (ap [] a0.Live)),(.i .i64 a0.Ctl.Traps),(.i .i64 a0.Ctl.Post),(.b a0.Ctl.Open),(.i .i64 a0.Pending),(.i .i64 a0.Exit.Kind),(.i .i64 a0.Exit.Page),(.b a0.Exit.Write),(.i .i64 a0.Exit.N),(.b a0.Halted),(.s .int (ap [] a0.Seen))])])))))
theorem zH4 (a0:Guest)(hc:(zcG a0)=true):∃N,zy0 N a0=some [aT .guest (zcs a0)]:=by
 have h:=zJ.1 hc;have h1:=zjt (h (.s .ins a0.Prog) (by simp [Ty.cells]))
 have h2:=zjt (h (.s .slot a0.Written) (by simp [Ty.cells]))
 have h3:=zjt (h (.s .slot a0.Live) (by simp [Ty.cells]))
 have h4:=zjt (h (.s .int a0.Seen) (by simp [Ty.cells]))
 refine ⟨0,?_⟩;simp only [zy0,zjs,h1,h2,h3,h4,cT];rfl
theorem zCQ:Holds Tryz.prog 105 zuO:=kF1 zoX zbs zC zB (zA []) zH4
def zUe:zS:=[(58,zzF),(13,zG0),(59,zuM),(96,zuN),(105,zuO)]++zW8
theorem zJc:zD zUe:=zk zHs (zk zMb (zk zCN (zk zCO (zk zCQ zoX))))
def zet (l:List Guest):Bool:=pc (CVB sm (.s .guest l))
abbrev zeJ (l:List Guest):List Guest:=l
def zqN:Run:=rF1 (dS .guest) (fun b=>((zet b),[aS .guest (zeJ b)]))
def zum (N:Nat)(a0:lG):OA :=
 (iter (σ:=(Int×(lG×(lG×Unit)))) N (fun r2 s3=>let y0:=(ix s3.2.1 s3.1 zq); (cond (ilt s3.1 (ln s3.2.1)) (oN (inb s3.1 (ln s3.2.1)) (oN (zcG y0) (oN (few (ln (ap s3.2.2.1 [(zcs y0)]))) (r2 ((zK .i64 s3.1 1),(s3.2.1,((ap s3.2.2.1 [(zcs y0)]),()))))))) (some [(aS .guest s3.2.2.1)]))) (0,(a0,([],()))))
def zD8:FuncId->Nat->Option Tmpl:=zA [(95,0,{ n:=21,tm:=[(0,.sl 0 []),(3,.sl 1 []),(4,ti)],lo:=[],ro:=[(0,.guest,false),(1,.guest,true)] })]
theorem zDh (a0:List Guest)(hc:(zet a0)=true):∃N,zum N a0=some [aS .guest (zeJ a0)]:=by
 have hs:=zJ.1 hc;have hl:=zc0 hs.len;refine ⟨a0.length+1,?_⟩;unfold zum oN
 conv=>zeta
 refine (zby a0 (fun i acc=>((i:Int),(a0,(acc,())))) _ (fun _ x acc k=>bif zcG x then (cond (few (ln (ap acc [zcs x]))) (k (ap acc [zcs x])) none) else none) (fun acc=>some [AV.one (.s .guest acc)])
  (fun i hi t rec=>?_) (fun t rec=>?_) _ [] (Nat.lt_succ_self _)).trans ((zpb zcG zcs _ a0 0 [] (fun x hx=>⟨zbc (hs.inv.2 x hx),rfl⟩) (by simpa using hl.2)))
 ·simp only [zcb hi,zbx hi,zbF hi,cT,zbu hi hl.1]
 ·simp only [zb6,cF]
theorem zyd:Holds Tryz.prog 95 zqN:=kF1 zJc zbs zC zB zD8 zDh
def zUf:zS:=[(95,zqN)]++zUe
theorem zJd:zD zUf:=zk zyd zJc
abbrev zlH (m:Mon):Bool:=pc (∀c∈Ty.cells .mon m,CVB sm c)
abbrev zmA (m:Mon):Mon:=m
def zwV:Run:=rF1 (dT .mon) (fun b=>((zlH b),[aT .mon (zmA b)]))
def zBJ (N:Nat)(a0:Mon):OA :=
 (oN (few (ln (ap [] a0.Outer))) (oN (zeG a0.Out) (oN (few (ln (ap [] a0.Dirty))) (oN (zet a0.Guests) (oN (few (ln (ap [] a0.Outs))) (iter (σ:=(Int×(Int×(Int×(Int×(Int×(Int×(Int×(lK×(lS×(lM×(lB×(lG×((List Int)×(lK×(lS×(lM×(lB×(lG×((List Int)×(lK×Unit))))))))))))))))))))) N (fun r2 s3=>let y2:=s3.2.2.2.2.2.2.2.2.2.2.2.2.1;let y0:=s3.2.2.2.2.2.2.2.2.2.2.2.2.2.1;let y1:=(ap s3.2.2.2.2.2.2.2.1 [(zcM (ix y0 s3.1 zgO))]); (cond (ilt s3.1 (ln y0)) (oN (inb s3.1 (ln y0)) (oN (zeH (ix y0 s3.1 zgO)) (oN (few (ln y1)) (r2 ((zK .i64 s3.1 1),(s3.2.1,(s3.2.2.1,(s3.2.2.2.1,(s3.2.2.2.2.1,(s3.2.2.2.2.2.1,(s3.2.2.2.2.2.2.1,(y1,(s3.2.2.2.2.2.2.2.2.1,(s3.2.2.2.2.2.2.2.2.2.1,(s3.2.2.2.2.2.2.2.2.2.2.1,(s3.2.2.2.2.2.2.2.2.2.2.2.1,(y2,(y0,(s3.2.2.2.2.2.2.2.2.2.2.2.2.2.2.1,(s3.2.2.2.2.2.2.2.2.2.2.2.2.2.2.2.1,(s3.2.2.2.2.2.2.2.2.2.2.2.2.2.2.2.2.1,(s3.2.2.2.2.2.2.2.2.2.2.2.2.2.2.2.2.2.1,(s3.2.2.2.2.2.2.2.2.2.2.2.2.2.2.2.2.2.2.1,(s3.2.2.2.2.2.2.2.2.2.2.2.2.2.2.2.2.2.2.2.1,())))))))))))))))))))))))) (some [(.agg [(.s .slot s3.2.2.2.2.2.2.2.2.1),(.s (.sl .int) s3.2.2.2.2.2.2.2.2.2.1),(.s .bool s3.2.2.2.2.2.2.2.2.2.2.1),(.s .guest s3.2.2.2.2.2.2.2.2.2.2.2.1),(.s .int y2),(.i .i64 s3.2.1),(.i .i64 s3.2.2.1),(.s .kept s3.2.2.2.2.2.2.2.1),(.i .i64 s3.2.2.2.1)])]))) (0,(a0.Pending,(a0.Traps,(a0.Own,(0,(0,(0,([],((ap [] a0.Outer),((zdy a0.Out),((ap [] a0.Dirty),((zeJ a0.Guests),((ap [] a0.Outs),(a0.Tables,([],([],([],([],([],([],()))))))))))))))))))))))))))
def zLI:FuncId->Nat->Option Tmpl:=zA [(60,0,{ n:=48,tm:=[(1,.lp 0 0),(2,.lp 1 0),(3,.sl 0 []),(4,ti)],lo:=[(0,[.sl 1 [],.sl 2 [],.sl 3 [],.sl 4 [],.sl 5 [],ti,ti,.sl 6 [],ti]),(1,[.sl 7 [],.sl 8 [],.sl 9 [],.sl 10 [],.sl 11 [],ti,ti,.sl 12 [],ti])],ro:=[(0,.kept,true),(1,.slot,true),(2,(.sl .int),true),(3,.bool,true),(4,.guest,true),(5,.int,true),(6,.kept,false),(7,.slot,true),(8,(.sl .int),true),(9,.bool,true),(10,.guest,true),(11,.int,true),(12,.kept,true)] })]
theorem zKs (a0:Mon)(hc:(zlH a0)=true):∃N,zBJ N a0=some [aT .mon (zmA a0)]:=by
 have h:=zJ.1 hc;have h1:=zjt (h (.s .slot a0.Outer) (by simp [Ty.cells]))
 have h2:zeG a0.Out=true:=zbc (h (.s (.sl .int) a0.Out) (by simp [Ty.cells]))
 have h3:=zjt (h (.s .bool a0.Dirty) (by simp [Ty.cells]))
 have h4:zet a0.Guests=true:=zbc (h (.s .guest a0.Guests) (by simp [Ty.cells]))
 have h5:=zjt (h (.s .int a0.Outs) (by simp [Ty.cells]))
 have h6:CVB sm (.s .kept a0.Tables):=h (.s .kept a0.Tables) (by simp [Ty.cells])
 have hl:=zc0 h6.len;refine ⟨a0.Tables.length+1,?_⟩;unfold zBJ oN
 conv=>zeta
 simp only [zjs,h1,h2,h3,h4,h5,cT];refine (zby a0.Tables (fun i acc=>((i:Int),a0.Pending,a0.Traps,a0.Own,0,0,0,acc,a0.Outer,zdy a0.Out,a0.Dirty,zeJ a0.Guests,a0.Outs,a0.Tables,[],[],[],[],[],[],())) _
  (fun _ x acc k=>bif zeH x then (cond (few (ln (ap acc [zcM x]))) (k (ap acc [zcM x])) none) else none) (fun acc=>some [AV.agg (Ty.cells .mon ⟨a0.Outer,a0.Out,a0.Dirty,a0.Guests,a0.Outs,a0.Pending,a0.Traps,acc,a0.Own⟩)])
  (fun i hi t rec=>?_) (fun t rec=>?_) _ [] (Nat.lt_succ_self _)).trans ((zpb zeH zcM _ a0.Tables 0 [] (fun x hx=>⟨zbc (h6.inv.2 x hx),rfl⟩) (by simpa using hl.2)))
 ·simp only [zcb hi,zbx hi,zbF hi,cT,zbu hi hl.1]
 ·simp only [zb6,cF];rfl
theorem zET:Holds Tryz.prog 60 zwV:=kF1 zJd zbs zC zB zLI zKs
def zUg:zS:=[(60,zwV)]++zUf
theorem zJe:zD zUg:=zk zET zJd
def mapped (l:List Slot)(n:Int):Int:=match l with
 | []=>n
 | s :: l=>mapped l (cond (ine s.Page (-1)) (zK .i64 n 1) n)
theorem zCk {ρ:Type}(K:Int->Option ρ):∀(l:List Slot) (i:Nat) (n:Int),
 goL (fun _ (s:Slot) (n:Int) k=>bif ine s.Page (-1) then k (zK .i64 n 1) else k n) K l i n=K (mapped l n)
 | [],_,_=>rfl
 | s :: l,i,n=>by
  simp only [goL,mapped];cases ine s.Page (-1)<;>exact zCk K l _ _
def ztx (_:List Slot):Bool:=true
def zAI (l:List Slot):Int:=mapped l 0
def zwu:Run:=rF1 (dS .slot) (fun b=>((ztx b),[aI (zAI b)]))
def zBj (N:Nat)(a0:lS):OA :=
 (iter (σ:=(Int×(Int×(Int×(lS×Unit))))) N (fun r2 s3=>(cond (ilt s3.2.2.1 s3.2.1) (oN (inb s3.2.2.1 (ln s3.2.2.2.1)) (cond (ine (ix s3.2.2.2.1 s3.2.2.1 zX).Page (-1)) (r2 ((zK .i64 s3.1 1),(s3.2.1,((zK .i64 s3.2.2.1 1),(s3.2.2.2.1,()))))) (r2 (s3.1,(s3.2.1,((zK .i64 s3.2.2.1 1),(s3.2.2.2.1,()))))))) (some [(aI s3.1)]))) (0,((ln a0),(0,(a0,())))))
def zLx:FuncId->Nat->Option Tmpl:=zA [(14,0,{ n:=19,tm:=[(3,ti),(6,.sl 0 []),(7,ti),(8,ti)],lo:=[],ro:=[(0,.slot,false)] })]
theorem zJX (a0:List Slot)(hb:zci big [aS .slot a0])(hc:(ztx a0)=true):∃N,zBj N a0=some [aI (zAI a0)]:=by
 have hl:=(len0 hb);refine ⟨a0.length+1,?_⟩;unfold zBj oN;refine (zby a0 (fun i n=>(n,(ln a0,((i:Int),(a0,()))))) _ (fun _ (s:Slot) (n:Int) k=>bif ine s.Page (-1) then k (zK .i64 n 1) else k n) (fun n=>some [AV.one (.i .i64 n)])
  (fun i hi n rec=>?_) (fun n rec=>?_) _ 0 (Nat.lt_succ_self _)).trans (zCk _ a0 0 0)
 ·simp only [zcb hi,zbx hi,zbF hi,cT,zbu hi hl]
 ·simp only [zb6,cF]
theorem zEq:Holds Tryz.prog 14 zwu:=hF1 zJe zbs zC zB zLx zJX
def zUh:zS:=[(14,zwu)]++zUg
theorem zJf:zD zUh:=zk zEq zJe
def zjR (h:Host)(m:Int):Int:=bif hasB m (ln h.Mons) then mapped (ix h.Mons m zf).Outer 0 else 0
def zkq (_:Host)(_:Int):Bool:=true
def zl7 (h:Host)(m:Int):Int:=zjR h m
def zzs:Run:=rF2 dH dI (fun b c=>((zkq b c),[aI (zl7 b c)]))
def zFY (N:Nat)(a0:Host)(a1:Int):OA :=
 let y0:=(ix a0.Mons a1 zf).Outer; (oN (zl8 a1 (ln a0.Mons)) (cond (nB (zmR a1 (ln a0.Mons))) (some [(aI 0)]) (oN (inb a1 (ln a0.Mons)) (oN (ztx y0) (some [(aI (zAI y0))])))))
theorem zMf (a0:Host)(a1:Int)(hc:(zkq a0 a1)=true):∃N,zFY N a0 a1=some [aI (zl7 a0 a1)]:=by
 refine ⟨0,?_⟩;unfold zFY zl7 zjR zmR oN nB
 conv=>zeta
 cases hh:hasB a1 (ln a0.Mons)
 ·rfl
 ·rw [zx hh];rfl
theorem zHg:Holds Tryz.prog 7 zzs:=kF2 zJf zbs zC zB (zA []) zMf
def zUi:zS:=[(7,zzs)]++zUh
theorem zSv:zD zUi:=zk zHg zJf
def zW9:zS:=zUi
theorem zxs:∀f run,zh zW9 f=some run->Holds Tryz.prog f run:=zSv
def noSlot:Slot:=⟨-1,0⟩
def zb2:Bool:=true
abbrev zbg:Slot:=noSlot
def zwH:Run:=rF0 (zb2,[aT .slot zbg])
def zOc (N:Nat)  : OA :=
 (some [(.agg [(.i .i64 (-1)),(.i .i64 0)])])
theorem zKb  (hc:zb2=true):∃N,zOc N  = some [aT .slot zbg]:=by
 exact ⟨0,rfl⟩
theorem zED:Holds Tryz.prog 94 zwH:=kF0 zxs zbs zC zB (zA []) zKb
def zty (_ _ _:Int):Bool:=true
def zpr (x a b:Int):Bool:=ige x a&&ile x b
def zwv:Run:=rF3 dI dI dI (fun b c d=>((zty b c d),[aB (zpr b c d)]))
def zBk (N:Nat)(a0 a1 a2:Int):OA :=
 (cond (ige a0 a1) (some [(aB (ile a0 a2))]) oF)
theorem zJY (a0 a1 a2:Int)(hc:(zty a0 a1 a2)=true):∃N,zBk N a0 a1 a2=some [aB (zpr a0 a1 a2)]:=by
 refine ⟨0,?_⟩;unfold zBk zpr;cases ige a0 a1<;>rfl
theorem zEr:Holds Tryz.prog 30 zwv:=kF3 zxs zbs zC zB (zA []) zJY
def zUj:zS:=[(94,zwH),(30,zwv)]++zW9
theorem zz6:zD zUj:=zk zED (zk zEr zxs)
def zco (r:Int):Bool:=ige r 0&&ile r 3
def zgH (_:Int):Bool:=true
abbrev zfd (r:Int):Bool:=zco r
def zsI:Run:=rF1 dI (fun b=>((zgH b),[aB (zfd b)]))
def zIU (N:Nat)(a0:Int):OA :=
 (oN (zF a0 0 3) (some [(aB (zI a0 0 3))]))
theorem zFf (a0:Int)(hc:(zgH a0)=true):∃N,zIU N a0=some [aB (zfd a0)]:=by
 exact ⟨0,rfl⟩
theorem zAy:Holds Tryz.prog 152 zsI:=kF1 zz6 zbs zC zB (zA []) zFf
def zkW (_:Int):Bool:=true
abbrev ziL (r:Int):Bool:=zco r
def zsw:Run:=rF1 dI (fun b=>((zkW b),[aB (ziL b)]))
def zIQ (N:Nat)(a0:Int):OA :=
 (oN (zty a0 0 3) (some [(aB (zpr a0 0 3))]))
theorem zE1 (a0:Int)(hc:(zkW a0)=true):∃N,zIQ N a0=some [aB (ziL a0)]:=by
 exact ⟨0,rfl⟩
theorem zAl:Holds Tryz.prog 22 zsw:=kF1 zz6 zbs zC zB (zA []) zE1
def zUk:zS:=[(152,zsI),(22,zsw)]++zUj
theorem zpf:zD zUk:=zk zAy (zk zAl zz6)
def zc8 (a b:Int):Int:=bif zco a then (cond (zco b) (wand .i64 a b) 0) else 0
def zmo (_ _:Int):Bool:=true
abbrev zfM (a b:Int):Int:=zc8 a b
def zpz:Run:=rF2 dI dI (fun b c=>((zmo b c),[aI (zfM b c)]))
def zr4 (N:Nat)(a0 a1:Int):OA :=
 (oN (zgH a0) (cond (nB (zfd a0)) (some [(aI 0)]) (oN (zgH a1) (cond (nB (zfd a1)) (some [(aI 0)]) (some [(aI (wand .i64 a0 a1))])))))
theorem zAQ (a0 a1:Int)(hc:(zmo a0 a1)=true):∃N,zr4 N a0 a1=some [aI (zfM a0 a1)]:=by
 refine ⟨0,?_⟩;unfold zr4 zfM zc8 zfd oN nB;cases zco a0<;>cases zco a1<;>rfl
theorem zvZ:Holds Tryz.prog 159 zpz:=kF2 zpf zbs zC zB (zA []) zAQ
def enough (a b:Int):Bool:=bif zco a then (cond (zco b) (ieq (wand .i64 a b) b) false) else false
def zfc (_ _:Int):Bool:=true
abbrev zfN (a b:Int):Bool:=enough a b
def zwz:Run:=rF2 dI dI (fun b c=>((zfc b c),[aB (zfN b c)]))
def zBo (N:Nat)(a0 a1:Int):OA :=
 (oN (zgH a0) (cond (zfd a0) (oN (zgH a1) (cond (zfd a1) (some [(aB (ieq (wand .i64 a0 a1) a1))]) oF)) oF))
theorem zJ2 (a0 a1:Int)(hc:(zfc a0 a1)=true):∃N,zBo N a0 a1=some [aB (zfN a0 a1)]:=by
 refine ⟨0,?_⟩;unfold zBo zfN enough zfd oN;cases zco a0<;>cases zco a1<;>rfl
theorem zEv:Holds Tryz.prog 131 zwz:=kF2 zpf zbs zC zB (zA []) zJ2
def zoz (_ _:Int):Bool:=true
abbrev zl6 (a b:Int):Bool:=enough a b
def zwt:Run:=rF2 dI dI (fun b c=>((zoz b c),[aB (zl6 b c)]))
def zBi (N:Nat)(a0 a1:Int):OA :=
 (oN (zkW a0) (cond (ziL a0) (oN (zkW a1) (cond (ziL a1) (some [(aB (ieq (wand .i64 a0 a1) a1))]) oF)) oF))
theorem zJW (a0 a1:Int)(hc:(zoz a0 a1)=true):∃N,zBi N a0 a1=some [aB (zl6 a0 a1)]:=by
 refine ⟨0,?_⟩;unfold zBi zl6 enough ziL oN;cases zco a0<;>cases zco a1<;>rfl
theorem zEp:Holds Tryz.prog 18 zwt:=kF2 zpf zbs zC zB (zA []) zJW
def zbh (t:List Slot)(p:Int):Slot:=bif hasB p (ln t) then ix t p zX else noSlot
def zlA (_:List Slot)(_:Int):Bool:=true
abbrev zg7 (t:List Slot)(p:Int):Slot:=zbh t p
def zwN:Run:=rF2 (dS .slot) dI (fun b c=>((zlA b c),[aT .slot (zg7 b c)]))
def zBB (N:Nat)(a0:lS)(a1:Int):OA :=
 (oN (zF a1 0 (wsub .i64 (ln a0) 1)) (cond (nB (zI a1 0 (wsub .i64 (ln a0) 1))) (oN zb2 (some [(.agg [(.i .i64 zbg.Page),(.i .i64 zbg.Rights)])])) (oN (inb a1 (ln a0)) (some [(.agg [(.i .i64 (ix a0 a1 zX).Page),(.i .i64 (ix a0 a1 zX).Rights)])]))))
theorem zKh (a0:List Slot)(a1:Int)(hb:zci big [aS .slot a0,aI a1])(hc:(zlA a0 a1)=true):∃N,zBB N a0 a1=some [aT .slot (zg7 a0 a1)]:=by
 have hl:=(len0 hb);refine ⟨0,?_⟩;unfold zBB zg7 zbh oN nB;have e:zI a1 0 (wsub .i64 (ln a0) 1)=hasB a1 (ln a0):=zC4 hl a1;rw [e];cases hh:hasB a1 (ln a0)
 ·rfl
 ·rw [zx hh];rfl
theorem zEJ:Holds Tryz.prog 121 zwN:=hF2 zpf zbs zC zB (zA []) zKh
def zUl:zS:=[(159,zpz),(131,zwz),(18,zwt),(121,zwN)]++zUk
theorem zJg:zD zUl:=zk zvZ (zk zEv (zk zEp (zk zEJ zpf)))
def zcz (a b:Slot):Bool:=ieq a.Page b.Page&&ieq a.Rights b.Rights
def below' (a b:Slot):Bool:=bif zcz a noSlot then true else (cond (ieq a.Page b.Page) (enough b.Rights a.Rights) false)
def zbd (s:Slot)(outer:List Slot):Slot :=
 bif ieq s.Page (-1) then noSlot else (cond (ieq (zbh outer s.Page).Page (-1)) noSlot (cond (ieq (zc8 s.Rights (zbh outer s.Page).Rights) 0) noSlot ⟨(zbh outer s.Page).Page,zc8 s.Rights (zbh outer s.Page).Rights⟩))
def zhV (_:Slot)(_:List Slot):Bool:=true
def zjT (s:Slot)(outer:List Slot):Slot:=zbd s outer
def zoq:Run:=rF2 (dT .slot) (dS .slot) (fun b c=>((zhV b c),[aT .slot (zjT b c)]))
def zp4 (N:Nat)(a0:Slot)(a1:lS):OA :=
 let y0:=(zg7 a1 a0.Page); (oN (zlA a1 a0.Page) (oN (zmo a0.Rights y0.Rights) (cond (ieq a0.Page (-1)) (oN zb2 (some [(.agg [(.i .i64 zbg.Page),(.i .i64 zbg.Rights)])])) (cond (ieq y0.Page (-1)) (oN zb2 (some [(.agg [(.i .i64 zbg.Page),(.i .i64 zbg.Rights)])])) (cond (ieq (zfM a0.Rights y0.Rights) 0) (oN zb2 (some [(.agg [(.i .i64 zbg.Page),(.i .i64 zbg.Rights)])])) (some [(.agg [(.i .i64 y0.Page),(.i .i64 (zfM a0.Rights y0.Rights))])]))))))
theorem zye (a0:Slot)(a1:List Slot)(hc:(zhV a0 a1)=true):∃N,zp4 N a0 a1=some [aT .slot (zjT a0 a1)]:=by
 refine ⟨0,?_⟩;unfold zp4 zjT zbd zg7 zfM oN
 conv=>zeta
 cases ieq a0.Page (-1)<;>cases ieq (zbh a1 a0.Page).Page (-1)<;>cases ieq (zc8 a0.Rights (zbh a1 a0.Page).Rights) 0<;>rfl
theorem zu6:Holds Tryz.prog 153 zoq:=kF2 zJg zbs zC zB (zA []) zye
def zcL (x:Int):Int:=bif (ige x 1&&ile x 6) then zLQ .i64 (wsub .i64 x 1) 2 else -1
def zdj (x:Int):Int:=bif (ige x 1&&ile x 6) then zmG (wsub .i64 x 1) 2 else -1
def zUm:zS:=[(153,zoq)]++zUl
theorem zSw:zD zUm:=zk zu6 zJg
def zUn:zS:=zUm
theorem zSx:zD zUn:=zSw
def zcm (h:Host)(e:Entry):Bool :=
 bif hasB (zcL e.Tag) (ln h.Mons) then (bif hasB (zdj e.Tag) (ln (ix h.Mons (zcL e.Tag) zf).Guests) then
  below' ⟨e.Host,e.Rights⟩ (zbd (zbh (ix (ix h.Mons (zcL e.Tag) zf).Guests (zdj e.Tag) zq).Live e.Page) (ix h.Mons (zcL e.Tag) zf).Outer) else false) else false
def zUo:zS:=zUn
theorem zSy:zD zUo:=zSx
def zW7:zS:=zUo
theorem zEf:∀f run,zh zW7 f=some run->Holds Tryz.prog f run:=zSy
theorem hE (h:Host):(⟨h.Memory,h.Mons,h.Buffer,h.IoBuffer⟩:Host)=h:=rfl
def idxs {α:Type}(p:α->Bool):List α->Nat->List Int
 | [],_=>[]
 | x :: l,i=>bif p x then (i:Int) :: idxs p l (i+1) else idxs p l (i+1)
theorem zAK {α:Type}(p:α->Bool):∀(l:List α) (i:Nat),(idxs p l i).length<=l.length
 | [],_=>Nat.le_refl _
 | x :: l,i=>by
  have:=zAK p l (i+1);simp only [idxs];cases p x<;>simp<;>omega
theorem zl3 {α ρ:Type}(p:α->Bool)(K:List Int->Option ρ):∀(l:List α) (i:Nat) (acc:List Int),acc.length+l.length<=2147483648 ->
 goL (fun i x acc k=>bif p x then (cond (few (ln (ap acc [(i:Int)]))) (k (ap acc [(i:Int)])) none) else k acc) K l i acc=K (acc++idxs p l i)
 | [],i,acc,_=>by simp [goL,idxs]
 | x :: l,i,acc,h=>by
  simp only [List.length_cons] at h;simp only [goL,idxs];cases p x
  ·simp only [cF];exact zl3 p K l (i+1) acc (by omega)
  ·simp only [cT];rw [zf0 (by simp [ap];omega),cT,zl3 p K l (i+1) _ (by simp [ap];omega)]
   simp [ap]
def zrB (p:Nat->Bool):Nat->Nat->List Int
 | 0,_=>[]
 | n+1,i=>bif p i then (i:Int) :: zrB p n (i+1) else zrB p n (i+1)
theorem zAj {ρ:Type}(p:Nat->Bool)(K:List Int->Option ρ):∀(n i:Nat) (acc:List Int),acc.length+n<=2147483648 ->
 goN (fun i acc k=>bif p i then (cond (few (ln (ap acc [(i:Int)]))) (k (ap acc [(i:Int)])) none) else k acc) K n i acc=K (acc++zrB p n i)
 | 0,i,acc,_=>by simp [goN,zrB]
 | n+1,i,acc,h=>by
  simp only [goN,zrB];cases p i
  ·simp only [cF];exact zAj p K n (i+1) acc (by omega)
  ·simp only [cT];rw [zf0 (by simp [ap];omega),cT,zAj p K n (i+1) _ (by simp [ap];omega)]
   simp [ap]
theorem zKH {h:Host}(hs:zb3 h)(m:Int):∀c∈Ty.cells .mon (zkY h m),CVB sm c:=by
 unfold zkY;cases hh:hasB m (ln h.Mons)
 ·have e:∀{t:Ty},CVB sm (.s t []):=fun {t}=>.s t [] (Nat.zero_le _) (fun x hx=>by cases hx)
  intro c hc;simp only [cF,Ty.cells,Ty.dflt,List.mem_cons,List.not_mem_nil,or_false] at hc;rcases hc with rfl|rfl|rfl|rfl|rfl|rfl|rfl|rfl|rfl
  all_goals first|exact e|exact .i _ _
 ·exact hs.mons.inv.2 _ (zbj hh _)
def zvP (h:Host)(m:Int):List Bool:=(zkY h m).Dirty
theorem zGy {h:Host}(hs:zb3 h)(m:Int):CVB sm (.s .bool (zvP h m)):=zKH hs m (.s .bool (zkY h m).Dirty) (by simp [Ty.cells])
def zoy (h:Host)(_:Int):Bool:=pc (zb3 h)
def zg2 (h:Host)(m:Int):List Bool:=zvP h m
def zwr:Run:=rF2 dH dI (fun b c=>((zoy b c),[aS .bool (zg2 b c)]))
def zBh (N:Nat)(a0:Host)(a1:Int):OA :=
 let y0:=(ap [] (ix a0.Mons a1 zf).Dirty); (oN (zl8 a1 (ln a0.Mons)) (cond (nB (zmR a1 (ln a0.Mons))) (some [(aS .bool [])]) (oN (inb a1 (ln a0.Mons)) (oN (few (ln y0)) (some [(aS .bool y0)])))))
theorem zJV (a0:Host)(a1:Int)(hc:(zoy a0 a1)=true):∃N,zBh N a0 a1=some [aS .bool (zg2 a0 a1)]:=by
 have hd:=zGy (zJ.1 hc) a1;refine ⟨0,?_⟩;unfold zBh zg2 zmR oN nB
 conv=>zeta
 unfold zvP zkY at *;cases hh:hasB a1 (ln a0.Mons)
 ·rfl
 ·rw [hh,cT] at hd;have hf:=zjt hd;simp only [zl8,cT,cF,zx hh,zjs,hf]
theorem zEo:Holds Tryz.prog 15 zwr:=kF2 zEf zbs zC zB (zA []) zJV
def zxu (h:Host)(m:Int):List Int:=idxs (fun b=>b) (zvP h m) 0
abbrev ztW (l:List Slot)(_:Int):Bool:=pc (l.length<=2147483648)
abbrev zmw (l:List Slot)(p:Int):List Int:=idxs (fun (s:Slot)=>ieq s.Page p) l 0
def zwR:Run:=rF2 (dS .slot) dI (fun b c=>((ztW b c),[aS .int (zmw b c)]))
def zBF (N:Nat)(a0:lS)(a1:Int):OA :=
 (iter (σ:=(Int×(Int×(lS×((List Int)×Unit))))) N (fun r3 s4=>(cond (ilt s4.2.1 (ln s4.2.2.1)) (oN (inb s4.2.1 (ln s4.2.2.1)) (cond (ieq (ix s4.2.2.1 s4.2.1 zX).Page s4.1) (oN (few (ln (ap s4.2.2.2.1 [s4.2.1]))) (r3 (s4.1,((zK .i64 s4.2.1 1),(s4.2.2.1,((ap s4.2.2.2.1 [s4.2.1]),())))))) (r3 (s4.1,((zK .i64 s4.2.1 1),(s4.2.2.1,(s4.2.2.2.1,()))))))) (some [(aS .int s4.2.2.2.1)]))) (a1,(0,(a0,([],())))))
def zLG:FuncId->Nat->Option Tmpl:=zA [(155,0,{ n:=26,tm:=[(0,.sl 0 []),(1,ti),(5,.sl 1 []),(6,ti)],lo:=[],ro:=[(0,.slot,false),(1,.int,true)] })]
theorem zKl (a0:List Slot)(a1:Int)(hb:zci big [aS .slot a0,aI a1])(hc:(ztW a0 a1)=true):∃N,zBF N a0 a1=some [aS .int (zmw a0 a1)]:=by
 have hl:=(len0 hb);have hs:=zJ.1 hc;refine zc9 fun N hNN=>?_;unfold zBF oN;refine (zby a0 (fun i (t:(List Int))=>(a1,(i:Int),a0,t,())) _ (fun i (x:Slot) (t:List Int) κ=>bif ieq x.Page a1 then (cond (few (ln (ap t [(i:Int)]))) (κ (ap t [(i:Int)])) none) else κ t) (fun (t:(List Int))=>(some [(.one (.s .int t))])) (fun i hi t rec=>?_) (fun t rec=>?_) _ ([]) (hNN hl)).trans ?_
 ·simp only [zcb hi,zbx hi,zbF hi,zbu hi hl,cT]
 ·simp only [zb6,cF]
 exact zl3 (fun (s:Slot)=>ieq s.Page a1) _ _ 0 [] (by simpa using hs)
theorem zEN:Holds Tryz.prog 155 zwR:=hF2 zEf zbs zC zB zLG zKl
def zUp:zS:=[(15,zwr),(155,zwR)]++zW7
theorem zJh:zD zUp:=zk zEo (zk zEN zEf)
def zrz (h:Host)(_:Int):Bool:=pc (zb3 h)
def zv5 (h:Host)(m:Int):List Int:=zxu h m
def zuq:Run:=rF2 dH dI (fun b c=>((zrz b c),[aS .int (zv5 b c)]))
def zyz (N:Nat)(a0:Host)(a1:Int):OA :=
 (oN (zoy a0 a1) (iter (σ:=(Int×(Int×((List Int)×(lB×Unit))))) N (fun r3 s4=>(cond (ilt s4.2.1 s4.1) (oN (inb s4.2.1 (ln s4.2.2.2.1)) (cond (ix s4.2.2.2.1 s4.2.1 false) (oN (few (ln (ap s4.2.2.1 [s4.2.1]))) (r3 (s4.1,((zK .i64 s4.2.1 1),((ap s4.2.2.1 [s4.2.1]),(s4.2.2.2.1,())))))) (r3 (s4.1,((zK .i64 s4.2.1 1),(s4.2.2.1,(s4.2.2.2.1,()))))))) (some [(aS .int s4.2.2.1)]))) ((ln (zg2 a0 a1)),(0,([],((zg2 a0 a1),()))))))
def zIm:FuncId->Nat->Option Tmpl:=zA [(8,0,{ n:=25,tm:=[(5,.sl 0 []),(11,.sl 1 []),(12,ti),(13,ti)],lo:=[],ro:=[(0,.int,true),(1,.bool,true)] })]
theorem zHz (a0:Host)(a1:Int)(hc:(zrz a0 a1)=true):∃N,zyz N a0 a1=some [aS .int (zv5 a0 a1)]:=by
 have hs:=zJ.1 hc;have hd:CVB sm (.s .bool (zg2 a0 a1)):=zGy hs a1;have hl:=zc0 hd.len;refine zc9 fun N hNN=>?_;unfold zyz oN;rw [show zoy a0 a1=true from zbc hs,cT]
 refine (zby (zg2 a0 a1) (fun i (t:(List Int))=>((ln (zg2 a0 a1)),(i:Int),t,(zg2 a0 a1),())) _ (fun i (x:Bool) (t:List Int) κ=>bif x then (cond (few (ln (ap t [(i:Int)]))) (κ (ap t [(i:Int)])) none) else κ t) (fun (t:(List Int))=>(some [(.one (.s .int t))])) (fun i hi t rec=>?_) (fun t rec=>?_) _ ([]) (hNN hl.1)).trans ?_
 ·simp only [zcb hi,zbx hi,zbF hi,zbu hi hl.1,cT]
 ·simp only [zb6,cF]
 exact zl3 (fun b=>b) _ _ 0 [] (by simpa using hl.2)
theorem zCp:Holds Tryz.prog 8 zuq:=kF2 zJh zbs zC zB zIm zHz
def zUq:zS:=[(8,zuq)]++zUp
theorem zSz:zD zUq:=zk zCp zJh
def zUr:zS:=zUq
theorem zz7:zD zUr:=zSz
theorem zTh {h:Host}(hs:zb3 h)(m:Int):CVB sm (.s .slot (zkY h m).Outer):=zKH hs m (.s .slot (zkY h m).Outer) (by simp [Ty.cells])
def zl4 (s:Slot):Bool:=ine s.Page (-1) && !enough s.Rights 2
def zqu (h:Host)(m:Int):List Int:=idxs zl4 (zkY h m).Outer 0
def znY (h:Host)(_:Int):Bool:=pc (zb3 h)
def zmQ (h:Host)(m:Int):List Int:=zqu h m
def zqD:Run:=rF2 dH dI (fun b c=>((znY b c),[aS .int (zmQ b c)]))
def zt9 (N:Nat)(a0:Host)(a1:Int):OA :=
 (oN (zl8 a1 (ln a0.Mons)) (cond (nB (zmR a1 (ln a0.Mons))) (some [(aS .int [])]) (oN (inb a1 (ln a0.Mons)) (iter (σ:=(Int×(Int×(Int×((List Int)×(lN×Unit)))))) N (fun r3 s4=>let y3:=s4.2.2.1;let y2:=(ix s4.2.2.2.2.1 s4.1 zf).Outer;let y1:=(r3 (s4.1,(s4.2.1,((zK .i64 y3 1),(s4.2.2.2.1,(s4.2.2.2.2.1,()))))));let y0:=(ix y2 y3 zX); (cond (ilt y3 s4.2.1) (oN (inb y3 (ln y2)) (cond (ine y0.Page (-1)) (oN (zoz y0.Rights 2) (cond (nB (zl6 y0.Rights 2)) (oN (few (ln (ap s4.2.2.2.1 [y3]))) (r3 (s4.1,(s4.2.1,((zK .i64 y3 1),((ap s4.2.2.2.1 [y3]),(s4.2.2.2.2.1,()))))))) y1)) y1)) (some [(aS .int s4.2.2.2.1)]))) (a1,((ln (ix a0.Mons a1 zf).Outer),(0,([],(a0.Mons,())))))))))
def zD3:FuncId->Nat->Option Tmpl:=zA [(16,0,{ n:=38,tm:=[(2,.fn 17 []),(7,.sl 0 []),(22,.sl 1 [0]),(23,ti),(24,ti)],lo:=[],ro:=[(0,.int,true),(1,.mon,false)] })]
theorem zC7 (a0:Host)(a1:Int)(hc:(znY a0 a1)=true):∃N,zt9 N a0 a1=some [aS .int (zmQ a0 a1)]:=by
 have ho:=zc0 (zTh (zJ.1 hc) a1).len;refine zc9 fun N hNN=>?_;unfold zt9 zmQ zmR oN nB
 conv=>zeta
 unfold zqu zkY at *;cases hh:hasB a1 (ln a0.Mons)
 ·rfl
 ·rw [hh,cT] at ho;rw [show zl8 a1 (ln a0.Mons)=true from rfl,cT,cT,cF,zx hh,cT]
  refine (zby ((ix a0.Mons a1 zf).Outer) (fun i (t:(List Int))=>(a1,(ln (ix a0.Mons a1 zf).Outer),(i:Int),t,a0.Mons,())) _ (fun i (x:Slot) (t:List Int) κ=>bif zl4 x then (cond (few (ln (ap t [(i:Int)]))) (κ (ap t [(i:Int)])) none) else κ t) (fun (t:(List Int))=>(some [(.one (.s .int t))])) (fun i hi t rec=>?_) (fun t rec=>?_) _ ([]) (hNN ho.1)).trans ?_
  ·simp only [zcb hi,zbx hi,zbF hi,zbu hi ho.1,cT];simp only [zx hh,zoz,zl6,zl4,cT];generalize (ix a0.Mons a1 zf).Outer[i]=s;cases ine s.Page (-1)<;>cases enough s.Rights 2<;>rfl
  ·simp only [zb6,cF]
  exact zl3 zl4 _ _ 0 [] (by simpa using ho.2)
theorem zxW:Holds Tryz.prog 9 zqD:=kF2 zz7 zbs zC zB zD3 zC7
theorem zJC {α ρ:Type}(c:Nat->α->Bool)(f:Nat->Int)(K:List Int->Option ρ):∀(l:List α) (i:Nat) (acc:List Int),(∀i,∀x∈l,c i x=true)->acc.length+l.length<=2147483648 ->
 goL (fun i x acc k=>bif c i x then (cond (few (ln (ap acc [f i]))) (k (ap acc [f i])) none) else none) K l i acc=K (acc++(List.range' i l.length).map f)
 | [],i,acc,_,_=>by simp [goL]
 | x :: l,i,acc,hc,h=>by
  simp only [List.length_cons] at h;simp only [goL];rw [hc i x (by simp),cT,zf0 (by simp [ap];omega),cT,zJC c f K l (i+1) _ (fun j y hy=>hc j y (by simp [hy])) (by simp [ap];omega)]
  simp [ap,List.range'_succ]
def zxQ (h:Host):List Int:=(List.range' 0 h.Mons.length).map fun (i:Nat)=>zjR h (i:Int)
def zrA (h:Host):Bool:=pc (zb3 h)
def zv6 (h:Host):List Int:=zxQ h
def zur:Run:=rF1 dH (fun b=>((zrA b),[aS .int (zv6 b)]))
def zyA (N:Nat)(a0:Host):OA :=
 (iter (σ:=(Int×(Int×((List Int)×(lM×(lN×(lE×(lE×Unit)))))))) N (fun r2 s3=>let y0:=(⟨s3.2.2.2.1,s3.2.2.2.2.1,s3.2.2.2.2.2.1,s3.2.2.2.2.2.2.1⟩:Host);let y1:=(ap s3.2.2.1 [(zl7 y0 s3.2.1)]); (cond (ilt s3.2.1 s3.1) (oN (zkq y0 s3.2.1) (oN (few (ln y1)) (r2 (s3.1,((zK .i64 s3.2.1 1),(y1,(s3.2.2.2.1,(s3.2.2.2.2.1,(s3.2.2.2.2.2.1,(s3.2.2.2.2.2.2.1,())))))))))) (some [(aS .int s3.2.2.1)]))) ((ln a0.Mons),(0,([],(a0.Memory,(a0.Mons,(a0.Buffer,(a0.IoBuffer,()))))))))
def zIn:FuncId->Nat->Option Tmpl:=zA [(10,0,{ n:=20,tm:=[(1,.lp 0 0),(3,.sl 0 []),(8,ti),(9,ti)],lo:=[(0,[.sl 1 [],.sl 2 [],.sl 3 [],.sl 4 []])],ro:=[(0,.int,true),(1,(.sl .int),false),(2,.mon,false),(3,.entry,false),(4,.entry,false)] })]
theorem zHA (a0:Host)(hc:(zrA a0)=true):∃N,zyA N a0=some [aS .int (zv6 a0)]:=by
 have hs:=zJ.1 hc;have hl:=zc0 hs.mons.len;refine zc9 fun N hNN=>?_;unfold zyA oN
 conv=>zeta
 refine (zby a0.Mons (fun i (t:(List Int))=>((ln a0.Mons),(i:Int),t,a0.Memory,a0.Mons,a0.Buffer,a0.IoBuffer,())) _ (fun i (x:Mon) (t:List Int) κ=>bif true then (cond (few (ln (ap t [zjR a0 (i:Int)]))) (κ (ap t [zjR a0 (i:Int)])) none) else none) (fun (t:(List Int))=>(some [(.one (.s .int t))])) (fun i hi t rec=>?_) (fun t rec=>?_) _ ([]) (hNN hl.1)).trans ?_
 ·simp only [zcb hi,zbx hi,zbF hi,zbu hi hl.1,cT];simp only [hE,zl7,zkq,cT]
 ·simp only [zb6,cF]
 exact zJC (fun i _=>true) (fun i=>zjR a0 (i:Int)) _ _ 0 [] (fun i x _=>rfl) (by simpa using hl.2)
theorem zCq:Holds Tryz.prog 10 zur:=kF1 zz7 zbs zC zB zIn zHA
theorem zxG (x y:Int):ine x y = !ieq x y:=rfl
def zUs:zS:=[(9,zqD),(10,zur)]++zUr
theorem zJi:zD zUs:=zk zxW (zk zCq zz7)
def zt7:List Int:=rp 4 0
def zb4 (m:List (List Int))(p:Int):List Int:=bif hasB p (ln m) then ix m p [] else zt7
def ztR (m:List (List Int))(_:Int):Bool:=pc (CVB sm (.s (.sl .int) m))
def ztQ (m:List (List Int))(p:Int):List Int:=zb4 m p
theorem zXn {m:List (List Int)}{p:Int}(hs:CVB sm (.s (.sl .int) m))(hh:hasB p (ln m)=true):(ix m p []).length<=2147483648 :=
 (zc0 (hs.inv.2 _ (zbj hh ([]:List Int)) (.s .int _) (List.mem_singleton.2 rfl)).len).2
def zwI:Run:=rF2 (dS (.sl .int)) dI (fun b c=>((ztR b c),[aS .int (ztQ b c)]))
def zBw (N:Nat)(a0:lM)(a1:Int):OA :=
 (oN (zF a1 0 (wsub .i64 (ln a0) 1)) (cond (nB (zI a1 0 (wsub .i64 (ln a0) 1))) (oN (cond (few 4) (ieq 4 4) false) (some [(aS .int (rp 4 0))])) (oN (inb a1 (ln a0)) (oN (few (ln (ap [] (ix a0 a1 [])))) (some [(aS .int (ap [] (ix a0 a1 [])))])))))
theorem zKc (a0:List (List Int))(a1:Int)(hc:(ztR a0 a1)=true):∃N,zBw N a0 a1=some [aS .int (ztQ a0 a1)]:=by
 have hs:=zJ.1 hc;refine ⟨0,?_⟩;unfold zBw ztQ zb4 oN nB;have e:zI a1 0 (wsub .i64 (ln a0) 1)=hasB a1 (ln a0):=zC4 (zc0 hs.len).1 a1;rw [e];cases hh:hasB a1 (ln a0)
 ·rfl
 ·simp only [zF,cT,cF,zx hh,zjs,zf0 (zXn hs hh)]
theorem zEE:Holds Tryz.prog 135 zwI:=kF2 zJi zbs zC zB (zA []) zKc
def zUt:zS:=[(135,zwI)]++zUs
theorem zSA:zD zUt:=zk zEE zJi
def zcu (h:Host)(m p:Int):List Int :=
 bif hasB m (ln h.Mons) then (cond (hasB p 8) (cond (ine (zbh (ix h.Mons m zf).Outer p).Page (-1)) (zb4 h.Memory (zbh (ix h.Mons m zf).Outer p).Page) (zb4 (ix h.Mons m zf).Out p)) zt7) else zt7
def zUu:zS:=zUt
theorem zSB:zD zUu:=zSA
def zUv:zS:=zUu
theorem zSC:zD zUv:=zSB
def zW6:zS:=zUv
theorem zVJ:∀f run,zh zW6 f=some run->Holds Tryz.prog f run:=zSC
def zW5:zS:=zW6
theorem zfQ:zD zW5:=zVJ
def zwj:zgf:=zj7
theorem zy:ze7 zwj:=zbs
def canRun (g:Guest):Bool:=bif (ieq g.Exit.Kind 0&&(ieq g.Exit.Page 0&&(zta g.Exit.Write false&&ieq g.Exit.N 0))) then !g.Halted else false
def zoG (_:Guest):Bool:=true
abbrev zmp (g:Guest):Bool:=canRun g
def zwx:Run:=rF1 (dT .guest) (fun b=>((zoG b),[aB (zmp b)]))
def zBm (N:Nat)(a0:Guest):OA :=
 (cond (cond (ieq a0.Exit.Kind 0) (cond (ieq a0.Exit.Page 0) (cond (zta a0.Exit.Write false) (ieq a0.Exit.N 0) false) false) false) (some [(aB (nB a0.Halted))]) oF)
theorem zJ0 (a0:Guest)(hc:(zoG a0)=true):∃N,zBm N a0=some [aB (zmp a0)]:=by
 refine ⟨0,?_⟩;unfold zBm zmp canRun nB;cases ieq a0.Exit.Kind 0<;>cases ieq a0.Exit.Page 0<;>cases zta a0.Exit.Write false<;>cases ieq a0.Exit.N 0<;>simp
theorem zEt:Holds Tryz.prog 102 zwx:=kF1 zxs zbs zC zB (zA []) zJ0
theorem must {ρ:Type}{c:Bool}{a b r:Option ρ}(h:c=true)(k:a=r):(cond c a b)=r:=by rw [h];exact k
theorem mu {ρ:Type}{c:Bool}{a b r:Option ρ}(k:a=r)(h:c=true:=by first|assumption|(simp_all<;>omega)):(cond c a b)=r:=must h k
theorem zdx {ρ:Type}{c:Bool}{a b r:Option ρ}(h:c=false)(k:b=r):(cond c a b)=r:=by rw [h];exact k
theorem br {ρ:Type}{c:Bool}{a b r:Option ρ}(h1:c=true->a=r)(h2:c=false->b=r):(cond c a b)=r:=by
 cases c
 ·exact h2 rfl
 ·exact h1 rfl
theorem brN {ρ:Type}{c:Bool}{a b r:Option ρ}(h1:c=false->a=r)(h2:c=true->b=r):(cond (cond c false true) a b)=r:=by
 cases c
 ·exact h1 rfl
 ·exact h2 rfl
theorem shr {α ρ:Type}{x:α}{f:α->Option ρ}{r:Option ρ}(h:f x=r):share x f=r:=h
theorem zpa {ρ:Type}{c p:Bool}{a b:Option ρ}(hc:c=true):(cond c (cond (cond p false true) a b) none)=bif p then b else a:=by
 rw [hc];cases p<;>rfl
attribute [simp] zJ
@[simp] theorem zVT {α:Type}(l:List α):(few (ln l)=true)↔l.length<=2147483648:=by
 unfold few ln;rw [decide_eq_true_iff];omega
@[simp] theorem zYk {α:Type}(l m:List α):(ap l m).length=l.length+m.length:=by simp [ap]
attribute [simp] zjs ze9
@[simp] theorem zUW (n:Nat)(k:IntKind)(x:Int):CVB n (.i k x)↔True:=⟨fun _=>trivial,fun _=>.i k x⟩
@[simp] theorem zYo (n:Nat)(x:Bool):CVB n (.b x)↔True:=⟨fun _=>trivial,fun _=>.b x⟩
theorem ziH {n:Nat}{t:Ty}(l:List t.den):CVB n (.s t l)↔l.length<=n/\∀x∈l,∀c∈t.cells x,CVB n c:=⟨fun h=>h.inv,fun h=>.s t l h.1 h.2⟩
@[simp] theorem zNh (n:Nat)(l:List Int):CVB n (.s .int l)↔l.length<=n:=by rw [ziH];simp [Ty.cells]
@[simp] theorem zXb (n:Nat)(l:List Int):CVB n (.s .u8 l)↔l.length<=n:=by rw [ziH];simp [Ty.cells]
@[simp] theorem zSL (n:Nat)(l:List Bool):CVB n (.s .bool l)↔l.length<=n:=by rw [ziH];simp [Ty.cells]
@[simp] theorem zSN (n:Nat)(l:List Slot):CVB n (.s .slot l)↔l.length<=n:=by rw [ziH];simp [Ty.cells]
@[simp] theorem zVL (n:Nat)(l:List Ins):CVB n (.s .ins l)↔l.length<=n:=by rw [ziH];simp [Ty.cells]
@[simp] theorem zQv (n:Nat)(l:List Entry):CVB n (.s .entry l)↔l.length<=n:=by rw [ziH];simp [Ty.cells]
@[simp] theorem zVK (n:Nat)(l:List GAct):CVB n (.s .act l)↔l.length<=n:=by rw [ziH];simp [Ty.cells]
@[simp] theorem zSO (n:Nat)(l:List Told):CVB n (.s .told l)↔l.length<=n:=by rw [ziH];simp [Ty.cells]
def SmM (m:List (List Int)):Prop:=m.length<=1048576/\∀x∈m,x.length<=1048576
def SmG (g:Guest):Prop:=g.Prog.length<=1048576/\g.Written.length<=1048576/\g.Live.length<=1048576/\g.Seen.length<=1048576
def zkN (l:List Guest):Prop:=l.length<=1048576/\∀x∈l,SmG x
def SmB (b:Bare):Prop:=SmM b.Memory/\zkN b.Guests/\b.Outs.length<=1048576
def zOd (l:List Bare):Prop:=l.length<=1048576/\∀x∈l,SmB x
theorem zTJ:sm=1048576:=rfl
@[simp] theorem zOy (l:List Int):CVB sm (.s .int l)↔l.length<=1048576:=zNh sm l
@[simp] theorem zX2 (l:List Int):CVB sm (.s .u8 l)↔l.length<=1048576:=zXb sm l
@[simp] theorem zL1 (l:List Bool):CVB sm (.s .bool l)↔l.length<=1048576:=zSL sm l
@[simp] theorem zL2 (l:List Slot):CVB sm (.s .slot l)↔l.length<=1048576:=zSN sm l
@[simp] theorem zXH (l:List Ins):CVB sm (.s .ins l)↔l.length<=1048576:=zVL sm l
@[simp] theorem zJs (l:List Entry):CVB sm (.s .entry l)↔l.length<=1048576:=zQv sm l
@[simp] theorem zXG (l:List GAct):CVB sm (.s .act l)↔l.length<=1048576:=zVK sm l
@[simp] theorem zXA (l:List Told):CVB sm (.s .told l)↔l.length<=1048576:=zSO sm l
@[simp] theorem zoY (l:List (List Int)):CVB sm (.s (.sl .int) l)↔SmM l:=by rw [ziH];simp [Ty.cells,SmM,zTJ]
@[simp] theorem zVp (g:Guest):(∀c∈Ty.cells .guest g,CVB sm c)↔SmG g:=by simp [Ty.cells,SmG,zTJ]
@[simp] theorem zqm (l:List Guest):CVB sm (.s .guest l)↔zkN l:=by rw [ziH];simp only [zVp];rfl
@[simp] theorem zVo (b:Bare):(∀c∈Ty.cells .bare b,CVB sm c)↔SmB b:=by
 simp only [Ty.cells,List.mem_cons,List.not_mem_nil,or_false,forall_eq_or_imp,forall_eq,zoY,zqm,zNh,zUW,and_true];rfl
@[simp] theorem zX5 (l:List Bare):CVB sm (.s .bare l)↔zOd l:=by rw [ziH];simp only [zVo];rfl
@[simp] theorem zYn (a:List Ins)(b c:Int)(d e:List Slot)(f:Ctl)(g:Int)(h:GExit)(i:Bool)(j:List Int):SmG ⟨a,b,c,d,e,f,g,h,i,j⟩↔a.length<=1048576/\d.length<=1048576/\e.length<=1048576/\j.length<=1048576:=Iff.rfl
@[simp] theorem zYm (m:List (List Int))(g:List Guest)(o:List Int)(p:Int):SmB ⟨m,g,o,p⟩↔SmM m/\zkN g/\o.length<=1048576:=Iff.rfl
theorem zDT {m:List (List Int)}{i:Int}{x:List Int}(h:SmM m)(hx:x.length<=1048576):SmM (up m i x):=by
 refine ⟨by simpa using h.1,fun y hy=>?_⟩
 rcases List.mem_or_eq_of_mem_set hy with hy|rfl
 ·exact h.2 y hy
 ·exact hx
theorem zxR {m:List Guest}{i:Int}{x:Guest}(h:zkN m)(hx:SmG x):zkN (up m i x):=by
 refine ⟨by simpa using h.1,fun y hy=>?_⟩
 rcases List.mem_or_eq_of_mem_set hy with hy|rfl
 ·exact h.2 y hy
 ·exact hx
theorem zWB {m:List Bare}{i:Int}{x:Bare}(h:zOd m)(hx:SmB x):zOd (up m i x):=by
 refine ⟨by simpa using h.1,fun y hy=>?_⟩
 rcases List.mem_or_eq_of_mem_set hy with hy|rfl
 ·exact h.2 y hy
 ·exact hx
theorem zRM {l:List Guest}{i:Int}(h:zkN l)(hh:hasB i (ln l)=true)(d:Guest):SmG (ix l i d):=h.2 _ (zbj hh d)
theorem zXv {l:List (List Int)}{i:Int}(h:SmM l)(hh:hasB i (ln l)=true)(d:List Int):(ix l i d).length<=1048576:=h.2 _ (zbj hh d)
@[simp] theorem zXV:SmG zq:=⟨by decide,by decide,by decide,by decide⟩
def win (x a b:Int):Bool:=ige x a&&ile x b
@[simp] theorem zIN (x a b:Int):zI x a b=win x a b:=rfl
@[simp] theorem zYp (x a b:Int):zpr x a b=win x a b:=rfl
@[simp] theorem zS0 (i n:Int):inb i n=hasB i n:=rfl
attribute [simp] zmR
@[simp] theorem zmF {α:Type}{l:List α}(h:l.length<=1048576)(i:Int):win i 0 (wsub .i64 (ln l) 1)=hasB i (ln l):=zGF (zc0 h).1 i
theorem zBg {α:Type}{l:List α}(h:l.length<=big)(i:Int):win i 0 (wsub .i64 (ln l) 1)=hasB i (ln l):=zGF h i
theorem ze5 {x a b:Int}:(win x a b=true)↔a<=x/\x<=b:=by
 unfold win ige ile;simp only [Bool.and_eq_true,decide_eq_true_iff]
theorem zV6 (a b:Int):ilt a b = !ige a b:=by
 unfold ilt ige
 by_cases h:a<b
 ·rw [decide_eq_true h,decide_eq_false (by omega)];rfl
 ·rw [decide_eq_false h,decide_eq_true (by omega)];rfl
attribute [simp] zbg zfd ziL zfM zfN zl6 zg7 zmp zb2
attribute [simp] zdy zcs zeJ
attribute [simp] zeG zcG zet
def zU (a:Int):Int:=bif ilt a 0 then -1 else zLQ .i64 a 4
def zcA (a:Int):Int:=bif ilt a 0 then -1 else zmG a 4
@[simp] abbrev zeT (a:Int):Bool:=true
@[simp] abbrev zcg (a:Int):Int:=zU a
def zsy:Run:=rF1 dI (fun b=>((zeT b),[aI (zcg b)]))
def zvh (N:Nat)(a0:Int):OA :=
 (cond (ilt a0 0) (some [(aI (-1))]) (oN (ine 4 0) (some [(aI (zLQ .i64 a0 4))])))
theorem zE3 (a0:Int)(hc:(zeT a0)=true):∃N,zvh N a0=some [aI (zcg a0)]:=by
 refine ⟨0,?_⟩;unfold zvh oN;refine br (fun _=>?_) (fun _=>must rfl ?_)
 all_goals first|rfl|(simp only [*,zcg,zU,cT,cF]<;>rfl)|simp_all [Ty.cells,zcg,zU]
theorem zAn:Holds Tryz.prog 90 zsy:=kF1 zfQ zy zC zB (zA []) zE3
@[simp] abbrev zgE (a:Int):Bool:=true
@[simp] abbrev zdo (a:Int):Int:=zcA a
def zsx:Run:=rF1 dI (fun b=>((zgE b),[aI (zdo b)]))
def zvg (N:Nat)(a0:Int):OA :=
 (cond (ilt a0 0) (some [(aI (-1))]) (oN (ine 4 0) (some [(aI (zmG a0 4))])))
theorem zE2 (a0:Int)(hc:(zgE a0)=true):∃N,zvg N a0=some [aI (zdo a0)]:=by
 refine ⟨0,?_⟩;unfold zvg oN;refine br (fun _=>?_) (fun _=>must rfl ?_)
 all_goals first|rfl|(simp only [*,zdo,zcA,cT,cF]<;>rfl)|simp_all [Ty.cells,zdo,zcA]
theorem zAm:Holds Tryz.prog 91 zsx:=kF1 zfQ zy zC zB (zA []) zE2
def zbL (w:Bool):Int:=bif w then 2 else 1
@[simp] abbrev zoJ (w:Bool):Bool:=true
@[simp] abbrev zec (w:Bool):Int:=zbL w
def zwG:Run:=rF1 dB (fun b=>((zoJ b),[aI (zec b)]))
def zBv (N:Nat)(a0:Bool):OA :=
 (cond a0 (some [(aI 2)]) (some [(aI 1)]))
theorem zKa (a0:Bool)(hc:(zoJ a0)=true):∃N,zBv N a0=some [aI (zec a0)]:=by
 refine ⟨0,?_⟩;unfold zBv;refine br (fun _=>?_) (fun _=>?_)
 all_goals first|rfl|(simp only [*,zec,zbL,cT,cF]<;>rfl)|simp_all [Ty.cells,zec,zbL]
theorem zEC:Holds Tryz.prog 110 zwG:=kF1 zfQ zy zC zB (zA []) zKa
def znz (p:Int)(w:Bool):GExit:=⟨1,p,w,0⟩
def zte (n:Int):GExit:=⟨2,0,false,n⟩
def zss (n:Int):GExit:=⟨3,0,false,n⟩
@[simp] abbrev zjU (p:Int)(w:Bool):Bool:=true
@[simp] abbrev zfm (p:Int)(w:Bool):GExit:=znz p w
def zqG:Run:=rF2 dI dB (fun b c=>((zjU b c),[.agg (ztm (zfm b c))]))
def zuf (N:Nat)(a0:Int)(a1:Bool):OA :=
 (some [(.agg [(.i .i64 1),(.i .i64 a0),(.b a1),(.i .i64 0)])])
theorem zDa (a0:Int)(a1:Bool)(hc:(zjU a0 a1)=true):∃N,zuf N a0 a1=some [.agg (ztm (zfm a0 a1))]:=by
 refine ⟨0,?_⟩;unfold zuf
 first|rfl|(simp only [*,zfm,cT,cF]<;>rfl)|simp_all [Ty.cells,zfm]
theorem zxY:Holds Tryz.prog 112 zqG:=kF2 zfQ zy zC zB (zA []) zDa
@[simp] abbrev zpH (n:Int):Bool:=true
@[simp] abbrev ziX (n:Int):GExit:=zte n
def zsA:Run:=rF1 dI (fun b=>((zpH b),[.agg (ztm (ziX b))]))
def zvk (N:Nat)(a0:Int):OA :=
 (some [(.agg [(.i .i64 2),(.i .i64 0),(.b false),(.i .i64 a0)])])
theorem zE6 (a0:Int)(hc:(zpH a0)=true):∃N,zvk N a0=some [.agg (ztm (ziX a0))]:=by
 refine ⟨0,?_⟩;unfold zvk
 first|rfl|(simp only [*,ziX,cT,cF]<;>rfl)|simp_all [Ty.cells,ziX]
theorem zAp:Holds Tryz.prog 146 zsA:=kF1 zfQ zy zC zB (zA []) zE6
@[simp] abbrev zrP (n:Int):Bool:=true
@[simp] abbrev zkx (n:Int):GExit:=zss n
def zuE:Run:=rF1 dI (fun b=>((zrP b),[.agg (ztm (zkx b))]))
def zyQ (N:Nat)(a0:Int):OA :=
 (some [(.agg [(.i .i64 3),(.i .i64 0),(.b false),(.i .i64 a0)])])
theorem zHR (a0:Int)(hc:(zrP a0)=true):∃N,zyQ N a0=some [.agg (ztm (zkx a0))]:=by
 refine ⟨0,?_⟩;unfold zyQ
 first|rfl|(simp only [*,zkx,cT,cF]<;>rfl)|simp_all [Ty.cells,zkx]
theorem zCD:Holds Tryz.prog 147 zuE:=kF1 zfQ zy zC zB (zA []) zHR
def zfx (t x:Int):Bool:=bif win t 0 3 then (cond (win x 1 2) (ine (wand .i64 t x) 0) false) else false
@[simp] abbrev zgo (t x:Int):Bool:=true
@[simp] abbrev zf7 (t x:Int):Bool:=zfx t x
def zuu:Run:=rF2 dI dI (fun b c=>((zgo b c),[aB (zf7 b c)]))
def zyH (N:Nat)(a0 a1:Int):OA :=
 (oN (zF a0 0 3) (cond (zI a0 0 3) (oN (zF a1 1 2) (cond (zI a1 1 2) (some [(aB (ine (wand .i64 a0 a1) 0))]) oF)) oF))
theorem zHH (a0 a1:Int)(hc:(zgo a0 a1)=true):∃N,zyH N a0 a1=some [aB (zf7 a0 a1)]:=by
 refine ⟨0,?_⟩;unfold zyH oN;refine must rfl (br (fun _=>must rfl (br (fun _=>?_) (fun _=>?_))) (fun _=>?_))
 all_goals first|rfl|(simp only [*,zf7,zfx,cT,cF]<;>rfl)|simp_all [Ty.cells,zf7,zfx]
theorem zCt:Holds Tryz.prog 145 zuu:=kF2 zfQ zy zC zB (zA []) zHH
def zcK (p:Int):Bool:=win p 0 255
@[simp] abbrev zef (p:Int):Bool:=true
@[simp] abbrev zee (p:Int):Bool:=zcK p
def zwL:Run:=rF1 dI (fun b=>((zef b),[aB (zee b)]))
def zBz (N:Nat)(a0:Int):OA :=
 (oN (zF a0 0 255) (some [(aB (zI a0 0 255))]))
theorem zKf (a0:Int)(hc:(zef a0)=true):∃N,zBz N a0=some [aB (zee a0)]:=by
 refine ⟨0,?_⟩;unfold zBz oN;refine must rfl ?_
 first|rfl|(simp only [*,zee,zcK,cT,cF]<;>rfl)|simp_all [Ty.cells,zee,zcK]
theorem zEH:Holds Tryz.prog 148 zwL:=kF1 zfQ zy zC zB (zA []) zKf
def zbV (l:List Ins)(p:Int):Ins:=bif hasB p (ln l) then ix l p zIO else ⟨7,0⟩
@[simp] abbrev zer (l:List Ins)(p:Int):Bool:=true
@[simp] abbrev zeC (l:List Ins)(p:Int):Ins:=zbV l p
def zzx:Run:=rF2 (dS .ins) dI (fun b c=>((zer b c),[aT .ins (zeC b c)]))
def zF3 (N:Nat)(a0:lI)(a1:Int):OA :=
 (oN (zF a1 0 (wsub .i64 (ln a0) 1)) (cond (nB (zI a1 0 (wsub .i64 (ln a0) 1))) (some [(.agg [(.i .i64 7),(.i .i64 0)])]) (oN (inb a1 (ln a0)) (some [(.agg [(.i .i64 (ix a0 a1 zIO).Op),(.i .i64 (ix a0 a1 zIO).X)])]))))
theorem zMk (a0:List Ins)(a1:Int)(hb:zci big [aS .ins a0,aI a1])(hc:(zer a0 a1)=true):∃N,zF3 N a0 a1=some [aT .ins (zeC a0 a1)]:=by
 have hl:=((zeN hb).1 _ (List.mem_singleton.2 rfl)).len;have hw:=zBg hl
 refine ⟨0,?_⟩;unfold zF3 oN nB;refine must rfl (brN (fun _=>?_) (fun _=>mu ?_))
 all_goals first|rfl|(simp only [*,zeC,zbV,cT,cF]<;>rfl)|simp_all [Ty.cells,zeC,zbV]
theorem zHl:Holds Tryz.prog 104 zzx:=hF2 zfQ zy zC zB (zA []) zMk
def zs4 (w:Int):Int:=bif ieq w 5 then 1 else 2
def zds (s:Slot)(n:Int):Bool:=bif zcz s noSlot then true else (cond (igt n 0) (cond (win s.Page 0 (wsub .i64 n 1)) (win s.Rights 1 3) false) false)
@[simp] abbrev zoM (s:Slot)(n:Int):Bool:=true
@[simp] abbrev zmv (s:Slot)(n:Int):Bool:=zds s n
def zwO:Run:=rF2 (dT .slot) dI (fun b c=>((zoM b c),[aB (zmv b c)]))
def zBC (N:Nat)(a0:Slot)(a1:Int):OA :=
 (oN zb2 (cond (cond (ieq a0.Page zbg.Page) (ieq a0.Rights zbg.Rights) false) oT (oN (zF a0.Page 0 (wsub .i64 a1 1)) (cond (zI a0.Page 0 (wsub .i64 a1 1)) (cond (igt a1 0) (oN (zF a0.Rights 1 3) (some [(aB (zI a0.Rights 1 3))])) oF) oF))))
theorem zKi (a0:Slot)(a1:Int)(hc:(zoM a0 a1)=true):∃N,zBC N a0 a1=some [aB (zmv a0 a1)]:=by
 refine ⟨0,?_⟩;unfold zBC oN;refine must rfl (br (fun _=>?_) (fun _=>must rfl (br (fun _=>br (fun _=>must rfl ?_) (fun _=>?_)) (fun _=>?_))))
 all_goals first|rfl|(simp only [*,zmv,zds,zcz,cT,cF]<;>rfl)|simp_all [Ty.cells,zmv,zds,zcz]
theorem zEK:Holds Tryz.prog 119 zwO:=kF2 zfQ zy zC zB (zA []) zKi
def zf4 (m:List (List Int))(p c:Int):Bool:=bif hasB p (ln m) then hasB c (ln (ix m p [])) else false
def cellAt (m:List (List Int))(p c:Int):Int:=bif zf4 m p c then ix (ix m p []) c 0 else 0
def zbm (m:List (List Int))(p c v:Int):List (List Int):=bif zf4 m p c then (cond (win v 0 99) (up m p (up (ix m p []) c v)) m) else m
theorem ztE (m:List (List Int))(p c:Int):(zf4 m p c=true)↔hasB p (ln m)=true/\hasB c (ln (ix m p []))=true:=by
 unfold zf4;cases hasB p (ln m)<;>simp
theorem zXa {n:Nat}{m:List (List Int)}(h:CVB n (.s (.sl .int) m)):m.length<=n/\∀p:Int,hasB p (ln m)=true->(ix m p []).length<=n :=
 ⟨h.len,fun p hp=>(h.inv.2 _ (zbj hp []) _ (List.mem_singleton.2 rfl)).len⟩
@[simp] abbrev zoO (m:List (List Int))(p c:Int):Bool:=true
@[simp] abbrev zmy (m:List (List Int))(p c:Int):Bool:=zf4 m p c
def zwT:Run:=rF3 (dS (.sl .int)) dI dI (fun b c d=>((zoO b c d),[aB (zmy b c d)]))
def zBH (N:Nat)(a0:lM)(a1 a2:Int):OA :=
 let y0:=(wsub .i64 (ln (ix a0 a1 [])) 1); (oN (zF a1 0 (wsub .i64 (ln a0) 1)) (cond (zI a1 0 (wsub .i64 (ln a0) 1)) (oN (inb a1 (ln a0)) (oN (zF a2 0 y0) (some [(aB (zI a2 0 y0))]))) oF))
theorem zKn (a0:List (List Int))(a1 a2:Int)(hb:zci big [aS (.sl .int) a0,aI a1,aI a2])(hc:(zoO a0 a1 a2)=true):∃N,zBH N a0 a1 a2=some [aB (zmy a0 a1 a2)]:=by
 have hl:=zXa ((zeN hb).1 _ (List.mem_singleton.2 rfl));have hw:=zBg hl.1;have hw2:∀p i:Int,hasB p (ln a0)=true->win i 0 (wsub .i64 (ln (ix a0 p [])) 1)=hasB i (ln (ix a0 p [])):=fun p i h=>zBg (hl.2 p h) i
 refine ⟨0,?_⟩;unfold zBH oN
 conv=>zeta
 refine must rfl (br (fun _=>mu (must rfl ?_)) (fun _=>?_))
 all_goals first|rfl|(simp only [*,zmy,zf4,cT,cF]<;>rfl)|simp_all [Ty.cells,zmy,zf4]
theorem zEO:Holds Tryz.prog 126 zwT:=hF3 zfQ zy zC zB (zA []) zKn
def zUE:zS:=[(102,zwx),(90,zsy),(91,zsx),(110,zwG),(112,zqG),(146,zsA),(147,zuE),(145,zuu),(148,zwL),(104,zzx),(119,zwO),(126,zwT)]++zW5
theorem zj0:zD zUE:=zk zEt (zk zAn (zk zAm (zk zEC (zk zxY (zk zAp (zk zCD (zk zCt (zk zEH (zk zHl (zk zEK (zk zEO zfQ)))))))))))
@[simp] abbrev zoH (m:List (List Int))(p c:Int):Bool:=true
@[simp] abbrev zkb (m:List (List Int))(p c:Int):Int:=cellAt m p c
def zwy:Run:=rF3 (dS (.sl .int)) dI dI (fun b c d=>((zoH b c d),[aI (zkb b c d)]))
def zBn (N:Nat)(a0:lM)(a1 a2:Int):OA :=
 (oN (zoO a0 a1 a2) (cond (nB (zmy a0 a1 a2)) (some [(aI 0)]) (oN (inb a1 (ln a0)) (oN (inb a2 (ln (ix a0 a1 []))) (some [(aI (ix (ix a0 a1 []) a2 0))])))))
theorem zJ1 (a0:List (List Int))(a1 a2:Int)(hc:(zoH a0 a1 a2)=true):∃N,zBn N a0 a1 a2=some [aI (zkb a0 a1 a2)]:=by
 have hm:=(ztE a0 a1 a2).1;refine ⟨0,?_⟩;unfold zBn oN nB;refine must rfl (brN (fun _=>?_) (fun _=>mu (mu ?_)))
 all_goals first|rfl|(simp only [*,zkb,cellAt,cT,cF]<;>rfl)|simp_all [Ty.cells,zkb,cellAt]
theorem zEu:Holds Tryz.prog 92 zwy:=kF3 zj0 zy zC zB (zA []) zJ1
def zcI (t:List Slot)(n p:Int):Bool:=bif t.all (fun s=>zds s p) then ieq (ln t) n else false
@[simp] abbrev zjG (t:List Slot)(n p:Int):Bool:=true
@[simp] abbrev zf9 (t:List Slot)(n p:Int):Bool:=zcI t n p
def zuK:Run:=rF3 (dS .slot) dI dI (fun b c d=>((zjG b c d),[aB (zf9 b c d)]))
def zyW (N:Nat)(a0:lS)(a1 a2:Int):OA :=
 (iter (σ:=(Int×(Int×(Int×(lS×Unit))))) N (fun r4 s5=>let y0:=s5.2.2.2.1;let y1:=(ix y0 s5.2.2.1 zX); (cond (ilt s5.2.2.1 (ln y0)) (oN (inb s5.2.2.1 (ln y0)) (oN (zoM y1 s5.2.1) (cond (nB (zmv y1 s5.2.1)) oF (r4 (s5.1,(s5.2.1,((zK .i64 s5.2.2.1 1),(y0,())))))))) (some [(aB (ieq (ln y0) s5.1))]))) (a1,(a2,(0,(a0,())))))
def zIq:FuncId->Nat->Option Tmpl:=zA [(156,0,{ n:=25,tm:=[(0,.sl 0 []),(1,ti),(2,ti),(7,ti)],lo:=[],ro:=[(0,.slot,false)] })]
theorem zHX (a0:List Slot)(a1 a2:Int)(hb:zci big [aS .slot a0,aI a1,aI a2])(hc:(zjG a0 a1 a2)=true):∃N,zyW N a0 a1 a2=some [aB (zf9 a0 a1 a2)]:=by
 have hl:(_:List _).length<=big:=((zeN hb).1 _ (List.mem_singleton.2 rfl)).len;refine zc9 fun N hNN=>?_;unfold zyW oN nB
 conv=>zeta
 refine (zby a0 (fun i (t:Unit)=>(a1,a2,(i:Int),a0,())) _ (fun _ x (_:Unit) κ=>bif (fun s=>zds s a2) x then κ () else oF) (fun (t:Unit)=>(some [(.one (.b (ieq (ln a0) a1)))])) (fun i hi t rec=>?_) (fun t rec=>?_) _ () (hNN hl)).trans ?_
 ·simp only [zcb hi,zbx hi,zbF hi,zbu hi hl,cT];exact zpa rfl
 ·simp only [zb6,cF]
 rw [zl2 (fun s=>zds s a2)];refine br (fun h0=>?_) (fun h0=>?_)
 ·first|rfl|(simp only [h0,zf9,zcI,cT,cF]<;>rfl)|(simp_all [Ty.cells,zf9,zcI];done)
 ·first|rfl|(simp only [h0,zf9,zcI,cT,cF]<;>rfl)|(simp_all [Ty.cells,zf9,zcI];done)
theorem zCJ:Holds Tryz.prog 156 zuK:=hF3 zj0 zy zC zB zIq zHX
def zcr (c:List Int):Bool:=bif c.all (fun x=>win x 0 99) then ieq (ln c) 4 else false
@[simp] abbrev zeF (c:List Int):Bool:=true
@[simp] abbrev zed (c:List Int):Bool:=zcr c
def zwK:Run:=rF1 (dS .int) (fun b=>((zeF b),[aB (zed b)]))
def zBy (N:Nat)(a0:List Int):OA :=
 (iter (σ:=(Int×((List Int)×Unit))) N (fun r2 s3=>(cond (ilt s3.1 (ln s3.2.1)) (oN (inb s3.1 (ln s3.2.1)) (oN (zF (ix s3.2.1 s3.1 0) 0 99) (cond (nB (zI (ix s3.2.1 s3.1 0) 0 99)) oF (r2 ((zK .i64 s3.1 1),(s3.2.1,())))))) (some [(aB (ieq (ln s3.2.1) 4))]))) (0,(a0,())))
def zLD:FuncId->Nat->Option Tmpl:=zA [(154,0,{ n:=19,tm:=[(0,.sl 0 []),(3,ti)],lo:=[],ro:=[(0,.int,false)] })]
theorem zKe (a0:List Int)(hb:zci big [aS .int a0])(hc:(zeF a0)=true):∃N,zBy N a0=some [aB (zed a0)]:=by
 have hl:(_:List _).length<=big:=((zeN hb).1 _ (List.mem_singleton.2 rfl)).len;refine zc9 fun N hNN=>?_;unfold zBy oN nB;refine (zby a0 (fun i (t:Unit)=>((i:Int),a0,())) _ (fun _ x (_:Unit) κ=>bif (fun x=>win x 0 99) x then κ () else oF) (fun (t:Unit)=>(some [(.one (.b (ieq (ln a0) 4)))])) (fun i hi t rec=>?_) (fun t rec=>?_) _ () (hNN hl)).trans ?_
 ·simp only [zcb hi,zbx hi,zbF hi,zbu hi hl,cT];exact zpa rfl
 ·simp only [zb6,cF]
 rw [zl2 (fun x=>win x 0 99)];refine br (fun h0=>?_) (fun h0=>?_)
 ·first|rfl|(simp only [h0,zed,zcr,cT,cF]<;>rfl)|(simp_all [Ty.cells,zed,zcr];done)
 ·first|rfl|(simp only [h0,zed,zcr,cT,cF]<;>rfl)|(simp_all [Ty.cells,zed,zcr];done)
theorem zEG:Holds Tryz.prog 154 zwK:=hF1 zj0 zy zC zB zLD zKe
def zdJ (i:Ins):Bool:=bif (ieq i.Op 1||ieq i.Op 2||ieq i.Op 5||ieq i.Op 6) then win i.X 0 99 else (cond (ieq i.Op 3||ieq i.Op 4) (win i.X 0 15) (cond (ieq i.Op 7) (ieq i.X 0) (cond (ieq i.Op 8) (win i.X 0 11) false)))
@[simp] abbrev zw5 (i:Ins):Bool:=true
@[simp] abbrev zsS (i:Ins):Bool:=zdJ i
def zzy:Run:=rF1 (dT .ins) (fun b=>((zw5 b),[aB (zsS b)]))
def zF4 (N:Nat)(a0:Ins):OA :=
 let y10:=(ieq a0.Op 4);let y9:=(zF a0.X 0 99);let y8:=(aB (zI a0.X 0 99));let y7:=(ieq a0.Op 8);let y6:=(ieq a0.Op 7);let y5:=(ieq a0.Op 3);let y4:=(zF a0.X 0 11);let y3:=(zF a0.X 0 15);let y2:=(aB (ieq a0.X 0));let y1:=(aB (zI a0.X 0 11));let y0:=(aB (zI a0.X 0 15)); (cond (ieq a0.Op 1) (cond (ieq a0.Op 1) (oN y9 (some [y8])) (cond y5 (cond y5 (oN y3 (some [y0])) (cond y6 (some [y2]) (cond y7 (oN y4 (some [y1])) oF))) (cond y10 (oN y3 (some [y0])) (cond y6 (some [y2]) (cond y7 (oN y4 (some [y1])) oF))))) (cond (ieq a0.Op 2) (cond (ieq a0.Op 2) (oN y9 (some [y8])) (cond y5 (cond y5 (oN y3 (some [y0])) (cond y6 (some [y2]) (cond y7 (oN y4 (some [y1])) oF))) (cond y10 (oN y3 (some [y0])) (cond y6 (some [y2]) (cond y7 (oN y4 (some [y1])) oF))))) (cond (ieq a0.Op 5) (cond (ieq a0.Op 5) (oN y9 (some [y8])) (cond y5 (cond y5 (oN y3 (some [y0])) (cond y6 (some [y2]) (cond y7 (oN y4 (some [y1])) oF))) (cond y10 (oN y3 (some [y0])) (cond y6 (some [y2]) (cond y7 (oN y4 (some [y1])) oF))))) (cond (ieq a0.Op 6) (oN y9 (some [y8])) (cond y5 (cond y5 (oN y3 (some [y0])) (cond y6 (some [y2]) (cond y7 (oN y4 (some [y1])) oF))) (cond y10 (oN y3 (some [y0])) (cond y6 (some [y2]) (cond y7 (oN y4 (some [y1])) oF))))))))
theorem zMl (a0:Ins)(hc:(zw5 a0)=true):∃N,zF4 N a0=some [aB (zsS a0)]:=by
 refine ⟨0,?_⟩;unfold zF4 oN
 conv=>zeta
 refine br (fun _=>br (fun _=>must rfl ?_) (fun _=>br (fun _=>br (fun _=>must rfl ?_) (fun _=>br (fun _=>?_) (fun _=>br (fun _=>must rfl ?_) (fun _=>?_)))) (fun _=>br (fun _=>must rfl ?_) (fun _=>br (fun _=>?_) (fun _=>br (fun _=>must rfl ?_) (fun _=>?_)))))) (fun _=>br (fun _=>br (fun _=>must rfl ?_) (fun _=>br (fun _=>br (fun _=>must rfl ?_) (fun _=>br (fun _=>?_) (fun _=>br (fun _=>must rfl ?_) (fun _=>?_)))) (fun _=>br (fun _=>must rfl ?_) (fun _=>br (fun _=>?_) (fun _=>br (fun _=>must rfl ?_) (fun _=>?_)))))) (fun _=>br (fun _=>br (fun _=>must rfl ?_) (fun _=>br (fun _=>br (fun _=>must rfl ?_) (fun _=>br (fun _=>?_) (fun _=>br (fun _=>must rfl ?_) (fun _=>?_)))) (fun _=>br (fun _=>must rfl ?_) (fun _=>br (fun _=>?_) (fun _=>br (fun _=>must rfl ?_) (fun _=>?_)))))) (fun _=>br (fun _=>must rfl ?_) (fun _=>br (fun _=>br (fun _=>must rfl ?_) (fun _=>br (fun _=>?_) (fun _=>br (fun _=>must rfl ?_) (fun _=>?_)))) (fun _=>br (fun _=>must rfl ?_) (fun _=>br (fun _=>?_) (fun _=>br (fun _=>must rfl ?_) (fun _=>?_))))))))
 all_goals first|rfl|(simp only [*,zsS,zdJ,cT,cF]<;>rfl)|simp_all [Ty.cells,zsS,zdJ]
theorem zHm:Holds Tryz.prog 160 zzy:=kF1 zj0 zy zC zB (zA []) zMl
def zhg (e:GExit):Bool:=bif (ieq e.Kind 0||ieq e.Kind 4) then (ieq e.Page 0&&(!e.Write&&ieq e.N 0)) else (cond (ieq e.Kind 1) (win e.Page 0 3&&ieq e.N 0) (cond (ieq e.Kind 2||ieq e.Kind 3) (win e.N 0 99&&(ieq e.Page 0 && !e.Write)) false))
@[simp] theorem zYl (x:Bool):zta x false = !x:=by cases x<;>rfl
attribute [simp] ztz
@[simp] abbrev ztO (e:GExit):Bool:=true
@[simp] abbrev zpI (e:GExit):Bool:=zhg e
def zwA:Run:=rF1 dE (fun b=>((ztO b),[aB (zpI b)]))
def zBp (N:Nat)(a0:GExit):OA :=
 let y5:=(zI a0.N 0 99);let y4:=(zF a0.N 0 99);let y3:=(ieq a0.Kind 2);let y2:=(ieq a0.Page 0);let y1:=(aB (nB a0.Write));let y0:=(aB (cond (ieq a0.Kind a0.Kind) (cond y2 (cond (zta a0.Write false) (ieq a0.N 0) false) false) false)); (cond (ieq a0.Kind 0) (cond (ieq a0.Kind 0) (some [y0]) (cond (ieq a0.Kind 1) (oN (zF a0.Page 0 3) (cond (zI a0.Page 0 3) (some [(aB (ieq a0.N 0))]) oF)) (cond y3 (cond y3 (oN y4 (cond y5 (cond y2 (some [y1]) oF) oF)) oF) (cond (ieq a0.Kind 3) (oN y4 (cond y5 (cond y2 (some [y1]) oF) oF)) oF)))) (cond (ieq a0.Kind 4) (some [y0]) (cond (ieq a0.Kind 1) (oN (zF a0.Page 0 3) (cond (zI a0.Page 0 3) (some [(aB (ieq a0.N 0))]) oF)) (cond y3 (cond y3 (oN y4 (cond y5 (cond y2 (some [y1]) oF) oF)) oF) (cond (ieq a0.Kind 3) (oN y4 (cond y5 (cond y2 (some [y1]) oF) oF)) oF)))))
theorem zJ3 (a0:GExit)(hc:(ztO a0)=true):∃N,zBp N a0=some [aB (zpI a0)]:=by
 refine ⟨0,?_⟩;unfold zBp oN nB
 conv=>zeta
 refine br (fun _=>br (fun _=>?_) (fun _=>br (fun _=>must rfl (br (fun _=>?_) (fun _=>?_))) (fun _=>br (fun _=>br (fun _=>must rfl (br (fun _=>br (fun _=>?_) (fun _=>?_)) (fun _=>?_))) (fun _=>?_)) (fun _=>br (fun _=>must rfl (br (fun _=>br (fun _=>?_) (fun _=>?_)) (fun _=>?_))) (fun _=>?_))))) (fun _=>br (fun _=>?_) (fun _=>br (fun _=>must rfl (br (fun _=>?_) (fun _=>?_))) (fun _=>br (fun _=>br (fun _=>must rfl (br (fun _=>br (fun _=>?_) (fun _=>?_)) (fun _=>?_))) (fun _=>?_)) (fun _=>br (fun _=>must rfl (br (fun _=>br (fun _=>?_) (fun _=>?_)) (fun _=>?_))) (fun _=>?_)))))
 all_goals first|rfl|(simp only [*,zpI,zhg,cT,cF]<;>rfl)|simp_all [Ty.cells,zpI,zhg]
theorem zEw:Holds Tryz.prog 158 zwA:=kF1 zj0 zy zC zB (zA []) zJ3
def zqk (c:Ctl):List Int:=(cond (win c.Traps 0 3) [] [1])++((cond (win c.Post 0 255) [] [2])++((cond (ine c.Post 0) (cond c.Open [] [3]) [])++(cond (ieq c.Traps 2) (cond (ine c.Post 0) [4] []) [])))
@[simp] theorem zYi {α:Type}(x:α)(l m:List α):ap (x :: l) m=x :: ap l m:=rfl
@[simp] abbrev zof (c:Ctl):Bool:=true
@[simp] abbrev zjA (c:Ctl):List Int:=zqk c
def zqF:Run:=rF1 dC (fun b=>((zof b),[aS .int (zjA b)]))
def zue (N:Nat)(a0:Ctl):OA :=
 let y10:=(aS .int []);let y8:=(ap (ap [] [2]) [4]);let y7:=(ap (ap [] [1]) [4]);let y6:=(aS .int (ap [] [2]));let y5:=(aS .int (ap [] [1]));let y4:=(ap (ap [] [2]) [3]);let y3:=(ap (ap [] [1]) [3]);let y2:=(ieq a0.Traps 2);let y1:=(ine a0.Post 0);let y0:=(ap (ap [] [1]) [2]);let y9:=(aS .int y0); (oN (zF a0.Traps 0 3) (cond (nB (zI a0.Traps 0 3)) (oN (few (ln (ap [] [1]))) (oN (zF a0.Post 0 255) (cond (nB (zI a0.Post 0 255)) (oN (few (ln y0)) (cond y1 (cond (nB a0.Open) (oN (few (ln (ap y0 [3]))) (cond y2 (cond y1 (oN (few (ln (ap (ap y0 [3]) [4]))) (some [(aS .int (ap (ap y0 [3]) [4]))])) (some [(aS .int (ap y0 [3]))])) (some [(aS .int (ap y0 [3]))]))) (cond y2 (cond y1 (oN (few (ln (ap y0 [4]))) (some [(aS .int (ap y0 [4]))])) (some [y9])) (some [y9]))) (cond y2 (cond y1 (oN (few (ln (ap y0 [4]))) (some [(aS .int (ap y0 [4]))])) (some [y9])) (some [y9])))) (cond y1 (cond (nB a0.Open) (oN (few (ln y3)) (cond y2 (cond y1 (oN (few (ln (ap y3 [4]))) (some [(aS .int (ap y3 [4]))])) (some [(aS .int y3)])) (some [(aS .int y3)]))) (cond y2 (cond y1 (oN (few (ln y7)) (some [(aS .int y7)])) (some [y5])) (some [y5]))) (cond y2 (cond y1 (oN (few (ln y7)) (some [(aS .int y7)])) (some [y5])) (some [y5])))))) (oN (zF a0.Post 0 255) (cond (nB (zI a0.Post 0 255)) (oN (few (ln (ap [] [2]))) (cond y1 (cond (nB a0.Open) (oN (few (ln y4)) (cond y2 (cond y1 (oN (few (ln (ap y4 [4]))) (some [(aS .int (ap y4 [4]))])) (some [(aS .int y4)])) (some [(aS .int y4)]))) (cond y2 (cond y1 (oN (few (ln y8)) (some [(aS .int y8)])) (some [y6])) (some [y6]))) (cond y2 (cond y1 (oN (few (ln y8)) (some [(aS .int y8)])) (some [y6])) (some [y6])))) (cond y1 (cond (nB a0.Open) (oN (few (ln (ap [] [3]))) (cond y2 (cond y1 (oN (few (ln (ap (ap [] [3]) [4]))) (some [(aS .int (ap (ap [] [3]) [4]))])) (some [(aS .int (ap [] [3]))])) (some [(aS .int (ap [] [3]))]))) (cond y2 (cond y1 (oN (few (ln (ap [] [4]))) (some [(aS .int (ap [] [4]))])) (some [y10])) (some [y10]))) (cond y2 (cond y1 (oN (few (ln (ap [] [4]))) (some [(aS .int (ap [] [4]))])) (some [y10])) (some [y10])))))))
theorem zC9 (a0:Ctl)(hc:(zof a0)=true):∃N,zue N a0=some [aS .int (zjA a0)]:=by
 refine ⟨0,?_⟩;unfold zue oN nB
 conv=>zeta
 refine must rfl (brN (fun _=>mu (must rfl (brN (fun _=>mu (br (fun _=>brN (fun _=>mu (br (fun _=>br (fun _=>mu ?_) (fun _=>?_)) (fun _=>?_))) (fun _=>br (fun _=>br (fun _=>mu ?_) (fun _=>?_)) (fun _=>?_))) (fun _=>br (fun _=>br (fun _=>mu ?_) (fun _=>?_)) (fun _=>?_)))) (fun _=>br (fun _=>brN (fun _=>mu (br (fun _=>br (fun _=>mu ?_) (fun _=>?_)) (fun _=>?_))) (fun _=>br (fun _=>br (fun _=>mu ?_) (fun _=>?_)) (fun _=>?_))) (fun _=>br (fun _=>br (fun _=>mu ?_) (fun _=>?_)) (fun _=>?_)))))) (fun _=>must rfl (brN (fun _=>mu (br (fun _=>brN (fun _=>mu (br (fun _=>br (fun _=>mu ?_) (fun _=>?_)) (fun _=>?_))) (fun _=>br (fun _=>br (fun _=>mu ?_) (fun _=>?_)) (fun _=>?_))) (fun _=>br (fun _=>br (fun _=>mu ?_) (fun _=>?_)) (fun _=>?_)))) (fun _=>br (fun _=>brN (fun _=>mu (br (fun _=>br (fun _=>mu ?_) (fun _=>?_)) (fun _=>?_))) (fun _=>br (fun _=>br (fun _=>mu ?_) (fun _=>?_)) (fun _=>?_))) (fun _=>br (fun _=>br (fun _=>mu ?_) (fun _=>?_)) (fun _=>?_))))))
 all_goals first|rfl|(simp only [*,zjA,zqk,cT,cF]<;>rfl)|simp_all [Ty.cells,zjA,zqk]
theorem zxX:Holds Tryz.prog 149 zqF:=kF1 zj0 zy zC zB (zA []) zC9
def zfa (p n:Int):Bool:=ieq (wand .i64 (zxl .i64 p n) 1) 1
def scan (p:Int):Int:=bif zfa p 7 then 7 else (cond (zfa p 6) 6 (cond (zfa p 5) 5 (cond (zfa p 4) 4 (cond (zfa p 3) 3 (cond (zfa p 2) 2 (cond (zfa p 1) 1 (cond (zfa p 0) 0 (-1))))))))
theorem zTy:∀n:Fin 256,-1<=scan (n.val:Int)/\scan (n.val:Int)<=7/\(0<=scan (n.val:Int)->wsub .i64 (n.val:Int) (zlN .i64 1 (scan (n.val:Int)))=zD9 .i64 (n.val:Int) (zlN .i64 1 (scan (n.val:Int)))):=by decide +kernel
theorem zRe {P:Int->Prop}(h:∀n:Fin 256,P (n.val:Int)){x:Int}(h0:0<=x)(h1:x<=255):P x:=by
 have:=h ⟨x.toNat,by omega⟩
 have e:((x.toNat:Nat):Int)=x:=by omega
 simpa [e] using this
def zUF:zS:=[(92,zwy),(156,zuK),(154,zwK),(160,zzy),(158,zwA),(149,zqF)]++zUE
theorem zlY:zD zUF:=zk zEu (zk zCJ (zk zEG (zk zHm (zk zEw (zk zxX zj0)))))
def ziO (m:List (List Int))(n:Int):Bool:=bif m.all zcr then ieq (ln m) n else false
@[simp] abbrev znN (m:List (List Int))(n:Int):Bool:=true
@[simp] abbrev zi7 (m:List (List Int))(n:Int):Bool:=ziO m n
def zzA:Run:=rF2 (dS (.sl .int)) dI (fun b c=>((znN b c),[aB (zi7 b c)]))
def zF5 (N:Nat)(a0:lM)(a1:Int):OA :=
 (iter (σ:=(Int×(Int×(lM×Unit)))) N (fun r3 s4=>let y0:=s4.2.2.1; (cond (ilt s4.2.1 (ln y0)) (oN (inb s4.2.1 (ln y0)) (oN (zeF (ix y0 s4.2.1 [])) (cond (nB (zed (ix y0 s4.2.1 []))) oF (r3 (s4.1,((zK .i64 s4.2.1 1),(y0,()))))))) (some [(aB (ieq (ln y0) s4.1))]))) (a1,(0,(a0,()))))
def zM2:FuncId->Nat->Option Tmpl:=zA [(141,0,{ n:=22,tm:=[(0,.sl 0 []),(1,ti),(5,ti)],lo:=[],ro:=[(0,(.sl .int),false)] })]
theorem zMm (a0:List (List Int))(a1:Int)(hb:zci big [aS (.sl .int) a0,aI a1])(hc:(znN a0 a1)=true):∃N,zF5 N a0 a1=some [aB (zi7 a0 a1)]:=by
 have hl:(_:List _).length<=big:=((zeN hb).1 _ (List.mem_singleton.2 rfl)).len;refine zc9 fun N hNN=>?_;unfold zF5 oN nB
 conv=>zeta
 refine (zby a0 (fun i (t:Unit)=>(a1,(i:Int),a0,())) _ (fun _ x (_:Unit) κ=>bif (zcr) x then κ () else oF) (fun (t:Unit)=>(some [(.one (.b (ieq (ln a0) a1)))])) (fun i hi t rec=>?_) (fun t rec=>?_) _ () (hNN hl)).trans ?_
 ·simp only [zcb hi,zbx hi,zbF hi,zbu hi hl,cT];exact zpa rfl
 ·simp only [zb6,cF]
 rw [zl2 (zcr)];refine br (fun h0=>?_) (fun h0=>?_)
 ·first|rfl|(simp only [h0,zi7,ziO,cT,cF]<;>rfl)|(simp_all [Ty.cells,zi7,ziO];done)
 ·first|rfl|(simp only [h0,zi7,ziO,cT,cF]<;>rfl)|(simp_all [Ty.cells,zi7,ziO];done)
theorem zHn:Holds Tryz.prog 141 zzA:=hF2 zlY zy zC zB zM2 zMm
def zcZ (p:List Ins):Bool:=bif p.all zdJ then win (ln p) 1 12 else false
@[simp] abbrev ztT (p:List Ins):Bool:=true
@[simp] abbrev zkd (p:List Ins):Bool:=zcZ p
def zwM:Run:=rF1 (dS .ins) (fun b=>((ztT b),[aB (zkd b)]))
def zBA (N:Nat)(a0:lI):OA :=
 (iter (σ:=(Int×(lI×Unit))) N (fun r2 s3=>let y0:=(ix s3.2.1 s3.1 zIO); (cond (ilt s3.1 (ln s3.2.1)) (oN (inb s3.1 (ln s3.2.1)) (oN (zw5 y0) (cond (nB (zsS y0)) oF (r2 ((zK .i64 s3.1 1),(s3.2.1,())))))) (oN (zF (ln s3.2.1) 1 12) (some [(aB (zI (ln s3.2.1) 1 12))])))) (0,(a0,())))
def zLE:FuncId->Nat->Option Tmpl:=zA [(157,0,{ n:=19,tm:=[(0,.sl 0 []),(3,ti)],lo:=[],ro:=[(0,.ins,false)] })]
theorem zKg (a0:List Ins)(hb:zci big [aS .ins a0])(hc:(ztT a0)=true):∃N,zBA N a0=some [aB (zkd a0)]:=by
 have hl:(_:List _).length<=big:=((zeN hb).1 _ (List.mem_singleton.2 rfl)).len;refine zc9 fun N hNN=>?_;unfold zBA oN nB
 conv=>zeta
 refine (zby a0 (fun i (t:Unit)=>((i:Int),a0,())) _ (fun _ x (_:Unit) κ=>bif (zdJ) x then κ () else oF) (fun (t:Unit)=>(cond (zF (ln a0) 1 12) (some [(.one (.b (zI (ln a0) 1 12)))]) none)) (fun i hi t rec=>?_) (fun t rec=>?_) _ () (hNN hl)).trans ?_
 ·simp only [zcb hi,zbx hi,zbF hi,zbu hi hl,cT];exact zpa rfl
 ·simp only [zb6,cF]
 rw [zl2 (zdJ)];refine br (fun h0=>?_) (fun h0=>?_)
 ·refine must rfl ?_
  first|rfl|(simp only [h0,zkd,zcZ,cT,cF]<;>rfl)|(simp_all [Ty.cells,zkd,zcZ];done)
 ·first|rfl|(simp only [h0,zkd,zcZ,cT,cF]<;>rfl)|(simp_all [Ty.cells,zkd,zcZ];done)
theorem zEI:Holds Tryz.prog 157 zwM:=hF1 zlY zy zC zB zLE zKg
def zgX (c:Ctl):Bool:=ieq (ln (zqk c)) 0
@[simp] abbrev znL (c:Ctl):Bool:=true
@[simp] abbrev zmr (c:Ctl):Bool:=zgX c
def zzv:Run:=rF1 dC (fun b=>((znL b),[aB (zmr b)]))
def zF1 (N:Nat)(a0:Ctl):OA :=
 (oN (zof a0) (some [(aB (ieq (ln (zjA a0)) 0))]))
theorem zMi (a0:Ctl)(hc:(znL a0)=true):∃N,zF1 N a0=some [aB (zmr a0)]:=by
 refine ⟨0,?_⟩;unfold zF1 oN;refine must rfl ?_
 first|rfl|(simp only [*,zmr,zgX,cT,cF]<;>rfl)|simp_all [Ty.cells,zmr,zgX]
theorem zHj:Holds Tryz.prog 125 zzv:=kF1 zlY zy zC zB (zA []) zMi
def zc1 (p:Int):Int:=bif zcK p then scan p else -1
theorem zN9 {x:Int}(h0:0<=x)(h1:x<=255):wcv .u64 x=x:=zRe (P:=fun x=>wcv .u64 x=x) (by decide +kernel) h0 h1
@[simp] abbrev zoN (p:Int):Bool:=true
@[simp] abbrev zke (p:Int):Int:=zc1 p
def zwQ:Run:=rF1 dI (fun b=>((zoN b),[aI (zke b)]))
def zBE (N:Nat)(a0:Int):OA :=
 (iter (σ:=(Int×(Int×Unit))) N (fun r2 s3=>(cond (ige s3.2.1 0) (oN (zef s3.1) (cond (zee s3.1) (oN (ile 0 (wcv .u64 s3.2.1)) (cond (ieq (wand .i64 (zxl .i64 s3.1 (wcv .u64 s3.2.1)) 1) 1) (some [(aI s3.2.1)]) (r2 (s3.1,((wsub .i64 s3.2.1 1),()))))) (some [(aI (-1))]))) (some [(aI (-1))]))) (a0,(7,())))
def zLF:FuncId->Nat->Option Tmpl:=zA [(144,0,{ n:=19,tm:=[(0,ti),(3,ti)],lo:=[],ro:=[] })]
theorem zKk (a0:Int)(hc:(zoN a0)=true):∃N,zBE N a0=some [aI (zke a0)]:=by
 refine ⟨10,?_⟩;unfold zBE oN;cases h:zcK a0
 ·rw [zc6];refine must rfl ?_;refine must rfl ?_;refine zdx h ?_;simp [zc1,h]
 ·have hs:zee a0=true:=h;rw [zc6];refine must rfl (must rfl (must hs (must rfl (br (fun h7=>?_) (fun h7=>?_)))))
  ·have e7:zfa a0 7=true:=h7;simp [zc1,h,scan,e7]
  have f7:zfa a0 7=false:=h7
  show iter 9 _ (a0,6,())=_
  rw [zc6];refine must rfl (must rfl (must hs (must rfl (br (fun h6=>?_) (fun h6=>?_)))))
  ·have e6:zfa a0 6=true:=h6;simp [zc1,h,scan,e6,f7]
  have f6:zfa a0 6=false:=h6
  show iter 8 _ (a0,5,())=_
  rw [zc6];refine must rfl (must rfl (must hs (must rfl (br (fun h5=>?_) (fun h5=>?_)))))
  ·have e5:zfa a0 5=true:=h5;simp [zc1,h,scan,e5,f7,f6]
  have f5:zfa a0 5=false:=h5
  show iter 7 _ (a0,4,())=_
  rw [zc6];refine must rfl (must rfl (must hs (must rfl (br (fun h4=>?_) (fun h4=>?_)))))
  ·have e4:zfa a0 4=true:=h4;simp [zc1,h,scan,e4,f7,f6,f5]
  have f4:zfa a0 4=false:=h4
  show iter 6 _ (a0,3,())=_
  rw [zc6];refine must rfl (must rfl (must hs (must rfl (br (fun h3=>?_) (fun h3=>?_)))))
  ·have e3:zfa a0 3=true:=h3;simp [zc1,h,scan,e3,f7,f6,f5,f4]
  have f3:zfa a0 3=false:=h3
  show iter 5 _ (a0,2,())=_
  rw [zc6];refine must rfl (must rfl (must hs (must rfl (br (fun h2=>?_) (fun h2=>?_)))))
  ·have e2:zfa a0 2=true:=h2;simp [zc1,h,scan,e2,f7,f6,f5,f4,f3]
  have f2:zfa a0 2=false:=h2
  show iter 4 _ (a0,1,())=_
  rw [zc6];refine must rfl (must rfl (must hs (must rfl (br (fun h1=>?_) (fun h1=>?_)))))
  ·have e1:zfa a0 1=true:=h1;simp [zc1,h,scan,e1,f7,f6,f5,f4,f3,f2]
  have f1:zfa a0 1=false:=h1
  show iter 3 _ (a0,0,())=_
  rw [zc6];refine must rfl (must rfl (must hs (must rfl (br (fun h0=>?_) (fun h0=>?_)))))
  ·have e0:zfa a0 0=true:=h0;simp [zc1,h,scan,e0,f7,f6,f5,f4,f3,f2,f1]
  have f0:zfa a0 0=false:=h0
  show iter 2 _ (a0,-1,())=_
  rw [zc6];refine zdx rfl ?_;simp [zc1,h,scan,f7,f6,f5,f4,f3,f2,f1,f0]
theorem zEM:Holds Tryz.prog 144 zwQ:=kF1 zlY zy zC zB zLF zKk
end
end Go.Proofs.YtlilleghlfnipaaGreat.E
