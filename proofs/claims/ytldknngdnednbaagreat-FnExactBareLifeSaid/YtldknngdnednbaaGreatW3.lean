/- What is proved here: a part of the proof that the statement of this claim holds (several texts of wip/, laid together). -/
import Derived.Test.YtldknngdnednbaaGreatW2
import Derived.HandedShaped
import Derived.ProofKit
import Derived.KernelRfl
namespace Go.Proofs.YtldknngdnednbaaGreat.E
open Go
set_option linter.unusedVariables false
set_option maxRecDepth 100000
set_option linter.unusedSimpArgs false
set_option linter.unusedSectionVars false
noncomputable section
section
variable {C:Cfg} {w0 w w1:World} {S0:zZ} {U:Nat->Prop} {st st1 st':St} {E E1:Env} {ts:Array Value} {sv:List (Array Value)}
def Late (w0:World)(st:St)(E:Env)(x:App)(v:Value)(w:World):Prop :=
 ∃(n0 bv offv cap:Nat) (R:Root),w0.heap.size<=n0/\(∀q Q,st.root q=some Q->∀y,E.φ q y->y<n0)/\(∀l cs,zx st.lo l=some cs->E.β l<n0) /\
  v = .slice (some ⟨bv,offv,none⟩) x.l.length cap/\Rep true w v (.s x.t x.l) (fun y=>y=bv)/\st.root x.r=some R /\
  (n0<=bv\/∃off1 len1 cap1,zV w R.t (E.ρ x.r) x.p=some (.slice (some ⟨bv,off1,none⟩) len1 cap1))
theorem Late.states {x:App}{v:Value}(h:Late w0 st E x v w)(hr:∀n,st'.root n=st.root n)(hl:∀n,zx st'.lo n=zx st.lo n):Late w0 st' E x v w:=by
 obtain ⟨n0,bv,offv,cap,R,h1,h2,h3,h4,h5,h6,h7⟩:=h;exact ⟨n0,bv,offv,cap,R,h1,fun q Q hq=>h2 q Q (by rw [<- hr];exact hq),fun l cs hq=>h3 l cs (by rw [<- hl];exact hq),h4,h5,by rw [hr];exact h6,h7⟩
theorem zyF {r:Nat}(a:At):zb2 r [] a=a:=by
 cases a<;>simp [zb2,coarse]
theorem zyG {r:Nat}(m:MV):zdB r [] m=m:=by
 have h:zb2 r []=id:=funext fun a=>zyF a;have hT:∀x,zhO r [] x=x:=fun x=>by cases x<;>simp [zhO,h]
 have hT':zhO r []=id:=funext hT;cases m<;>simp [zdB,hT,hT']
theorem zO3 (h:Dead st){n:Nat}{R:Root}(hR:st.root n=some R):R.ep=none:=by
 obtain ⟨h1,h2⟩:=zbN hR;rcases h2 with h2|h2
 ·exact h2
 ·have:=h n R _ h1 h2;omega
theorem zPl {v:Value}{t:Ty}{l:List t.den}{S:zZ}{b off n cap:Nat}(h:Rep true w v (.s t l) S)(hv:v = .slice (some ⟨b,off,none⟩) n cap):b<w.heap.size/\S b:=by
 cases h with
 | nil=>cases hv
 | void _ _ _ ho=>cases ho
 | sl _ _ b4 _ _ _ _ _ _ _ _ hb4 _ _ _ _ hS4 =>
  cases hv;exact ⟨(Array.getElem?_eq_some_iff.1 hb4).1,hS4⟩
theorem zQl (hC:CfgOk C)(hS:Sim w0 S0 U st E ts sv w)(hd:Dead st){o:Oper}{x:App}(h:zl8 C st o=some (true,x)) :
 o.guard=none/\o.dst=some x.dst/\∃(v:Value) (w':World),(execOp ({ tmps:=ts,defers:=[] }:Act).eval o).run C.P w = .ok (.value v) w' /\
  Sim w0 S0 U (st.put o.dst (.v (.at .bad))) E (({ tmps:=ts,defers:=[] }:Act).put o.dst v).tmps sv w'/\Late w0 st E x v w':=by
 unfold zl8 at h;split at h
 ·rename_i c d ho hdst hgu;split at h
  ·rename_i hcb;split at h
   ·rename_i a0 y0 T T2 hca hct;split at h
    ·rename_i hTT;subst hTT;split at h
     ·rename_i t r a p r2 p2 hT h1 h2;split at h
      ·rename_i R cv1 cv2 hR hn1 hn2;split at h
       ·rename_i hcond;simp only [Bool.and_eq_true,Bool.not_eq_true',beq_eq_false_iff_ne] at hcond;obtain ⟨⟨hown,hfl⟩,hne⟩:=hcond;split at h
        ·rename_i m t2 y2 l2' hm;simp only [Option.some.injEq,Prod.mk.injEq] at h;obtain ⟨hfew,rfl⟩:=h;refine ⟨hgu,hdst,?_⟩;obtain ⟨l1,l2,e1,e2,rfl⟩:=zwa hm;subst e1;have hl2:l2≠[]:=by
          intro e;subst e;cases e2
         rw [e2] at hn2
         clear e2
         generalize hp0:a :: p=pp at h1 hn1;have hM:=hS.mem;obtain ⟨hx,_⟩:=zbo hS h1;obtain ⟨hy,_⟩:=zbo hS h2;have hh:=hx.2 R hR;have hrepR:=hM.rep r R hR;rw [hown] at hrepR;obtain ⟨t',l0,S1,f1,f2,f3,f4,f5⟩:=Rep.focus pp hrepR hh;have hg1:zeE R.t R.l pp=some (.s t l1):=by
          obtain ⟨R',hR',hg'⟩:=zeg hn1;rw [hR] at hR';cases hR';exact hg'
         rw [hg1] at f1;cases f1;obtain ⟨R2,S2,hR2,g1,g2,g3,g4⟩:=zry hS hy hn2;obtain ⟨v,w',bv,offv,cap,hrun,hv,hrep,hos,htp,hout,hcase⟩:=zSb hC hT hfl f3 g3.ro hl2 hfew o.type;have hca':c.args = #[a0,y0]:=by rw [<- hca]
         have hct':c.argTypes = #[T2,T2]:=by rw [<- hct]
         have hexec:(execOp ({ tmps:=ts,defers:=[] }:Act).eval o).run C.P w = .ok (.value v) w':=by
          simp [execOp,ho,resolve,hcb,invoke,builtin,hca',hct',hrun]
         have hβ:∀l cs,zx st.lo l=some cs->E.β l<w.heap.size:=by
          intro l cs h;obtain ⟨_,vals,e,h2,_⟩:=hM.loc l cs h;exact (Array.getElem?_eq_some_iff.1 h2).1
         rcases hcase with ⟨hbv,hsz,hsame⟩|⟨off1,cap1,hv1,hS1b,hsz,hoth,hrep1⟩
         ·obtain ⟨hM',hT'⟩:=hM.addRoots hS.ids.mem (dro:=[]) (w1:=w') (E1:=E) hos htp hout (by omega) hsame (fun q Q hq=>by cases hq) (fun q Q _ _ hq=>by cases hq) (fun _ _=>⟨rfl,rfl,rfl⟩)
          refine ⟨v,w',hexec,Sim.next hS (st1:=st) hM' hT' rfl rfl (fun _ h=>h) hS.ids.ro hS.ids.lo trivial (fun n hn=>by simp [MV.ids,zbv,zO,At.ids,zbf,zbg] at hn),?_⟩
          exact ⟨w.heap.size,bv,offv,cap,R,hM.size,fun q Q hq y hy=>hM.rlt q Q hq y hy,hβ,hv,hrep,hR,.inl (by omega)⟩
         ·obtain ⟨m,hm1,hrm,hh1,hh2⟩:=f5 w' l1 S1 (fun z _ hnz=>hoth z (fun e=>hnz (e ▸ hS1b))) (fun _ h _=>h) hrep1;have hmR:=zFH pp hg1 m hm1;subst hmR;obtain ⟨_,_,_,_,fwp⟩:=f5 w l1 S1 (fun _ _ _=>rfl) (fun _ h _=>h) f3;have hhdr:∀q u,zV w R.t (E.ρ r) q=some u->zV w' R.t (E.ρ r) q=some u:=by
           intro q u hq;refine hh1 q u hq (fun q' he=>?_);subst he;rw [fwp] at hq;exact zQf hfl q' _ _ hq
          have hsim:=zyv (w1:=w') (m:=R.l) (js:=[]) (S3:=E.φ r) hS hR hown hos htp hout (by omega) (fun z hz hnz=>hoth z (fun e=>hnz (f4 z (e ▸ hS1b)))) (fun z hz=>⟨.inl hz,by have:=hM.rlt r R hR z hz;omega⟩) (hrm.weak fun z hz=>by
           rcases hz with ⟨h,_⟩|h
           ·exact h
           ·exact f4 z h) (fun q u hq _=>hhdr q u hq)
          have hE:({ E with φ:=fun n=>if n=r then E.φ r else E.φ n }:Env)=E:=by
           have:(fun n=>if n=r then E.φ r else E.φ n)=E.φ:=by
            funext n
            split
            ·rename_i e;rw [e]
            ·rfl
           rw [this]
          rw [hE] at hsim;have hS':Sim w0 S0 U st E ts sv w':=by
           refine hsim.fewer (fun t=>?_) (fun n=>?_) ?_ (fun n Q hQ=>?_) (fun n Q hQ=>?_) (fun n Q e hQ he=>hM.epo n Q e hQ he)
           ·simp only [ze6,List.getElem?_map];cases st.tm[t]? <;> simp [zyG]
           ·simp only [ze6];rw [zgK];have:zb2 r []=id:=funext fun a=>zyF a;cases zx st.lo n<;>simp [this]
           ·simp only [ze6];have:zdB r []=id:=funext fun a=>zyG a;simp [this]
           ·have he:=zO3 hd hQ;obtain ⟨q1,_⟩:=zbN hQ;refine zgt ?_ (.inl he);simp only [ze6,zx];split
            ·rename_i hb;simp only [beq_iff_eq] at hb;subst hb;rw [hR] at hQ;cases hQ;rfl
            ·exact q1
           ·simp only [ze6,zx];split
            ·exact ⟨_,rfl⟩
            ·exact ⟨Q,hQ⟩
          refine ⟨v,w',hexec,hS'.putV trivial (fun n hn=>by simp [MV.ids,zbv,zO,At.ids,zbf,zbg] at hn),?_⟩
          refine ⟨w.heap.size,bv,offv,cap,R,hM.size,fun q Q hq y hy=>hM.rlt q Q hq y hy,hβ,hv,hrep,hR,.inr ⟨off1,l1.length,cap1,?_⟩⟩;refine hhdr pp _ ?_;rw [hh,hv1]
        ·cases h
       ·cases h
      ·cases h
     ·cases h
    ·cases h
   ·cases h
  ·cases h
 ·cases h
theorem zNL (hC:CfgOk C)(hS:Sim w0 S0 U st E ts sv w){o:Oper}{id:Nat}{x:App}{v:Value}{st2:St}(hL:Late w0 st E x v w)(hv0:ts[x.dst]?=some v)(h:zxh C st o x=some (true,st2)) :
 o.guard=none/\Goes C w0 S0 U st ts sv w o id (fun _=>st2.put o.dst .und)/\st2.nid=st.nid:=by
 unfold zxh at h;split at h
 ·rename_i T a d ho hgu;split at h
  ·rename_i t1 r p i off hT ha;split at h
   ·rename_i R t l c hRr hn hsp;split at h
    ·rename_i hcond;simp only [Bool.and_eq_true,decide_eq_true_eq,Nat.beq_eq_true_eq] at hcond;obtain ⟨⟨⟨hown,hdd⟩,hrr⟩,hfit⟩:=hcond;have hdd:=Nat.eq_of_beq_eq_true hdd;have hrr:=Nat.eq_of_beq_eq_true hrr;subst hdd hrr;split at h
     ·rename_i l' hset;split at h
      ·rename_i m hput;simp only [Option.some.injEq,Prod.mk.injEq] at h;obtain ⟨rfl,rfl⟩:=h;refine ⟨hgu,?_,rfl⟩;have hpp:=zoj hsp;obtain ⟨n0,bv,offv,capv,R',hn0,hrn,hln,hve,hvrep,hR',hwhere⟩:=hL;rw [hRr] at hR';cases hR';obtain ⟨hav,hai⟩:=zbo hS ha;obtain ⟨b,o2,len,cap,t1',e1,e2,e3,e4,e5⟩:=hav.2 R hRr;have hM:=hS.mem;have hrep:=hM.rep _ R hRr;rw [hown] at hrep;obtain ⟨t',l0,S1,f1,f2,f3,f4,f5⟩:=Rep.focus p hrep e1;have hg1:zeE R.t R.l p=some (.s t l):=by
        obtain ⟨R',hR',hg'⟩:=zeg hn;rw [hRr] at hR';cases hR';exact hg'
       rw [hg1] at f1;cases f1;rw [e2] at f2;cases f2;obtain ⟨_,_,_,_,fwp⟩:=f5 w l S1 (fun _ _ _=>rfl) (fun _ h _=>h) f3;cases f3 with
       | void _ _ _ ho=>cases ho
       | sl _ _ _ _ _ arr e' fz V K _ hb hfz hlen1 hcap hsz hS' hsub hdis hvv hcc =>
       have hfz':=hfz rfl;subst hfz';have hRows:Rows true w t l arr o2 b V K S1:=⟨hsub,hdis,hvv,hcc⟩;have hone:v.oneCell'=true:=by rw [hve];rfl
       have hcells:v.cells = #[v]:=cells_one hone;have hfit':off+[v].length<=t.width:=by simp;omega
       have hrow:(i.toNat+1)*t.width<=cap*t.width:=Nat.mul_le_mul_right _ (by omega)
       rw [Nat.succ_mul] at hrow;have hrun:=zrl (w:=w) (v:=v) (off:=o2+i.toNat*t.width+off) (hC.cty T false [.s t1] hT) hb (by rw [hcells];rfl) (by simp;omega) (by rw [hcells];intro u hu;simp at hu;rw [hu];exact hone)
       rw [hcells] at hrun;have hl1:(#[v]:Array Value).toList=[v]:=rfl;rw [hl1] at hrun;generalize hw1:w.setRow b (splice arr.toList (o2+i.toNat*t.width+off) [v]).toArray=w1 at hrun;have hb1:w1.heap[b]?=some (.cells (splice arr.toList (o2+i.toNat*t.width+off) [v]).toArray e' (0,0)):=by rw [<- hw1];exact setRow_heap w b _ _ e' _ hb
       have hoth:∀y,y≠b->w1.heap[y]?=w.heap[y]?:=fun y hy=>by rw [<- hw1];exact setRow_other w b y _ hy
       have hrb:E.φ x.r b:=f4 b hS';have hbn:b<n0:=hrn _ R hRr b hrb;have hold:∀i' j,i'<l.length->j<t.width->¬ Hit i.toNat off [v].length i' j->∀y,K i' j y->w1.heap[y]?=w.heap[y]?:=fun i' j hi' hj _ y hy=>hoth y ((hsub i' j y hi' hj hy).2 rfl)
       have hbv:n0<=bv\/K i.toNat off bv:=by
        rcases hwhere with h|⟨off1,len1,cap1,h⟩
        ·exact .inl h
        ·right
         rw [<- hpp,fwp] at h;simp only [zV] at h;rw [if_pos ⟨e3,e4⟩] at h;split at h
         ·rename_i t3 hsh;rw [cell_of_block hb,hvv i.toNat off e4 hfit] at h;simp only [Option.some.injEq] at h;obtain ⟨c,hc,hct⟩:=zv7 (x:=ix l i t.dflt) hsh;obtain ⟨l3,rfl⟩:=zhk hct;have hr3:=hcc i.toNat _ (zhr e4) off _ hc;rw [h] at hr3;cases hr3 with
          | void _ _ _ ho=>cases ho
          | sl _ _ _ _ _ _ _ _ _ _ _ _ _ _ _ _ hS3=>exact hS3
         ·cases h
       have hbvb:bv≠b:=by
        rcases hbv with h|h
        ·omega
        ·exact (hsub _ _ bv e4 hfit h).2 rfl
       have hset1:=Rep.setCells (w:=w) (w1:=w1) (us:=[v]) (Kn:=fun _ y=>y=bv) hlen1 hcap hsz hRows e4 rfl hfit' hset hb1 (fun k c u hc hu=>by
        cases k with
        | zero =>
         simp only [List.getElem?_cons_zero,Option.some.injEq] at hc hu;subst hc hu;exact hvrep.frame (fun y hy=>hoth y (by rw [hy];exact hbvb))
        | succ k=>simp at hc)
        hold
        (fun k y _ hy=>by rw [hy];exact hbvb)
        (fun k k' y hk hk' _ _=>by simp at hk hk';omega)
        (fun k y i' j hk hy hi' hj hnh hy'=>by
         subst hy;rcases hbv with h|h
         ·have:=hrn _ R hRr y (f4 y (hsub i' j y hi' hj hy').1);omega
         ·have:=hdis rfl _ _ _ _ y e4 hfit hi' hj h hy';exact hnh ⟨this.1.symm,by omega,by simp;omega⟩)
       have hS2:∀y,(y=b\/(∃i' j,i'<l.length/\j<t.width/\¬ Hit i.toNat off [v].length i' j/\K i' j y)\/∃k,k<[v].length/\y=bv)->S1 y\/(n0<=y/\y=bv):=by
        intro y hy;rcases hy with rfl|⟨i',j,hi',hj,_,hk⟩|⟨k,hk,rfl⟩
        ·exact .inl hS'
        ·exact .inl (hsub i' j y hi' hj hk).1
        ·rcases hbv with h|h
         ·exact .inr ⟨h,rfl⟩
         ·exact .inl (hsub _ _ _ e4 hfit h).1
       obtain ⟨m',hm',hrm,hh1,hh2⟩:=f5 w1 l' _ (fun y hy hny=>hoth y (fun e=>hny (e ▸ hS'))) (fun y hy hy'=>by
        rcases hS2 y hy with h|⟨h,_⟩
        ·exact h
        ·have:=hrn _ R hRr y hy';omega) hset1
       rw [hput] at hm';cases hm';have hsz1:w1.heap.size=w.heap.size:=by rw [<- hw1];simp
       have hbvlt:bv<w.heap.size:=(zPl hvrep hve).1;have hsim:=zxf (w1:=w1) (m:=m) (js:=[cols p++[off]]) hn0 hrn hln hS hRr hown (by rw [<- hw1];rfl) (by rw [<- hw1];rfl) (by rw [<- hw1];rfl) (by omega) (fun y _ hny=>hoth y (fun e=>hny (e ▸ hrb))) (fun y hy=>by
        rcases hy with ⟨hy,_⟩|hy
        ·exact ⟨.inl hy,by have:=hM.rlt _ R hRr y hy;omega⟩
        ·rcases hS2 y hy with h|⟨h,rfl⟩
         ·exact ⟨.inl (f4 y h),by have:=hM.rlt _ R hRr y (f4 y h);omega⟩
         ·exact ⟨.inr h,by omega⟩) hrm (fun q u hq hns=>by
        rcases zvV p q with ⟨q',rfl⟩|hnp
        ·rw [hh2 q'];rw [fwp q'] at hq;refine zp3 (us:=[v]) hcap hsz hRows hb e4 rfl hfit' hset hb1 hold q' (fun i' j q'' he k c hj hck=>?_) hoth hq;subst he hj;cases k with
         | succ k=>simp at hck
         | zero =>
          exfalso;have h9:=List.any_eq_false.1 hns (cols p++[off]) (by simp)
          exact absurd (zs9 p i' off q'') h9
        ·exact hh1 q u hq (fun q' he=>absurd ⟨q',he⟩ hnp))
       have hput2:=hsim.putV (dst:=o.dst) (m:=.und) (v:=undef) rfl (fun n hn=>by simp [MV.ids,zbv] at hn)
       refine zwY (w':=w1) ?_ ⟨hput2.mem,⟨fun n R hn=>.inl (hput2.ids.ro n R hn),fun n cs hn=>⟨.inl (hput2.ids.lo n cs hn).1,fun a ha m hm=>.inl ((hput2.ids.lo n cs hn).2 a ha m hm)⟩,fun m hm n hn=>.inl (hput2.ids.tm m hm n hn),fun f hf m hm n hn=>.inl (hput2.ids.stk f hf m hm n hn)⟩,hput2.tm,hput2.stk⟩;have hev:({ tmps:=ts,defers:=[] }:Act).eval (.tmp x.dst)=v:=by simp [Act.eval,hv0]
       simp [execOp,ho,Instr.storeAt,e5,Instr.sureAddr,hev,hrun]
      ·cases h
     ·cases h
    ·cases h
   ·cases h
  ·cases h
 ·cases h
end
section
variable {C:Cfg} {w0 w w1:World} {S0:zZ} {U:Nat->Prop} {st st1:St} {E E1:Env} {ts:Array Value} {sv:List (Array Value)}
variable {ops:Array Oper} {b:Bool} {base:Nat} {cl:List (List Nat)} {ss:List Step} {st0:St}
theorem zAP {w w':World}(h:w'.heap=w.heap):∀(p:List (Int×Nat)) (t:Ty) (v:Value),zV w' t v p=zV w t v p
 | [],t,v=>by simp only [zV]
 | (i,j) :: p,t,v=>by
  have hc:∀a,w'.cell? a=w.cell? a:=fun a=>by simp only [World.cell?,h]
  have ih:=zAP h p;cases v with
  | slice a len cap=>cases a<;>simp only [zV,hc,ih]
  | _=>simp only [zV]
theorem Sim.heap (hS:Sim w0 S0 U st E ts sv w){w':World}(h1:w'.heap=w.heap)(h2:w'.os=w.os)(h3:w'.tape=w.tape)(h4:w'.output=w.output):Sim w0 S0 U st E ts sv w':=by
 have T:Trans st E w st E w' (fun _=>True):=⟨fun r _ R h=>⟨R,h,rfl,fun p u hu=>by rw [zAP h1];exact hu⟩,fun l _ cs h=>⟨⟨cs,h⟩,rfl⟩,rfl⟩
 have hM:=hS.mem;refine ⟨⟨by rw [h2];exact hM.os,by rw [h3];exact hM.tape,by rw [h4];exact hM.output,by rw [h1];exact hM.size,fun b hb hn=>by rw [h1];exact hM.keep b hb hn,
  fun r R h=>(hM.rep r R h).frame (fun x _=>by rw [h1]),fun r R h x hx=>by rw [h1];exact hM.rlt r R h x hx,hM.mine,hM.apart,fun l cs hl=>?_,hM.linj,hM.lro,hM.epo,hM.κ⟩,hS.ids,
  Slots.tr T (fun _ _ _ _=>trivial) hS.tm,Stack.tr T (fun _ _ _ _ _ _=>trivial) hS.stk⟩
 obtain ⟨g1,vals,e,g2,g3,g4⟩:=hM.loc l cs hl;exact ⟨g1,vals,e,by rw [h1];exact g2,g3,fun j c u hc hu=>⟨(g4 j c u hc hu).1,VA.tr T (fun _ _=>trivial) (g4 j c u hc hu).2⟩⟩
theorem Sim.blind (hS:Sim w0 S0 U st E ts sv w)(c:Bool)(n:Nat):Sim w0 S0 U { st with nid:=n,ep:=if c then st.ep+1 else st.ep } E ts sv w:=by
 have h:=hS.nid n;cases c with
 | false=>exact h
 | true =>
  refine h.fewer (fun _=>rfl) (fun _=>rfl) rfl (fun r R hR=>?_) (fun r R hR=>⟨R,hR⟩) (fun r R e hR he=>?_)
  ·obtain ⟨g1,g2⟩:=zbN hR;have hn:R.ep=none:=by
    rcases g2 with g2|g2
    ·exact g2
    ·have:=hS.mem.epo r R _ g1 g2;simp only [if_true] at this;omega
   show St.root { st with nid:=n } r=some R
   unfold St.root;have g3:zx ({ st with nid:=n }:St).ro r=some R:=g1;rw [g3];simp only [hn]
  ·have:=hS.mem.epo r R e hR he
   show e<=st.ep+1
   omega
theorem cnt_lt {p q:Nat->Bool}:∀(l:List Nat),(∀x∈l,q x=true->p x=true)->(∃x∈l,p x=true/\q x=false)->l.countP q<l.countP p
 | [],_,h=>by obtain ⟨x,hx,_⟩:=h;cases hx
 | a :: l,h1,h2=>by
  have hle:∀(m:List Nat),(∀x∈m,q x=true->p x=true)->m.countP q<=m.countP p:=fun m hm=>List.countP_mono_left hm;have hm:=hle l (fun x hx=>h1 x (by simp [hx]))
  simp only [List.countP_cons];cases hq:q a with
  | true =>
   rw [h1 a (by simp) hq]
   have:l.countP q<l.countP p:=cnt_lt l (fun x hx=>h1 x (by simp [hx])) (by
    obtain ⟨x,hx,g1,g2⟩:=h2;rcases List.mem_cons.1 hx with rfl|hx
    ·rw [hq] at g2;cases g2
    ·exact ⟨x,hx,g1,g2⟩)
   simp only [if_true];omega
  | false =>
   cases hp:p a with
   | true=>simp;omega
   | false =>
    have:l.countP q<l.countP p:=cnt_lt l (fun x hx=>h1 x (by simp [hx])) (by
     obtain ⟨x,hx,g1,g2⟩:=h2;rcases List.mem_cons.1 hx with rfl|hx
     ·rw [hp] at g1;cases g1
     ·exact ⟨x,hx,g1,g2⟩)
    simp;omega
def left (n:Nat)(listed:Array Bool):Nat:=(List.range n).countP fun i=>!listed.getD i true
theorem zzX {listed:Array Bool}{n i:Nat}(hi:i<n)(hl:listed.getD i true=false):left n (listed.setIfInBounds i true)<left n listed:=by
 unfold left;have hlt:i<listed.size:=by
  rcases Nat.lt_or_ge i listed.size with h|h
  ·exact h
  ·simp [Array.getElem?_eq_none h] at hl
 refine cnt_lt _ (fun x _ hx=>?_) ⟨i,List.mem_range.2 hi,by rw [hl];rfl,by simp [hlt]⟩
 by_cases hxi:i=x
 ·subst hxi;simp [hlt] at hx
 ·rwa [getD_set_ne true hxi] at hx
structure Waits (md:Region.Mode) (ops:Array Oper) (cl:List (List Nat)):Prop where
 at':∀i,i<ops.size->cl.getD i []=waits ops (cl.take i) i
 lt:∀i,i<ops.size->∀j∈cl.getD i [],j<i
 sub:∀e,Region.binds .any e=true->Region.binds md e=true
 rk:∃rk:Nat->Nat,∀(i:Nat) (o:Oper),ops[i]?=some o->∀e∈o.after,Region.binds md e=true->e.on<ops.size/\rk e.on<rk i
variable {md:Region.Mode}
theorem zRX (hat:∀i,i<ops.size->cl.getD i []=waits ops (cl.take i) i){i:Nat}{o:Oper}(ho:ops[i]?=some o){e:Edge}(he:e∈o.after)(hb:Region.binds .any e=true):e.on∈cl.getD i []:=by
 have hi:=(Array.getElem?_eq_some_iff.1 ho).1;rw [hat i hi];simp only [waits,ho];exact List.mem_flatMap.2 ⟨e,by simpa using he,by rw [if_pos hb];exact List.mem_cons_self⟩
theorem zHL {l:List (List Nat)}{i j k:Nat}(h:k∈(l.take i).getD j []):k∈l.getD j []:=by
 rw [List.getD_eq_getElem?_getD,List.getElem?_take] at h;rw [List.getD_eq_getElem?_getD];split at h
 ·exact h
 ·simp at h
theorem Waits.inv (W:Waits md ops cl){i j:Nat}{o:Oper}(ho:ops[i]?=some o)(hj:j∈cl.getD i []):∃e∈o.after,Region.binds .any e=true/\(j=e.on\/j∈cl.getD e.on []):=by
 have hi:=(Array.getElem?_eq_some_iff.1 ho).1;rw [W.at' i hi] at hj;simp only [waits,ho] at hj;obtain ⟨e,he,hj⟩:=List.mem_flatMap.1 hj;split at hj
 ·rename_i hb;refine ⟨e,by simpa using he,hb,?_⟩
  rcases List.mem_cons.1 hj with h|h
  ·exact .inl h
  ·exact .inr (zHL h)
 ·cases hj
def XL (listed:Array Bool)(k:Nat):Bool:=listed.getD k false
theorem zyB (W:Waits md ops cl){listed:Array Bool}(hX:zeF cl (XL listed)){i:Nat}(hi:i∈Region.ready md ops listed):∀j∈cl.getD i [],XL listed j=true:=by
 obtain ⟨_,o,ho,hall⟩:=mem_ready.1 hi;intro j hj;obtain ⟨e,he,hb,h|h⟩:=W.inv ho hj
 ·subst h;exact hall e he (W.sub e hb)
 ·exact hX _ (hall e he (W.sub e hb)) j h
theorem least {p:Nat->Prop}:∀n,p n->∃m,m<=n/\p m/\∀j,j<m->¬ p j:=by
 intro n
 induction n using Nat.strongRecOn with
 | _ n ih =>
  intro hp
  by_cases h:∃j,j<n/\p j
  ·obtain ⟨j,h1,h2⟩:=h;obtain ⟨m,g1,g2,g3⟩:=ih j h1 h2;exact ⟨m,by omega,g2,g3⟩
  ·exact ⟨n,Nat.le_refl _,hp,fun j hj hpj=>h ⟨j,hj,hpj⟩⟩
theorem zCs (W:Waits md ops cl){listed:Array Bool}(hsz:listed.size=ops.size){i0:Nat}(hi0:i0<ops.size)(hl0:listed.getD i0 true=false):∃i,i∈Region.ready md ops listed:=by
 obtain ⟨rk,hrk⟩:=W.rk;obtain ⟨n,_,⟨i,hi,hl,hn⟩,hmin⟩:=least (p:=fun n=>∃i,i<ops.size/\listed.getD i true=false/\rk i=n) (rk i0) ⟨i0,hi0,hl0,rfl⟩;refine ⟨i,mem_ready.2 ⟨hl,ops[i],by simp [hi],fun e he hb=>?_⟩⟩
 obtain ⟨h1,h2⟩:=hrk i ops[i] (by simp [hi]) e he hb
 cases h:listed.getD e.on false with
 | true=>rfl
 | false =>
  exfalso;refine hmin (rk e.on) (by omega) ⟨e.on,h1,?_,rfl⟩
  have hlt:e.on<listed.size:=by omega
  simp only [Array.getD,hlt,dif_pos] at h ⊢;exact h
theorem zon {listed:Array Bool}{i:Nat}(hi:i<listed.size):XL listed i=listed.getD i true:=by
 simp [XL,hi]
theorem zAk {listed:Array Bool}{i:Nat}(hi:i<listed.size)(k:Nat):XL (listed.setIfInBounds i true) k=(XL listed k||k==i):=by
 unfold XL
 by_cases h:i=k
 ·subst h;simp [hi]
 ·rw [getD_set_ne false h];have:(k==i)=false:=by simp;omega
  rw [this,Bool.or_false]
theorem zOw {P:Program}{Q Q':Exit->Act->World->Prop}(hQ:∀e,e≠.normal->∀a w,Q' e a w->Q e a w){i:Nat}{K:Act->World->Prop}{a:Act}{w:World}(h:wpOp P ops Q' i K a w):wpOp P ops Q i K a w:=by
 have hlo:LetsOut Q'->LetsOut Q:=by
  rintro ⟨a,w,h⟩
  exact ⟨a,w,hQ _ (by simp) a w h⟩
 unfold wpOp at h ⊢;split
 ·rename_i hn;rw [hn] at h;exact h
 ·rename_i o ho;simp only [ho] at h;split
  ·rename_i hw;rw [if_pos hw] at h;rcases h with h|⟨h1,h2⟩
   ·left
    unfold Oper.wp at *;generalize (execOp a.eval o).run P w=r at *;cases r with
    | ok n w' =>
     cases n<;>simp only [Oper.upon] at h ⊢ <;>
      first
       | exact h
       | exact h.mono (fun e w'' he=>by
        cases e with
        | returned v=>exact he
        | panicked c=>exact hQ _ (by simp) _ _ he
        | outgrown=>exact hlo he)
    | halt x w' =>
     cases x<;>simp only [Oper.upon] at h ⊢ <;> first|exact hQ _ (by simp) _ _ h|exact h
   ·exact .inr ⟨h1,hlo h2⟩
  ·rename_i hw;rw [if_neg hw] at h;exact h
theorem ziN (W:Waits md ops cl){listed:Array Bool}{m:Nat}(hsz:listed.size=ops.size)(hl:∀i,i<ops.size->listed.getD i true=decide (i<m)):zeF cl (XL listed):=by
 intro k hk j hj;have hks:k<ops.size:=by
  rcases Nat.lt_or_ge k listed.size with h|h
  ·omega
  ·simp [XL,Array.getElem?_eq_none h] at hk
 rw [zon (by omega),hl k hks] at hk
 simp at hk;have:=W.lt k hks j hj;rw [zon (by omega),hl j (by omega)]
 simp;omega
theorem zQv {P:Program}{Q:Exit->Act->World->Prop}{fuel:Nat}{listed:Array Bool}{a:Act}{w:World}(hl:∀i,i<ops.size->listed.getD i true=true)(h:Q .normal a w):wpAny P md ops Q fuel listed a w:=by
 have hr:Region.ready md ops listed=[]:=by
  refine List.eq_nil_iff_forall_not_mem.2 (fun i hi=>?_);obtain ⟨h0,o,ho,_⟩:=mem_ready.1 hi;have hi:=(Array.getElem?_eq_some_iff.1 ho).1;rw [hl i hi] at h0;cases h0
 cases fuel with
 | zero=>exact ⟨hr,h⟩
 | succ fuel=>exact ⟨fun _=>h,fun i hi=>by rw [hr] at hi;cases hi⟩
theorem zM8 (W:Waits md ops cl){P:Program}{Q:Exit->Act->World->Prop}{fuel m:Nat}{listed:Array Bool}{a:Act}{w:World}(hsz:listed.size=ops.size)(hm:m<ops.size)(hp:Pinned ops.size cl m)(hl:∀i,i<ops.size->listed.getD i true=decide (i<m))(hf:left ops.size listed<=fuel)(h:∀fl l',l'.size=ops.size->(∀i,i<ops.size->l'.getD i true=decide (i<m+1))->left ops.size l'<=fl->fuel=fl+1->l'=listed.setIfInBounds m true->wpOp P ops Q m (wpAny P md ops Q fl l') a w):wpAny P md ops Q fuel listed a w:=by
 have hu:listed.getD m true=false:=by rw [hl m hm];simp
 obtain ⟨i1,hmr⟩:=zCs W hsz hm hu;have hlt:=zzX (listed:=listed) (n:=ops.size) (i:=m) hm hu;obtain ⟨fuel,rfl⟩:∃f,fuel=f+1:=⟨fuel-1,by omega⟩
 refine ⟨fun h=>(by rw [h] at hmr;cases hmr),fun i hi=>?_⟩
 obtain ⟨h0,o,ho,_⟩:=mem_ready.1 hi;have his:=(Array.getElem?_eq_some_iff.1 ho).1;rw [hl i his] at h0;simp only [decide_eq_false_iff_not,Nat.not_lt] at h0;have hieq:i=m:=by
  by_cases hne:i=m
  ·exact hne
  ·exfalso;have:=zyB W (ziN W hsz hl) hi m (hp.wait i (by omega) his)
   rw [zon (by omega),hu] at this
   cases this
 subst hieq;refine h fuel _ (by simp [hsz]) (fun k hk=>?_) (by omega) rfl rfl
 by_cases hik:i=k
 ·subst hik;simp [hsz,his]
 ·rw [getD_set_ne true hik,hl k hk]
  congr 1
  simp only [eq_iff_iff];omega
theorem zAl {a T:Nat}(W:Waits md ops cl)(hTs:T<=ops.size)(hpin:T<ops.size->Pinned ops.size cl T){P:Program}{Q:Exit->Act->World->Prop}{J:(Nat->Bool)->Env->Array Value->World->Prop}(hcongr:∀X Y E ts w,(∀k,a<=k->k<T->X k=Y k)->J X E ts w->J Y E ts w)(hstep:∀X Y i,zeF cl X->a<=i->i<T->X i=false->(∀j∈cl.getD i [],X j=true)->(∀k,Y k=(X k||k==i))->∀E ts w,J X E ts w->∀K:Act->World->Prop,(∀E' ts' w',J Y E' ts' w'->K { tmps:=ts',defers:=[] } w')->wpOp P ops Q i K { tmps:=ts,defers:=[] } w)(htail:∀(fl:Nat) (l':Array Bool) (E':Env) (ts':Array Value) (w':World),l'.size=ops.size->(∀i,i<ops.size->l'.getD i true=decide (i<T))->left ops.size l'<=fl->J (fun _=>true) E' ts' w'->wpAny P md ops Q fl l' { tmps:=ts',defers:=[] } w') :
 ∀(fuel:Nat) (listed:Array Bool) (E:Env) (ts:Array Value) (w:World),listed.size=ops.size->zeF cl (XL listed)->(∀i,i<a->XL listed i=true)->(∀m,T<=m->m<ops.size->XL listed m=false)->left ops.size listed<=fuel ->
  J (XL listed) E ts w->wpAny P md ops Q fuel listed { tmps:=ts,defers:=[] } w
 | fuel,listed,E,ts,w,hsz,hX,hbel,hlow,hf,hS=>by
  by_cases hall:∀i,i<T->XL listed i=true
  ·have hl:∀i,i<ops.size->listed.getD i true=decide (i<T):=by
    intro i hi;rw [<- zon (by omega)]
    by_cases h:i<T
    ·rw [hall i h];simp [h]
    ·rw [hlow i (by omega) hi];simp [h]
   exact htail fuel listed E ts w hsz hl hf (hcongr _ _ E ts w (fun k _ hk=>hall k hk) hS)
  ·have hex:∃i,i<T/\XL listed i=false:=by
    refine Classical.byContradiction (fun hn=>hall (fun i hi=>?_));cases h:XL listed i with
    | true=>rfl
    | false=>exact absurd ⟨i,hi,h⟩ hn
   obtain ⟨i0,hi0,hi0X⟩:=hex;have hu0:listed.getD i0 true=false:=by rw [<- zon (by omega)];exact hi0X
   obtain ⟨i1,hmr⟩:=zCs W hsz (by omega) hu0
   have hpos:0<left ops.size listed:=by
    have:=zzX (listed:=listed) (n:=ops.size) (i:=i0) (by omega) hu0
    omega
   obtain ⟨fuel,rfl⟩:∃f,fuel=f+1:=⟨fuel-1,by omega⟩
   refine ⟨fun h=>(by rw [h] at hmr;cases hmr),fun i hi=>?_⟩
   obtain ⟨h0,o,ho,_⟩:=mem_ready.1 hi;have his:=(Array.getElem?_eq_some_iff.1 ho).1;have hiX:XL listed i=false:=by rw [zon (by omega)];exact h0
   have hw:=zyB W hX hi;have hia:a<=i:=by
    refine Classical.byContradiction (fun hn=>?_);rw [hbel i (by omega)] at hiX
    cases hiX
   have hiT:i<T:=by
    refine Classical.byContradiction (fun hn=>?_);have hp:=hpin (by omega)
    by_cases hiT:i=T
    ·subst hiT;have:=hw i0 (hp.full i0 hi0);rw [hi0X] at this;cases this
    ·have:=hw T (hp.wait i (by omega) his)
     rw [hlow T (Nat.le_refl _) (by omega)] at this
     cases this
   refine hstep _ (XL (listed.setIfInBounds i true)) i hX hia hiT hiX hw (zAk (by omega)) E ts w hS _ (fun E' ts' w' hS'=>?_)
   refine zAl W hTs hpin hcongr hstep htail fuel (listed.setIfInBounds i true) E' ts' w' (by simp [hsz]) ?_ ?_ ?_ ?_ hS'
   ·intro k hk j hj;rw [zAk (by omega)] at hk ⊢
    by_cases hki:k=i
    ·subst hki;rw [hw j hj];rfl
    ·have:(k==i)=false:=by simp [hki]
     rw [this,Bool.or_false] at hk;rw [hX k hk j hj];rfl
   ·intro k hk;rw [zAk (by omega),hbel k hk];rfl
   ·intro m hm hms;rw [zAk (by omega),hlow m hm hms]
    simp;omega
   ·have:=zzX (listed:=listed) (n:=ops.size) his h0;omega
theorem zQg (hC:CfgOk C)(hH:CtrOk C){a T:Nat}(W:Waits md ops cl)(hT:a+ss.length=T)(hTs:T<=ops.size)(hpin:T<ops.size->Pinned ops.size cl T)(F:Free C ops cl b base a ss st0)(hb:b=false->∀k,a<=k->k<T->zhz ops k=false)(hd:b=true->Dead st0/\0<st0.ep)(hM:∀k,a<=k->k<T->∀n,Mine (base+32*k) n->¬ U n){Q:Exit->Act->World->Prop}(htail:∀(fl:Nat) (l':Array Bool) (E':Env) (ts':Array Value) (w':World),l'.size=ops.size->(∀i,i<ops.size->l'.getD i true=decide (i<T))->left ops.size l'<=fl ->
 Sim w0 S0 (UX U base a T (fun _=>true)) (zba ops b (fun _=>true) a ss st0) E' ts' sv w'->wpAny C.P md ops Q fl l' { tmps:=ts',defers:=[] } w') :
 ∀(fuel:Nat) (listed:Array Bool) (E:Env) (ts:Array Value) (w:World),listed.size=ops.size->zeF cl (XL listed)->(∀i,i<a->XL listed i=true)->(∀m,T<=m->m<ops.size->XL listed m=false)->left ops.size listed<=fuel ->
  Sim w0 S0 (UX U base a T (XL listed)) (zba ops b (XL listed) a ss st0) E ts sv w->wpAny C.P md ops Q fuel listed { tmps:=ts,defers:=[] } w :=
 zAl (J:=fun X E ts w=>Sim w0 S0 (UX U base a T X) (zba ops b X a ss st0) E ts sv w) W hTs hpin
  (fun X Y E ts w h hS=>by
   rw [ze2 ss a st0 (fun k h1 h2=>h k h1 (by omega))] at hS
   refine hS.uses ?_
   rintro n (h1|⟨k,h0,h1,h2,h3⟩)
   ·exact .inl h1
   ·exact .inr ⟨k,h0,h1,by rw [<- h k h0 h1];exact h2,h3⟩)
  (fun X Y i hX hia hi hXi hr hY E ts w hS K hK=>zwX hC hH hT F hX hia hi hXi hr hb hd hM hY hS hK) htail
theorem get_put {st:St}{d:Nat}{m:MV}{κ:Key}(h:κ≠.tm d):(st.put (some d) m).get κ=st.get κ:=by
 cases κ with
 | tm t =>
  have:d≠t:=fun e=>h (by rw [e])
  simp [St.get,St.put,List.getElem?_set,this]
 | ro n=>rfl
 | lo n=>rfl
theorem zPC {st st':St}{o:Oper}(hep:st'.ep=st.ep)(htm:∀t∈zev o,st'.get (.tm t)=st.get (.tm t))(hro:∀n∈(zr3 st o).flatMap zbf,st'.get (.ro n)=st.get (.ro n))(hlo:∀n∈(zr3 st o).flatMap zbg,st'.get (.lo n)=st.get (.lo n)):Agree st st' o.op.operands.toList:=by
 refine ⟨hep,fun x hx=>?_,fun x hx m hm a ha=>?_⟩
 ·cases x with
  | tmp t =>
   have ht:t∈zev o:=by
    unfold zev;exact List.mem_filterMap.2 ⟨_,hx,rfl⟩
   simp only [St.opnd,zAM (htm t ht)]
  | _=>rfl
 ·have hA:a∈zr3 st o:=by
   unfold zr3;exact List.mem_flatMap.2 ⟨m,List.mem_filterMap.2 ⟨x,hx,hm⟩,ha⟩
  exact ⟨fun n hn=>zAL (hro n (List.mem_flatMap.2 ⟨a,hA,hn⟩)),fun n hn=>zAK (hlo n (List.mem_flatMap.2 ⟨a,hA,hn⟩))⟩
theorem zLb {st st':St}{o:Oper}(h:Agree st st' o.op.operands.toList):zl8 C st' o=zl8 C st o:=by
 cases hop:o.op with
 | call c =>
  rw [hop] at h;have hp:∀x∈c.args.toList,x∈(Op.call c).operands.toList:=fun x hx=>by simp only [Op.operands,Call.operands,Array.toList_append,List.mem_append];exact .inr hx
  simp only [zl8,hop];cases hd:o.dst with
  | none=>rfl
  | some d =>
   cases hg:o.guard with
   | some g=>rfl
   | none =>
    simp only;cases hcb:c.callee with
    | builtin b =>
     cases b with
     | append =>
      simp only;split
      ·rename_i x y T T2 hca hct;have hx:=hp x (by rw [hca];simp)
       have hy:=hp y (by rw [hca];simp)
       rw [h.at hx,h.at hy];split
       ·cases hT:C.sty T with
        | none=>rfl
        | some t =>
         cases e:st.at x with
         | none=>rfl
         | some a =>
          cases a with
          | sl r p =>
           cases p with
           | nil=>rfl
           | cons ij p =>
            cases e2:st.at y with
            | none=>rfl
            | some b =>
             cases b with
             | sl r2 p2=>simp only [h.root (zcT hx e),h.node (zcT hx e),h.node (zcT hy e2)]
             | _=>rfl
          | _=>rfl
       ·rfl
      ·rfl
     | _=>rfl
    | _=>rfl
 | _=>simp only [zl8,hop]
theorem zoS (hC:CfgOk C)(hS:Sim w0 S0 U st E ts sv w){o:Oper}{id:Nat}{d:Dl}(hp:zij o=true)(h:delta C st o id=some d)(hc:d.c=true):o.guard=none/\zom C U st E ts w o d:=by
 unfold zij at hp;simp only [Bool.and_eq_true,Option.isNone_iff_eq_none] at hp;obtain ⟨hg,hp⟩:=hp;refine ⟨hg,?_⟩;cases hop:o.op
 case move x =>
  rw [hop] at hp;cases x with
  | tmp t =>
   simp only [delta,hop] at h;split at h
   ·rename_i v hv;cases h;exact zPe hS (.inl hop) hv
   ·cases h
  | _=>simp at hp
 case load T x=>exact zPd hC hS hop h
 case fieldAddr T x f=>exact zyz hC hS hop h
 case indexAddr T x y=>exact zyA hC hS hop h hc
 case nilCheck x=>exact zCn hS hop h
 all_goals (rw [hop] at hp;simp at hp)
theorem pure_run {o:Oper}{i:Nat}{d:Dl}{v:Value}{Q:Exit->Act->World->Prop}{K:Act->World->Prop}(ho:ops[i]?=some o)(hg:o.guard=none)(hr:(execOp ({ tmps:=ts,defers:=[] }:Act).eval o).run C.P w = .ok (.value v) w1)(h:K { tmps:=(({ tmps:=ts,defers:=[] }:Act).put o.dst v).tmps,defers:=[] } w1):wpOp C.P ops Q i K { tmps:=ts,defers:=[] } w:=by
 unfold wpOp;simp only [ho];rw [if_pos (by simp [Region.wanted,hg])]
 left
 unfold Oper.wp;rw [hr,Oper.upon_value,zeH];exact h
theorem zKz {d t:Nat}{v u:Value}(h:ts[t]?=some u)(hne:d≠t):(({ tmps:=ts,defers:=[] }:Act).put (some d) v).tmps[t]?=some u:=by
 simp [Act.put,Array.getElem?_setIfInBounds_ne hne,h]
theorem zQk (hC:CfgOk C)(hH:CtrOk C){a A:Nat}(W:Waits md ops cl)(hA:a+ss.length=A)(hTs:A+1<=ops.size)(hpin:A+1<ops.size->Pinned ops.size cl (A+1))(F:Free C ops cl b base a ss st0)(hb:b=false->∀k,a<=k->k<A->zhz ops k=false)(hbt:b=true)(hd:b=true->Dead st0/\0<st0.ep)(hM:∀k,a<=k->k<A->∀n,Mine (base+32*k) n->¬ U n){oA:Oper}{x:App}(hoA:ops[A]?=some oA)(hap:zl8 C (zba ops b (fun _=>true) a ss st0) oA=some (true,x))(hlo:zup ops cl a A=true)(hlen:x.dst<(zba ops b (fun _=>true) a ss st0).tm.length)(hfoot:∀i s o f,ss[i]?=some s->ops[a+i]?=some o->At1 C ops base (a+i) o (zba ops b (fun j=>decide (j<a+i)) a ss st0) f s->a+i∉cl.getD A []->f.apart (zdi (zba ops b (fun _=>true) a ss st0) ops oA zxG)=true){Q:Exit->Act->World->Prop}(htail:∀(fl:Nat) (l':Array Bool) (E':Env) (ts':Array Value) (w':World) (v:Value),l'.size=ops.size->(∀i,i<ops.size->l'.getD i true=decide (i<A+1))->left ops.size l'<=fl->ts'[x.dst]?=some v ->
 Sim w0 S0 (UX U base a A (fun _=>true)) ((zba ops b (fun _=>true) a ss st0).put oA.dst (.v (.at .bad))) E' ts' sv w'->Late w0 ((zba ops b (fun _=>true) a ss st0).put oA.dst (.v (.at .bad))) E' x v w'->wpAny C.P md ops Q fl l' { tmps:=ts',defers:=[] } w')(fuel:Nat)(listed:Array Bool)(E:Env)(ts:Array Value)(w:World)(hsz:listed.size=ops.size)(hX:zeF cl (XL listed))(hbel:∀i,i<a->XL listed i=true)(hlow:∀m,A<=m->m<ops.size->XL listed m=false)(hf:left ops.size listed<=fuel)(hS:Sim w0 S0 (UX U base a A (XL listed)) (zba ops b (XL listed) a ss st0) E ts sv w):wpAny C.P md ops Q fuel listed { tmps:=ts,defers:=[] } w:=by
 have hdst:oA.dst=some x.dst/\oA.guard=none:=by
  unfold zl8 at hap;split at hap
  ·rename_i c d ho hdst hgu;refine ⟨?_,hgu⟩;rw [hdst]
   congr 1
   repeat' (first|(split at hap)|(cases hap))
   all_goals first|rfl|(simp only [Option.some.injEq,Prod.mk.injEq] at hap;obtain ⟨_,rfl⟩:=hap;rfl)
  ·cases hap
 have huses:∀{X Y:Nat->Bool} {i:Nat},(∀k,Y k=(X k||k==i))->∀n,UX U base a A X n->UX U base a A Y n:=by
  intro X Y i hY n h;rcases h with h|⟨k,h0,h1,h2,h3⟩
  ·exact .inl h
  ·exact .inr ⟨k,h0,h1,by rw [hY,h2];rfl,h3⟩
 have hfA:∀{X:Nat->Bool} (κ:Key),(∀j∈cl.getD A [],X j=true)->(zdi (zba ops b (fun _=>true) a ss st0) ops oA zxG).reads κ->(zba ops b X a ss st0).get κ=(zba ops b (fun _=>true) a ss st0).get κ:=by
  intro X κ hr hκ;refine zmc ss a st0 st0 rfl rfl (fun k s' o' hk ho' hne hw=>?_);obtain ⟨o2,f',ho2,h2⟩:=F.at1 k s' hk;rw [ho'] at ho2;cases ho2;have hXk:X (a+k)=false:=by
   cases h:X (a+k) with
   | false=>rfl
   | true=>exact absurd h hne
  have hn:a+k∉cl.getD A []:=fun h=>by rw [hr _ h] at hXk;cases hXk
  exact ((apart_spec (hfoot k s' o' f' hk ho' h2 hn)).1 κ ((zwO h2 κ).1 hw)).1 hκ
 refine zAl (T:=A+1) (J:=fun X E ts w=>(X A=false->Sim w0 S0 (UX U base a A X) (zba ops b X a ss st0) E ts sv w) /\
  (X A=true->∃v,ts[x.dst]?=some v/\Sim w0 S0 (UX U base a A X) ((zba ops b X a ss st0).put oA.dst (.v (.at .bad))) E ts sv w/\Late w0 (zba ops b X a ss st0) E x v w)) W hTs hpin ?_ ?_ ?_
  fuel listed E ts w hsz hX hbel (fun m h1 h2=>hlow m (by omega) h2) hf ⟨fun _=>hS,fun h=>(by rw [hlow A (Nat.le_refl _) (by omega)] at h;cases h)⟩
 ·intro X Y E ts w h hJ;have hXA:X A=Y A:=h A (by omega) (by omega)
  have e:=ze2 (ops:=ops) (b:=b) ss a st0 (X:=X) (Y:=Y) (fun k h1 h2=>h k h1 (by omega))
  have hu:∀n,UX U base a A X n->UX U base a A Y n:=by
   rintro n (h1|⟨k,h0,h1,h2,h3⟩)
   ·exact .inl h1
   ·exact .inr ⟨k,h0,h1,by rw [<- h k h0 (by omega)];exact h2,h3⟩
  refine ⟨fun hYA=>?_,fun hYA=>?_⟩
  ·have:=hJ.1 (hXA.trans hYA);rw [e] at this;exact this.uses hu
  ·obtain ⟨v,h1,h2,h3⟩:=hJ.2 (hXA.trans hYA);rw [e] at h2 h3;exact ⟨v,h1,h2.uses hu,h3⟩
 ·intro X Y i hX hia hi hXi hr hY E ts w hJ K hK
  by_cases hiA:i=A
  ·subst hiA;have hSX:=hJ.1 hXi;have hYX:zba ops b Y a ss st0=zba ops b X a ss st0:=ze2 ss a st0 (fun k h1 h2=>by
    rw [hY];have:(k==i)=false:=by simp;omega
    rw [this,Bool.or_false])
   have hag:Agree (zba ops b (fun _=>true) a ss st0) (zba ops b X a ss st0) oA.op.operands.toList :=
    zPC (by rw [zdy,zdy]) (fun t ht=>hfA (.tm t) hr (by simp only [Foot.reads,zdi];exact List.mem_append_left _ ht)) (fun n hn=>hfA (.ro n) hr hn) (fun n hn=>hfA (.lo n) hr hn)
   have hapX:=zLb (C:=C) hag;rw [hap] at hapX;have hdX:Dead (zba ops b X a ss st0):=by
    subst hbt;exact zvI ss a st0 (hd rfl).1 (hd rfl).2
   obtain ⟨hg,hdA,v,w',hrun,hS',hL⟩:=zQl hC hSX hdX hapX;refine pure_run (d:=zxG) hoA hg hrun (hK E _ w' ⟨fun h=>(by rw [hY] at h;simp at h),fun _=>⟨v,?_,?_,?_⟩⟩)
   ·rw [hdA];have hlt:x.dst<ts.size:=by
     rw [hSX.tm.1,zjo];rw [zjo] at hlen;exact hlen
    simp [Act.put,hlt]
   ·rw [hYX];exact hS'.uses (huses hY)
   ·rw [hYX];exact hL
  ·have hiA':i<A:=by omega
   have hYA:Y A=X A:=by
    rw [hY];have:(A==i)=false:=by simp;omega
    rw [this,Bool.or_false]
   cases hXA:X A with
   | false =>
    refine zwX hC hH hA F hX hia hiA' hXi hr hb hd hM hY (hJ.1 hXA) (fun E' ts' w' hS'=>hK E' ts' w' ⟨fun _=>hS',fun h=>(by rw [hYA,hXA] at h;cases h)⟩)
   | true =>
    obtain ⟨v,hv,hSX,hL⟩:=hJ.2 hXA;obtain ⟨j,rfl⟩:∃j,i=a+j:=⟨i-a,by omega⟩
    obtain ⟨s,hs⟩:∃s,ss[j]?=some s:=⟨_,List.getElem?_eq_getElem (by omega)⟩
    obtain ⟨o,f,ho,h1,h2⟩:=zAJ F hX hs hXi hr;have hnA:a+j∉cl.getD A []:=fun h=>by rw [hX A hXA _ h] at hXi;cases hXi
    have hpo:zij o=true:=by
     have:=List.all_eq_true.1 hlo (a+j) (by simp;omega)
     simp only [ho,Bool.or_eq_true,List.contains_eq_mem,decide_eq_true_eq] at this;rcases this with h|h
     ·exact absurd h hnA
     ·exact h
    have hapf:=apart_spec (hfoot j s o f hs ho h1 hnA);have hwA:(zdi (zba ops b (fun _=>true) a ss st0) ops oA zxG).writes (.tm x.dst):=by simp only [Foot.writes,zdi];exact hdst.1
    have hne:∀κ,f.reads κ->κ≠.tm x.dst:=fun κ hκ e=>hapf.2 (.tm x.dst) hwA (e ▸ hκ);have hdne:o.dst≠some x.dst:=fun e=>(hapf.1 (.tm x.dst) ((zwO h1 (.tm x.dst)).1 (by cases s<;>exact e))).2 hwA
    have hep:∀Z,(zba ops b Z a ss st0).ep=st0.ep:=fun Z=>zdy ss a st0;have hdoes:=zIk (S':=(zba ops b X a ss st0).put oA.dst (.v (.at .bad))) h1 (by rw [hep,hdst.1];exact hep X) (fun κ hκ=>by rw [hdst.1,get_put (hne κ hκ)];exact h2 κ hκ)
    have hg0:o.guard=none:=by
     unfold zij at hpo;simp only [Bool.and_eq_true,Option.isNone_iff_eq_none] at hpo;exact hpo.1
    cases s with
    | none =>
     exfalso;have:zb8 ops o ((zba ops b X a ss st0).put oA.dst (.v (.at .bad)))=some false:=hdoes;simp [zb8,hg0] at this
    | some d =>
     obtain ⟨_,d2,d3⟩:=hdoes;obtain ⟨_,v2,hrun,hvm,hids,e1,e2,e3⟩:=zoS hC hSX hpo d2 d3;have hput:∀κ,(zba ops b Y a ss st0).get κ=((zba ops b X a ss st0).put o.dst d.v).get κ:=by
      intro κ;rw [zy0 F hX hs ho hXi hY κ];simp only [St.step,St.effD,e1,e2,List.map_nil,List.nil_append]
     have hS2:Sim w0 S0 (UX U base a A X) (((zba ops b X a ss st0).put oA.dst (.v (.at .bad))).put o.dst d.v) E (({ tmps:=ts,defers:=[] }:Act).put o.dst v2).tmps sv w:=hSX.putV hvm hids;refine pure_run (d:=d) ho hg0 hrun (hK E _ w ⟨fun h=>(by rw [hYA,hXA] at h;cases h),fun _=>⟨v,?_,?_,?_⟩⟩)
     ·cases hod:o.dst with
      | none=>exact hv
      | some t=>exact zKz hv (fun e=>hdne (by rw [hod,e]))
     ·refine (hS2.same (fun κ=>?_) ?_ ?_).uses (huses hY)
      ·rw [hdst.1];cases κ with
       | tm t =>
        have hk:=hput (.tm t);have hl1:(zba ops b Y a ss st0).tm.length=(zba ops b X a ss st0).tm.length:=by rw [zjo,zjo]
        by_cases ht:t=x.dst
        ·subst ht;cases hod:o.dst with
         | none=>simp [St.get,St.put,List.getElem?_set,hl1]
         | some t' =>
          have:t'≠x.dst:=fun e=>hdne (by rw [hod,e])
          simp [St.get,St.put,List.getElem?_set,hl1,this]
        ·have hne':x.dst≠t:=fun e=>ht e.symm;rw [get_put (by simpa using ht),hk]
         cases hod:o.dst with
         | none=>simp [St.get,St.put,List.getElem?_set,hne']
         | some t' =>
          simp only [St.get,St.put,List.getElem?_set,List.length_set];split
          ·rfl
          ·first|rfl|rw [if_neg hne']
       | ro n =>
        have hk:=hput (.ro n);rw [get_put (by simp),hk]
        cases o.dst<;>rfl
       | lo n =>
        have hk:=hput (.lo n);rw [get_put (by simp),hk]
        cases o.dst<;>rfl
      ·rw [hdst.1];have h1:(zba ops b Y a ss st0).stk=(zba ops b X a ss st0).stk:=by rw [zgP,zgP]
       cases o.dst<;>exact h1
      ·rw [hdst.1];have h1:(zba ops b Y a ss st0).ep=(zba ops b X a ss st0).ep:=by rw [zdy,zdy]
       cases o.dst<;>exact h1
     ·have hro:∀n,zx (zba ops b Y a ss st0).ro n=zx (zba ops b X a ss st0).ro n:=fun n=>by
       rw [zAL (hput (.ro n))];cases o.dst<;>rfl
      have hlo':∀n,zx (zba ops b Y a ss st0).lo n=zx (zba ops b X a ss st0).lo n:=fun n=>by
       rw [zAK (hput (.lo n))];cases o.dst<;>rfl
      exact hL.states (fun n=>by
       unfold St.root;rw [hro n,hep Y,hep X]) hlo'
 ·intro fl l' E' ts' w' hsz' hl' hf' hJ;obtain ⟨v,h1,h2,h3⟩:=hJ.2 rfl;refine htail fl l' E' ts' w' v hsz' hl' hf' h1 h2 (h3.states (fun n=>?_) (fun n=>?_))
  ·rw [hdst.1];rfl
  ·rw [hdst.1];rfl
theorem zFJ {a b:At}(h:sameAt a b=true):a=b:=by
 cases a<;>cases b<;>simp only [sameAt] at h<;>try cases h
 case i.i k n k' n' =>
  by_cases hk:k=k'
  ·subst hk;simp only [decide_true,cond_true,ieq,beq_iff_eq] at h;rw [h]
  ·simp [hk] at h
 case b.b x y=>simp only [zeo,beq_iff_eq] at h;rw [h]
 case sl.sl r p r' p' =>
  cases hr:Nat.beq r r' with
  | false=>rw [hr] at h;cases h
  | true =>
   rw [hr,cond_true] at h;rw [Nat.eq_of_beq_eq_true hr,zmH h]
 case lp.lp l o l' o' =>
  simp only [Bool.and_eq_true] at h;rw [Nat.eq_of_beq_eq_true h.1,Nat.eq_of_beq_eq_true h.2]
 case ep.ep r p i o r' p' i' o' =>
  cases hr:(Nat.beq r r'&&Nat.beq o o') with
  | false=>rw [hr] at h;cases h
  | true =>
   rw [hr,cond_true] at h;simp only [Bool.and_eq_true] at hr h;simp only [ieq,beq_iff_eq] at h;rw [Nat.eq_of_beq_eq_true hr.1,Nat.eq_of_beq_eq_true hr.2,h.1,zmH h.2]
 case fn.fn f c f' c' =>
  simp only [Bool.and_eq_true,beq_iff_eq] at h;rw [Nat.eq_of_beq_eq_true h.1,h.2]
theorem zCx:∀{l m:List At},zxY l m=true->l=m
 | [],[],_=>rfl
 | a :: l,b :: m,h=>by
  simp only [zxY,Bool.and_eq_true] at h;rw [zFJ h.1,zCx h.2]
 | [],_ :: _,h=>by cases h
 | _ :: _,[],h=>by cases h
theorem zPq {x y:MV}(h:zCy x y=true):x=y:=by
 unfold zCy at h;split at h
 ·rw [zFJ h]
 ·rw [zCx h]
 ·cases h
theorem znq {k:St->Option Ans}{ans:Ans}:∀{js:List Nat},zi1 C ops base k js st=some ans ->
 k st=some ans/\∀j∈js,∃o d t,ops[j]?=some o/\delta C st o (base+32*j)=some d/\d.c=true/\o.dst=some t/\st.tm[t]?=some d.v
 | [],h=>⟨h,fun _ h=>by cases h⟩
 | j :: r,h=>by
  unfold zi1 at h;split at h
  ·rename_i o ho;split at h
   ·rename_i d t hd ht;split at h
    ·rename_i m hm;cases hc:(d.c&&zCy d.v m) with
     | false=>rw [hc] at h;cases h
     | true =>
      rw [hc,cond_true] at h;obtain ⟨h1,h2⟩:=znq h;simp only [Bool.and_eq_true] at hc;refine ⟨h1,fun i hi=>?_⟩;rcases List.mem_cons.1 hi with rfl|hi
      ·exact ⟨o,d,t,ho,hd,hc.1,ht,by rw [hm,zPq hc.2]⟩
      ·exact h2 i hi
    ·cases h
   ·cases h
  ·cases h
theorem zAC {ts ts1:Array Value}{x:Operand}(h:∀t,x = .tmp t->ts[t]?=ts1[t]?):({ tmps:=ts,defers:=[] }:Act).eval x=({ tmps:=ts1,defers:=[] }:Act).eval x:=by
 cases x with
 | tmp t=>simp only [Act.eval,Array.getD_eq_getD_getElem?,h t rfl]
 | _=>rfl
theorem zB7 {o:Oper}{x:Operand}{t:Nat}(hx:x∈o.op.operands.toList)(ht:x = .tmp t):t∈zev o:=by
 subst ht;exact List.mem_filterMap.2 ⟨_,hx,rfl⟩
theorem zOk {o:Oper}(hp:zij o=true){ts ts1:Array Value}(h:∀t∈zev o,ts[t]?=ts1[t]?):execOp ({ tmps:=ts,defers:=[] }:Act).eval o=execOp ({ tmps:=ts1,defers:=[] }:Act).eval o:=by
 have he:∀x∈o.op.operands.toList,({ tmps:=ts,defers:=[] }:Act).eval x=({ tmps:=ts1,defers:=[] }:Act).eval x:=fun x hx=>zAC fun t ht=>h t (zB7 hx ht);unfold zij at hp;simp only [Bool.and_eq_true] at hp;obtain ⟨_,hp⟩:=hp;cases hop:o.op
 case move x=>simp only [execOp,hop,he x (by rw [hop];simp [Op.operands])]
 case load T x=>simp only [execOp,hop,he x (by rw [hop];simp [Op.operands])]
 case fieldAddr T x f=>simp only [execOp,hop,he x (by rw [hop];simp [Op.operands])]
 case indexAddr T x y=>simp only [execOp,hop,he x (by rw [hop];simp [Op.operands]),he y (by rw [hop];simp [Op.operands])]
 case nilCheck x=>simp only [execOp,hop,he x (by rw [hop];simp [Op.operands])]
 all_goals (rw [hop] at hp;simp at hp)
theorem zxg {o:Oper}(h:zlj o=true):o.guard=none/\∃c x,o.op = .call c/\c.callee = .value x:=by
 unfold zlj at h;simp only [Bool.and_eq_true,Option.isNone_iff_eq_none] at h;refine ⟨h.1.1,?_⟩;have h2:=h.2;split at h2
 ·rename_i c hc;split at h2
  ·rename_i x hx;exact ⟨c,x,hc,hx⟩
  ·cases h2
 ·cases h2
theorem zNk {o:Oper}(hc:zlj o=true){ts ts1:Array Value}(h:∀t∈zev o,ts[t]?=ts1[t]?):execOp ({ tmps:=ts,defers:=[] }:Act).eval o=execOp ({ tmps:=ts1,defers:=[] }:Act).eval o:=by
 have he:∀x∈o.op.operands.toList,({ tmps:=ts,defers:=[] }:Act).eval x=({ tmps:=ts1,defers:=[] }:Act).eval x:=fun x hx=>zAC fun t ht=>h t (zB7 hx ht);obtain ⟨_,c,x,hop,hcb⟩:=zxg hc;have hx:=he x (by rw [hop];simp [Op.operands,Call.operands,hcb])
 have ha:c.args.map ({ tmps:=ts,defers:=[] }:Act).eval=c.args.map ({ tmps:=ts1,defers:=[] }:Act).eval:=by
  apply Array.map_congr_left;intro y hy;exact he y (by rw [hop];simp [Op.operands,Call.operands,hcb,hy])
 simp only [execOp,hop,resolve,hcb,hx,ha]
theorem zOx {P:Program}{o:Oper}{i:Nat}(ho:ops[i]?=some o)(hc:zlj o=true){ts ts1:Array Value}(h:∀t∈zev o,ts[t]?=ts1[t]?){K1 K:Act->World->Prop}{Q1 Q:Exit->Act->World->Prop}(hQ:∀e a w,Q1 e a w->e = .normal)(hK:∀a' w',K1 a' w'->a'.defers=[])(hKK:∀v w',K1 (({ tmps:=ts1,defers:=[] }:Act).put o.dst v) w'->K (({ tmps:=ts,defers:=[] }:Act).put o.dst v) w')(hw:wpOp P ops Q1 i K1 { tmps:=ts1,defers:=[] } w):wpOp P ops Q i K { tmps:=ts,defers:=[] } w:=by
 obtain ⟨hg,_⟩:=zxg hc;unfold wpOp at hw ⊢;simp only [ho] at hw ⊢;rw [if_pos (by simp [Region.wanted,hg])] at hw ⊢
 rcases hw with hw|⟨_,a,w,hl⟩
 ·refine .inl ?_;unfold Oper.wp at hw ⊢;rw [zNk hc h];generalize (execOp ({ tmps:=ts1,defers:=[] }:Act).eval o).run P w=r at hw;cases r with
  | ok n w' =>
   cases n with
   | value v=>exact hKK v w' hw
   | skip=>exact hKK undef w' hw
   | defer d =>
    exfalso;have:=hK _ _ hw;cases hd:o.dst<;>simp [Act.put,hd] at this
   | enter f args =>
    refine Calls.mono hw ?_;intro e w2 he;cases e with
    | returned v=>exact hKK v w2 he
    | panicked chain=>exact absurd (hQ _ _ _ he) (by simp)
    | outgrown =>
     obtain ⟨a,w3,hl⟩:=he;exact absurd (hQ _ _ _ hl) (by simp)
   | row row args=>exact Rows.mono hw fun v w2 he=>hKK v w2 he
   | _=>exact hw.elim
  | halt hh w' =>
   cases hh with
   | panic v=>exact absurd (hQ _ _ _ hw) (by simp)
   | _=>exact hw.elim
 ·exact absurd (hQ _ _ _ hl) (by simp)
theorem zmT {m a j:Nat}:j∈zhx cl m a↔(m<=j/\j<m+(a-m))/\j∉cl.getD a []:=by
 unfold zhx;rw [List.mem_filter];simp
def VV (U:Nat->Prop)(base size m n:Nat):Prop:=U n\/(base<=n/\n<base+32*m)\/base+32*size<=n
theorem zPD (hC:CfgOk C)(hH:CtrOk C)(hG:GraftOk C)(hN:NameOk C){call:zdL}(hcall:zmF C call){a A:Nat}(W:Waits md ops cl)(haA:a<=A)(hA:a+ss.length=A)(hTs:A+1<=ops.size)(hpin:A+1<ops.size->Pinned ops.size cl (A+1))(F:Free C ops cl b base a ss st0)(hb:b=false->∀k,a<=k->k<A->zhz ops k=false)(hd:b=true->Dead st0/\0<st0.ep)(hM:∀k,a<=k->k<A->∀n,Mine (base+32*k) n->¬ U n){oA:Oper}(hoA:ops[A]?=some oA)(hcv:zlj oA=true)(hlo:zup ops cl a A=true)(hlr:zzK ops cl (zhx cl a A) oA=true){V:Nat->Prop}(hVV:∀n,UX U base a A (fun _=>true) n->VV V base ops.size A n)(hVb:∀n,base<=n->¬ V n)(hnid:base+32*ops.size<=st0.nid)(hF:∀n,st0.nid<=n->¬ UX U base a A (fun _=>true) n){k:St->Option Ans}{ans:Ans}(hden:zh1 C call ops base (zi1 C ops base k (zhx cl a A)) [A] (zba ops b (fun _=>true) a ss st0)=some ans){Q:Exit->Act->World->Prop}(htail:∀(fl:Nat) (l':Array Bool) (U':Nat->Prop) (st':St) (E':Env) (ts':Array Value) (w':World),l'.size=ops.size->(∀i,i<ops.size->l'.getD i true=decide (i<A+1))->left ops.size l'<=fl ->
 Sim w0 S0 U' st' E' ts' sv w'->(∀n,U' n->VV V base ops.size (A+1) n)->base+32*ops.size<=st'.nid->(∀n,st'.nid<=n->¬ U' n)->k st'=some ans->wpAny C.P md ops Q fl l' { tmps:=ts',defers:=[] } w')(fuel:Nat)(listed:Array Bool)(E:Env)(ts:Array Value)(w:World)(hsz:listed.size=ops.size)(hX:zeF cl (XL listed))(hbel:∀i,i<a->XL listed i=true)(hlow:∀m,A<=m->m<ops.size->XL listed m=false)(hf:left ops.size listed<=fuel)(hS:Sim w0 S0 (UX U base a A (XL listed)) (zba ops b (XL listed) a ss st0) E ts sv w):wpAny C.P md ops Q fuel listed { tmps:=ts,defers:=[] } w:=by
 have huses:∀{X Y:Nat->Bool},(∀k,X k=true->Y k=true)->∀n,UX U base a A X n->UX U base a A Y n:=by
  intro X Y hXY n h;rcases h with h|⟨k,h0,h1,h2,h3⟩
  ·exact .inl h
  ·exact .inr ⟨k,h0,h1,hXY k h2,h3⟩
 have hlate:∀j∈zhx cl a A,∃p t,ops[j]?=some p/\p.dst=some t/\zij p=true/\t∉zev oA/\∀i∈zhx cl a A,∀q,ops[i]?=some q->(t∈zev q->j∈cl.getD i [])/\(i=j\/q.dst≠some t):=by
  intro j hj;have h1:=List.all_eq_true.1 hlr j hj;split at h1
  ·rename_i p hp;split at h1
   ·rename_i t ht;simp only [Bool.and_eq_true,Bool.not_eq_true',List.all_eq_true] at h1;have h2:=List.all_eq_true.1 hlo j (by obtain ⟨⟨g1,g2⟩,_⟩:=zmT.1 hj;simp;omega)
    simp only [hp,Bool.or_eq_true,List.contains_eq_mem,decide_eq_true_eq] at h2;refine ⟨p,t,hp,ht,h2.resolve_left (zmT.1 hj).2,by simpa using h1.1,fun i hi q hq=>?_⟩
    have h3:=h1.2 i hi;simp only [hq,Bool.and_eq_true,Bool.or_eq_true,Bool.not_eq_true',beq_iff_eq,List.contains_eq_mem,decide_eq_true_eq,decide_eq_false_iff_not] at h3;refine ⟨fun hm=>h3.1.resolve_left (fun hn=>hn hm),?_⟩;rcases h3.2 with h|h
    ·exact .inl h
    ·exact .inr (by simpa using h)
   ·cases h1
  ·cases h1
 have late_of:∀{X:Nat->Bool} {i:Nat},a<=i->i<A->X i=false->(∀j∈cl.getD A [],X j=true)->i∈zhx cl a A:=by
  intro X i h1 h2 h3 h4;exact zmT.2 ⟨⟨h1,by omega⟩,fun h=>by rw [h4 i h] at h3;cases h3⟩
 let Ag:(Nat->Bool)->Array Value->Array Value->Prop:=fun X ts ts1=>ts.size=ts1.size/\∀t,(∀j∈zhx cl a A,X j=false->∀o,ops[j]?=some o->o.dst≠some t)->ts[t]?=ts1[t]?
 refine zAl (T:=A+1) (J:=fun X E ts w=>(X A=false->Sim w0 S0 (UX U base a A X) (zba ops b X a ss st0) E ts sv w) /\
  (X A=true->∃(U1:Nat->Prop) (st1:St) (ts1:Array Value),Sim w0 S0 U1 st1 E ts1 sv w/\(∀n,U1 n->VV V base ops.size (A+1) n)/\base+32*ops.size<=st1.nid/\(∀n,st1.nid<=n->¬ U1 n)/\zi1 C ops base k (zhx cl a A) st1=some ans/\Ag X ts ts1)) W hTs hpin ?_ ?_ ?_
  fuel listed E ts w hsz hX hbel (fun m h1 h2=>hlow m (by omega) h2) hf ⟨fun _=>hS,fun h=>(by rw [hlow A (Nat.le_refl _) (by omega)] at h;cases h)⟩
 ·intro X Y E ts w h hJ;have hXA:X A=Y A:=h A (by omega) (by omega)
  have e:=ze2 (ops:=ops) (b:=b) ss a st0 (X:=X) (Y:=Y) (fun k h1 h2=>h k h1 (by omega))
  refine ⟨fun hYA=>?_,fun hYA=>?_⟩
  ·have:=hJ.1 (hXA.trans hYA);rw [e] at this;refine this.uses ?_
   rintro n (h1|⟨k,h0,h1,h2,h3⟩)
   ·exact .inl h1
   ·exact .inr ⟨k,h0,h1,by rw [<- h k h0 (by omega)];exact h2,h3⟩
  ·obtain ⟨U1,st1,ts1,h1,h2,h3,h4,h5,h6,h7⟩:=hJ.2 (hXA.trans hYA);refine ⟨U1,st1,ts1,h1,h2,h3,h4,h5,h6,fun t ht=>h7 t (fun j hj hXj=>ht j hj ?_)⟩;have:=zmT.1 hj;rw [<- h j this.1.1 (by omega)]
   exact hXj
 ·intro X Y i hX hia hi hXi hr hY E ts w hJ K hK
  by_cases hiA:i=A
  ·subst hiA;have hSX:=hJ.1 hXi
   have ghost:∀n,a<=n->n<=i->∃ts1,Sim w0 S0 (UX U base a i (fun k=>X k||decide (k<n))) (zba ops b (fun k=>X k||decide (k<n)) a ss st0) E ts1 sv w/\Ag X ts ts1:=by
    intro n
    induction n with
    | zero =>
     intro h0 _;have e:(fun k=>X k||decide (k<0))=X:=by funext k;simp
     rw [e];exact ⟨ts,hSX,rfl,fun _ _=>rfl⟩
    | succ n ih =>
     intro h1 h2
     by_cases han:a=n+1
     ·have e:zba ops b (fun k=>X k||decide (k<n+1)) a ss st0=zba ops b X a ss st0:=ze2 ss a st0 (fun k g1 g2=>by
       have:¬ k<n+1:=by omega
       simp [this])
      rw [e];refine ⟨ts,hSX.uses (huses fun k hk=>by simp [hk]),rfl,fun _ _=>rfl⟩
     ·obtain ⟨ts1,hS1,hA1⟩:=ih (by omega) (by omega)
      have hset:∀k,(X k||decide (k<n+1))=((X k||decide (k<n))||k==n):=fun k=>by
       by_cases hk:k<n
       ·have:k<n+1:=by omega
        simp [hk,this]
       ·by_cases hk2:k=n
        ·subst hk2;simp
        ·have:¬ k<n+1:=by omega
         simp [hk,hk2,this]
      cases hXn:X n with
      | true =>
       have e:(fun k=>X k||decide (k<n+1))=fun k=>X k||decide (k<n):=by
        funext k
        rw [hset k]
        by_cases hk:k=n
        ·subst hk;simp [hXn]
        ·simp [hk]
       rw [e];exact ⟨ts1,hS1,hA1⟩
      | false =>
       have hln:=late_of (by omega) (by omega) hXn hr
       obtain ⟨p,t,hp,ht,hpo,_⟩:=hlate n hln;have hcX:zeF cl (fun k=>X k||decide (k<n)):=by
        intro k hk j hj;simp only [Bool.or_eq_true,decide_eq_true_eq] at hk ⊢;rcases hk with hk|hk
        ·exact .inl (hX k hk j hj)
        ·have:=W.lt k (by omega) j hj
         exact .inr (by omega)
       obtain ⟨q,rfl⟩:∃q,n=a+q:=⟨n-a,by omega⟩
       obtain ⟨s,hs⟩:∃s,ss[q]?=some s:=⟨_,List.getElem?_eq_getElem (by omega)⟩
       have hXn2:(X (a+q)||decide (a+q<a+q))=false:=by simp [hXn]
       obtain ⟨o,ho,hdo⟩:=zFw F hcX hs hXn2 (fun j hj=>by
        have:=W.lt (a+q) (by omega) j hj
        simp [this])
       rw [hp] at ho;cases ho;have hg0:p.guard=none:=by
        unfold zij at hpo;simp only [Bool.and_eq_true,Option.isNone_iff_eq_none] at hpo;exact hpo.1
       cases s with
       | none =>
        exfalso;have:zb8 ops p (zba ops b (fun k=>X k||decide (k<a+q)) a ss st0)=some false:=hdo;simp [zb8,hg0] at this
       | some d =>
        obtain ⟨_,d2,d3⟩:=hdo;obtain ⟨_,v2,hrun,hvm,hids,e1,e2,e3⟩:=zoS hC hS1 hpo d2 d3;have hput:∀κ,(zba ops b (fun k=>X k||decide (k<a+q+1)) a ss st0).get κ=((zba ops b (fun k=>X k||decide (k<a+q)) a ss st0).put p.dst d.v).get κ:=by
         intro κ;rw [zy0 F hcX hs hp hXn2 (fun k=>hset k) κ];simp only [St.step,St.effD,e1,e2,List.map_nil,List.nil_append]
        have hS2:=hS1.putV (dst:=p.dst) hvm hids;refine ⟨(({ tmps:=ts1,defers:=[] }:Act).put p.dst v2).tmps,(hS2.same hput ?_ ?_).uses (huses fun k hk=>?_),?_,?_⟩
        ·rw [zgP,zE4,zgP]
        ·rw [zdy,zKx,zdy]
        ·simp only [Bool.or_eq_true,decide_eq_true_eq] at hk ⊢;rcases hk with hk|hk
         ·exact .inl hk
         ·exact .inr (by omega)
        ·rw [ht];simp [Act.put,hA1.1]
        ·intro t' ht';rw [hA1.2 t' ht',ht];have hne:t≠t':=fun e=>ht' _ hln hXn p hp (by rw [ht,e])
         simp [Act.put,Array.getElem?_setIfInBounds_ne hne]
   obtain ⟨ts1,hS1,hA1⟩:=ghost i haA (Nat.le_refl _);have e:=ze2 (ops:=ops) (b:=b) ss a st0 (X:=fun k=>X k||decide (k<i)) (Y:=fun _=>true) (fun k h1 h2=>by
    have:k<i:=by omega
    simp [this])
   rw [e] at hS1;have hS1:=hS1.uses (huses (Y:=fun _=>true) fun _ _=>rfl)
   let Q1:Exit->Act->World->Prop:=fun e a' w'=>e = .normal/\a'.defers=[]/\∃(U1:Nat->Prop) (st1:St) (E1:Env),Sim w0 S0 U1 st1 E1 a'.tmps sv w'/\(∀n,U1 n->VV V base ops.size (i+1) n)/\base+32*ops.size<=st1.nid/\(∀n,st1.nid<=n->¬ U1 n)/\zi1 C ops base k (zhx cl a i) st1=some ans
   have hnidf:(zba ops b (fun _=>true) a ss st0).nid=st0.nid:=zrN ss a st0;have key:=zgO (Q:=Q1) hC hH hG hN hcall (ops:=ops) (base:=base) (V:=VV V base ops.size (i+1)) (nid0:=base+32*ops.size) (fun n hn'=>.inr (.inr hn'))
    (fun U' st' E' ts' w' hS' hU' hn' hF' h'=>⟨rfl,rfl,U',st',E',hS',hU',hn',hF',h'⟩)
    [i] _ _ E ts1 w hS1 ?_ (by rw [hnidf];exact hF) ?_ (by simp) (by rw [hnidf];exact hnid) ?_ hden
   ·rw [wpOps_cons] at key;refine zOx hoA hcv (fun t ht=>hA1.2 t (fun j hj hXj o ho hdt=>?_)) (fun e a w h=>h.1) (fun a' w' h=>h.2.1) (fun v w' h=>?_) key
    ·obtain ⟨p,t',hp,hpt,_,hn,_⟩:=hlate j hj;rw [hp] at ho;cases ho;rw [hpt] at hdt;cases hdt;exact hn ht
    ·obtain ⟨_,_,U1,st1,E1,g1,g2,g3,g4,g5⟩:=h;rw [zeH];refine hK E1 _ w' ⟨fun h=>(by rw [hY] at h;simp at h),fun _=>⟨U1,st1,_,g1,g2,g3,g4,g5,?_,?_⟩⟩
     ·cases oA.dst<;>simp [Act.put,hA1.1]
     ·intro t ht;have h0:ts[t]?=ts1[t]?:=hA1.2 t (fun j hj hXj=>ht j hj (by
       have:=zmT.1 hj;rw [hY,hXj];simp;omega))
      cases hdst:oA.dst with
      | none=>simpa [Act.put,hdst] using h0
      | some d =>
       simp only [Act.put,hdst,Array.getElem?_setIfInBounds,hA1.1];split
       ·rfl
       ·exact h0
   ·rintro n hn'
    rcases hVV n hn' with h|⟨h1,h2⟩|h
    ·exact .inl h
    ·exact .inr (.inl ⟨h1,by omega⟩)
    ·exact .inr (.inr h)
   ·intro j hj n hmn;simp only [List.mem_singleton] at hj;subst hj;obtain ⟨g1,g2⟩:=hmn;refine ⟨fun hn'=>?_,.inr (.inl ⟨by omega,by omega⟩)⟩
    rcases hVV n hn' with h|⟨h1,h2⟩|h
    ·exact hVb n (by omega) h
    ·omega
    ·omega
   ·intro j hj;simp only [List.mem_singleton] at hj;subst hj;rw [hnidf];omega
  ·have hiA':i<A:=by omega
   have hYA:Y A=X A:=by
    rw [hY];have:(A==i)=false:=by simp;omega
    rw [this,Bool.or_false]
   cases hXA:X A with
   | false =>
    refine zwX hC hH hA F hX hia hiA' hXi hr hb hd hM hY (hJ.1 hXA) (fun E' ts' w' hS'=>hK E' ts' w' ⟨fun _=>hS',fun h=>(by rw [hYA,hXA] at h;cases h)⟩)
   | true =>
    obtain ⟨U1,st1,ts1,g1,g2,g3,g4,g5,g6,g7⟩:=hJ.2 hXA;have hli:=late_of hia hiA' hXi (fun j hj=>hX A hXA j hj);obtain ⟨p,t,hp,ht,hpo,_,hap⟩:=hlate i hli;obtain ⟨o,d,t2,ho,hdl,hdc,ht2,htm⟩:=(znq g5).2 i hli;rw [hp] at ho;cases ho;rw [ht] at ht2;cases ht2;obtain ⟨hg0,v2,hrun,hvm,hids,_,_,_⟩:=zoS hC g1 hpo hdl hdc;have hag:execOp ({ tmps:=ts,defers:=[] }:Act).eval p=execOp ({ tmps:=ts1,defers:=[] }:Act).eval p:=zOk hpo (fun t' ht'=>g7 t' (fun j hj hXj o ho hdt=>by
     obtain ⟨p2,t3,hp2,hpt2,_,_,hap2⟩:=hlate j hj;rw [hp2] at ho;cases ho;rw [hpt2] at hdt;cases hdt;have:=hr j ((hap2 i hli p hp).1 ht');rw [this] at hXj;cases hXj))
    rw [<- hag] at hrun;refine pure_run (d:=d) hp hg0 hrun (hK E _ w ⟨fun h=>(by rw [hYA,hXA] at h;cases h),fun _=>⟨U1,st1,(({ tmps:=ts1,defers:=[] }:Act).put p.dst v2).tmps,?_,g2,g3,g4,g5,?_,?_⟩⟩)
    ·have:=g1.putV (dst:=p.dst) hvm hids;rw [ht,zz5 htm] at this;rw [ht];exact this
    ·rw [ht];simp [Act.put,g6]
    ·intro t' ht';rw [ht];simp only [Act.put,Array.getElem?_setIfInBounds,g6];split
     ·rfl
     ·rename_i hne;refine g7 t' (fun j hj hXj o ho hdt=>?_)
      by_cases hji:j=i
      ·subst hji;rw [hp] at ho;cases ho;rw [ht] at hdt;cases hdt;exact hne rfl
      ·refine ht' j hj ?_ o ho hdt;rw [hY,hXj];simp [hji]
 ·intro fl l' E' ts' w' hsz' hl' hf' hJ;obtain ⟨U1,st1,ts1,g1,g2,g3,g4,g5,g6,g7⟩:=hJ.2 rfl;have:ts'=ts1:=Array.ext_getElem? fun t=>g7 t (fun j _ h=>by cases h)
  subst this;exact htail fl l' U1 st1 E' ts' w' hsz' hl' hf' g1 g2 g3 g4 (znq g5).1
theorem zuq (hC:CfgOk C)(W:Waits md ops cl){x:App}{kk:Nat->List Bool->St->Option Ans}{ans:Ans}{Q:Exit->Act->World->Prop}(hkk:∀(m':Nat) (r':List Bool) (U':Nat->Prop) (st':St) (E':Env) (ts':Array Value) (w':World) (fl:Nat) (l':Array Bool),r'=(zex ops.size cl).drop m'->m'<=ops.size->l'.size=ops.size->(∀i,i<ops.size->l'.getD i true=decide (i<m'))->left ops.size l'<=fl ->
 Sim w0 S0 U' st' E' ts' sv w'->(∀n,U' n->VV U base ops.size m' n)->(∀n,st'.nid<=n->¬ U' n)->base+32*ops.size<=st'.nid->kk m' r' st'=some ans->wpAny C.P md ops Q fl l' { tmps:=ts',defers:=[] } w') :
 ∀(pins:List Bool) (m:Nat) (V:Nat->Prop) (st:St) (E:Env) (ts:Array Value) (w:World) (fuel:Nat) (listed:Array Bool) (v:Value),pins=(zex ops.size cl).drop m->m<=ops.size->listed.size=ops.size->(∀i,i<ops.size->listed.getD i true=decide (i<m))->left ops.size listed<=fuel ->
  Sim w0 S0 V st E ts sv w->(∀n,V n->VV U base ops.size m n)->(∀n,st.nid<=n->¬ V n)->base+32*ops.size<=st.nid->ts[x.dst]?=some v->Late w0 st E x v w->zlm C ops base x kk pins m st=some ans->wpAny C.P md ops Q fuel listed { tmps:=ts,defers:=[] } w
 | [],m,V,st,E,ts,w,fuel,listed,v,_,_,_,_,_,_,_,_,_,_,_,h=>by simp [zlm] at h
 | false :: r,m,V,st,E,ts,w,fuel,listed,v,_,_,_,_,_,_,_,_,_,_,_,h=>by simp [zlm] at h
 | true :: r,m,V,st,E,ts,w,fuel,listed,v,hp,hm,hsz,hl,hf,hS,hV,hF,hn,hv,hL,h=>by
  simp only [zlm] at h;obtain ⟨hms,hpin,hr⟩:=zmU hp;have hV1:∀n,V n->VV U base ops.size (m+1) n:=by
   rintro n hn'
   rcases hV n hn' with h|⟨h1,h2⟩|h
   ·exact .inl h
   ·exact .inr (.inl ⟨h1,by omega⟩)
   ·exact .inr (.inr h)
  refine zM8 W hsz hms (zto hpin.symm) hl hf (fun fl l' hsz' hl' hf' _ _=>?_);split at h
  ·cases h
  ·rename_i o ho;split at h
   ·rename_i c st2 hst;cases hc:c with
    | false=>rw [hc] at h;cases h
    | true =>
     rw [hc] at h hst;simp only [cond_true,zxx] at h;obtain ⟨hg,hgo,hnid⟩:=zNL (id:=base+32*m) hC hS hL hv hst;unfold wpOp;simp only [ho];rw [if_pos (by simp [Region.wanted,hg])]
     refine .inl (hgo _ _ (fun E' v' w' hS'=>?_));rw [zeH];refine hkk (m+1) r _ _ E' _ w' fl l' hr (by omega) hsz' hl' hf' hS' ?_ ?_ (by rw [zdm];omega) h
     ·rintro n (h|⟨h1,h2⟩)
      ·exact hV1 n h
      ·exact .inr (.inl ⟨by omega,by omega⟩)
     ·rintro n hn' (h|⟨h1,h2⟩)
      ·exact hF n (by rw [zdm] at hn';omega) h
      ·rw [zdm] at hn';omega
   ·split at h
    ·rename_i hcond;simp only [Bool.and_eq_true,Bool.not_eq_true',beq_eq_false_iff_ne] at hcond;split at h
     ·rename_i d hd;cases hc:d.c with
      | false=>rw [hc] at h;cases h
      | true =>
       rw [hc] at h;simp only [cond_true] at h;obtain ⟨hg,v2,hrun,hvm,hids,e1,e2,e3⟩:=zoS hC hS hcond.1 hd hc;have he:st.apply o.dst d=st.put o.dst d.v:=by simp [St.apply,e1,e2,e3]
       rw [he] at h;refine pure_run (d:=d) ho hg hrun ?_;refine zuq hC W hkk r (m+1) V _ E _ w fl l' v hr (by omega) hsz' hl' hf' (hS.putV hvm hids) hV1 (by rw [zdm];exact hF) (by rw [zdm];exact hn) ?_ (hL.states (fun n=>?_) (fun n=>?_)) h
       ·cases hod:o.dst with
        | none=>exact hv
        | some t=>exact zKz hv (fun e=>hcond.2 (by rw [hod,e]))
       ·cases o.dst<;>rfl
       ·cases o.dst<;>rfl
     ·cases h
    ·cases h
theorem zf2 (hC:CfgOk C)(hH:CtrOk C)(hG:GraftOk C)(hN:NameOk C){call:zdL}(hcall:zmF C call)(W:Waits md ops cl){k:St->Option Ans}{ans:Ans}{Q:Exit->Act->World->Prop}(hU0:∀n,base<=n->¬ U n)(hk:∀(U':Nat->Prop) (st':St) (E':Env) (ts':Array Value) (w':World),Sim w0 S0 U' st' E' ts' sv w'->(∀n,U' n->VV U base ops.size ops.size n)->base+32*ops.size<=st'.nid->(∀n,st'.nid<=n->¬ U' n)->k st'=some ans->Q .normal { tmps:=ts',defers:=[] } w') :
 ∀(fs m:Nat) (pins:List Bool) (V:Nat->Prop) (st:St) (E:Env) (ts:Array Value) (w:World) (fuel:Nat) (listed:Array Bool),pins=(zex ops.size cl).drop m->m<=ops.size->listed.size=ops.size->(∀i,i<ops.size->listed.getD i true=decide (i<m))->left ops.size listed<=fuel ->
  Sim w0 S0 V st E ts sv w->(∀n,V n->VV U base ops.size m n)->(∀n,st.nid<=n->¬ V n)->base+32*ops.size<=st.nid->zgn C call ops cl base k fs m pins st=some ans->wpAny C.P md ops Q fuel listed { tmps:=ts,defers:=[] } w
 | 0,m,pins,V,st,E,ts,w,fuel,listed,_,_,_,_,_,_,_,_,_,h=>by simp [zgn] at h
 | fs+1,m,[],V,st,E,ts,w,fuel,listed,hp,hm,hsz,hl,hf,hS,hV,hF,hn,h=>by
  simp only [zgn] at h;have hms:=zKw hp;have e:m=ops.size:=by omega
  subst e;exact zQv (fun i hi=>by rw [hl i hi];simp [hi]) (hk V st E ts w hS hV hn hF h)
 | fs+1,m,true :: r,V,st,E,ts,w,fuel,listed,hp,hm,hsz,hl,hf,hS,hV,hF,hn,h=>by
  simp only [zgn] at h;obtain ⟨hms,hpin,hr⟩:=zmU hp;refine zM8 W hsz hms (zto hpin.symm) hl hf (fun fl l' hsz' hl' hf' _ _=>?_)
  let Q':Exit->Act->World->Prop:=fun e a w=>match e with
   | .normal=>wpAny C.P md ops Q fl l' a w
   | e=>Q e a w
  have hQ:∀e,e≠Exit.normal->∀a w,Q' e a w->Q e a w:=by
   intro e he a w h;cases e<;>first|exact absurd rfl he|exact h
  refine zOw hQ ?_;have key:=zgO (Q:=Q') hC hH hG hN hcall (ops:=ops) (base:=base) (V:=VV U base ops.size (m+1)) (nid0:=base+32*ops.size) (fun n hn'=>.inr (.inr hn'))
   (fun U' st' E' ts' w' hS' hU' hn' hF' h'=>zf2 hC hH hG hN hcall W hU0 hk fs (m+1) r U' st' E' ts' w' fl l' hr (by omega) hsz' hl' hf' hS' hU' hF' hn' h')
   [m] V st E ts w hS ?_ hF ?_ (by simp) hn ?_ h
  ·rw [wpOps_cons] at key;exact wpOp_mono (fun a w h=>h) key
  ·rintro n hn'
   rcases hV n hn' with h|⟨h1,h2⟩|h
   ·exact .inl h
   ·exact .inr (.inl ⟨h1,by omega⟩)
   ·exact .inr (.inr h)
  ·intro j hj n hmn;simp only [List.mem_singleton] at hj;subst hj;obtain ⟨g1,g2⟩:=hmn;refine ⟨fun hn'=>?_,.inr (.inl ⟨by omega,by omega⟩)⟩
   rcases hV n hn' with h|⟨h1,h2⟩|h
   ·exact hU0 n (by omega) h
   ·omega
   ·omega
  ·intro j hj;simp only [List.mem_singleton] at hj;subst hj;omega
 | fs+1,m,false :: r,V,st,E,ts,w,fuel,listed,hp,hm,hsz,hl,hf,hS,hV,hF,hn,h=>by
  simp only [zgn] at h;obtain ⟨hms,_,hr⟩:=zmU hp;obtain ⟨hfr1,hfr2,hfr3⟩:=zFF r (m+1) (by omega) hr
  generalize hb0:(List.range' m (zbD r+1)).any (zhz ops)=b at h;have hS0':Sim w0 S0 V { st with ep:=if b then st.ep+1 else st.ep } E ts sv w:=hS.blind b st.nid
  have hnid0:({ st with ep:=if b then st.ep+1 else st.ep }:St).nid=st.nid:=rfl
  have hd':b=true->Dead ({ st with ep:=if b then st.ep+1 else st.ep }:St)/\0<({ st with ep:=if b then st.ep+1 else st.ep }:St).ep:=by
   intro hb;subst hb;refine ⟨fun n R e hR he=>?_,by simp⟩
   have:=hS.mem.epo n R e hR he;simp only [if_true];omega
  have hb':b=false->∀k,m<=k->k<m+1+zbD r->zhz ops k=false:=by
   intro hb k hk1 hk2;rw [hb] at hb0;have:=List.any_eq_false.1 hb0 k (by simp;omega)
   simpa using this
  have hM:∀k,m<=k->k<m+1+zbD r->∀n,Mine (base+32*k) n->¬ V n:=by
   intro k h1 h2 n hn' hv;have g1:=hn'.1;have g2:=hn'.2;rcases hV n hv with h|⟨h3,h4⟩|h
   ·exact hU0 n (by omega) h
   ·omega
   ·omega
  have hoff:∀(ss:List Step) (st0:St),zba ops b (XL listed) m ss st0=st0:=fun ss st0=>zrO ss m st0 (fun k hk=>by
   rcases Nat.lt_or_ge k ops.size with h|h
   ·rw [zon (by omega),hl k h];simp;omega
   ·simp [XL,Array.getElem?_eq_none (show listed.size<=k by omega)])
  have hVX:∀{T:Nat},T<=m+(zbD r+1)->∀n,UX V base m T (fun _=>true) n->VV U base ops.size (m+(zbD r+1)) n:=by
   rintro T hT n (h|⟨k,h0,h1,_,h3⟩)
   ·rcases hV n h with h|⟨h1,h2⟩|h
    ·exact .inl h
    ·exact .inr (.inl ⟨h1,by omega⟩)
    ·exact .inr (.inr h)
   ·have g1:=h3.1;have g2:=h3.2;exact .inr (.inl ⟨by omega,by omega⟩)
  have hFX:∀{T:Nat},T<=m+(zbD r+1)->∀n,st.nid<=n->¬ UX V base m T (fun _=>true) n:=by
   rintro T hT n hn' (h|⟨k,h0,h1,_,h3⟩)
   ·exact hF n (by omega) h
   ·have:=h3.2;omega
  have hmk:∀{gs:List (Nat×Foot)} {ss:List Step} {st0 st':St},(∀x∈gs,∀y∈gs,(¬ x.1<y.1\/x.1∈cl.getD y.1 [])\/x.2.apart y.2=true)->Trace C ops b base m ss gs st0 st'->Free C ops cl b base m ss st0:=by
   intro gs ss st0 st' hok htr;have hat:=zK4 htr;refine ⟨fun i s hs=>?_,fun i k s s' o o' f f' hs hs' ho ho' h1 h2 hik hni=>?_⟩
   ·obtain ⟨o,f,g1,g2,g3⟩:=hat i s hs;exact ⟨o,f,g1,g3⟩
   ·obtain ⟨o1,f1,g1,g2,g3⟩:=hat i s hs;obtain ⟨o2,f2,e1,e2,e3⟩:=hat k s' hs';rw [ho] at g1;cases g1;rw [ho'] at e1;cases e1;have hf1:=zyQ h1 g3;have hf2:=zyQ h2 e3;subst hf1 hf2;rcases hok _ g2 _ e2 with (h|h)|h
    ·exact absurd (by show m+i<m+k;omega) h
    ·exact absurd h hni
    ·exact h
  have hbelow:∀i,i<m->XL listed i=true:=fun i hi=>by rw [zon (by omega),hl i (by omega)];simp [hi]
  have habove:∀k,m<=k->k<ops.size->XL listed k=false:=fun k h1 h2=>by rw [zon (by omega),hl k h2];simp;omega
  rcases znn (zbD r+1) m [] _ h with ⟨ss,gs,st',hlen,htr,hok,hden⟩|⟨ss,gs,st',oA,x,hlen,htr,hoA,hap,hbt,hlo,hxl,hok,hden⟩|⟨ss,gs,st',oA,hlen,htr,hoA,hcv,hlo,hlr,hok,hden⟩
  ·rw [List.append_nil] at hok;unfold zhj at hok;simp only [Bool.not_eq_true',List.all_eq_true,Bool.or_eq_true,decide_eq_false_iff_not,List.contains_eq_mem,decide_eq_true_eq,List.mem_reverse] at hok;generalize hst0:({ st with ep:=if b then st.ep+1 else st.ep }:St)=st0 at htr hS0' hnid0 hd'
   have hfin:st'=zba ops b (fun _=>true) m ss st0:=zxC htr;refine zQg (w0:=w0) (S0:=S0) (sv:=sv) hC hH W (T:=m+1+zbD r) (by omega) hfr1 hfr3 (hmk hok htr) hb' hd' hM (fun fl l' E' ts' w' hsz' hl' hf' hS'=>?_) fuel listed E ts w hsz (ziN W hsz hl) hbelow (fun k h1 h2=>habove k (by omega) h2) hf ?_
   ·rw [<- hfin] at hS';have hnid':st'.nid=st.nid:=by rw [hfin,zrN,hnid0]
    exact zf2 hC hH hG hN hcall W hU0 hk fs (m+(zbD r+1)) (r.drop (zbD r)) _ st' E' ts' w' fl l' (by rw [hfr2];congr 1;omega) (by omega) hsz' (fun i hi=>by rw [hl' i hi];congr 1;simp only [eq_iff_iff];omega) hf' hS' (hVX (by omega)) (by rw [hnid'];exact hFX (by omega)) (by omega) hden
   ·rw [hoff];exact hS0'.uses (fun n h=>.inl h)
  ·rw [List.append_nil] at hok;unfold zhj at hok;simp only [Bool.not_eq_true',List.all_eq_true,Bool.or_eq_true,decide_eq_false_iff_not,List.contains_eq_mem,decide_eq_true_eq,List.mem_cons,List.mem_reverse] at hok;generalize hst0:({ st with ep:=if b then st.ep+1 else st.ep }:St)=st0 at htr hS0' hnid0 hd'
   have hfin:st'=zba ops b (fun _=>true) m ss st0:=zxC htr;subst hfin;have hA:m+ss.length=m+zbD r:=by omega
   rw [hA] at hoA hlo hok;have hat:=zK4 htr;refine zQk (w0:=w0) (S0:=S0) (sv:=sv) hC hH W hA (by omega) (fun h=>by
    have e:m+zbD r+1=m+1+zbD r:=by omega
    rw [e] at h ⊢;exact hfr3 h) (hmk (fun x hx y hy=>hok x (.inr hx) y (.inr hy)) htr) (fun hb k h1 h2=>hb' hb k h1 (by omega)) hbt hd' (fun k h1 h2=>hM k h1 (by omega)) hoA hap hlo hxl (fun i s o f hs ho h1 hni=>?_)
    (fun fl l' E' ts' w' v hsz' hl' hf' hv hS' hL=>?_) fuel listed E ts w hsz (ziN W hsz hl) hbelow (fun k h1 h2=>habove k (by omega) h2) hf ?_
   ·obtain ⟨o1,f1,g1,g2,g3⟩:=hat i s hs;rw [ho] at g1;cases g1;have hf1:=zyQ h1 g3;subst hf1;have hi:i<ss.length:=(List.getElem?_eq_some_iff.1 hs).1;rcases hok _ (.inr g2) _ (.inl rfl) with (h|h)|h
    ·exact absurd (by show m+i<m+zbD r;omega) h
    ·exact absurd h hni
    ·exact h
   ·have hnid':((zba ops b (fun _=>true) m ss st0).put oA.dst (.v (.at .bad))).nid=st.nid:=by rw [zdm,zrN,hnid0]
    exact zuq hC W (fun m' r' U' st'' E'' ts'' w'' fl' l'' h1 h2 h3 h4 h5 h6 h7 h8 h9 h10=>zf2 hC hH hG hN hcall W hU0 hk fs m' r' U' st'' E'' ts'' w'' fl' l'' h1 h2 h3 h4 h5 h6 h7 h8 h9 h10)
     (r.drop (zbD r)) (m+(zbD r+1)) _ _ E' ts' w' fl l' v (by rw [hfr2];congr 1;omega) (by omega) hsz' (fun i hi=>by rw [hl' i hi];congr 1) hf' hS' (hVX (by omega)) (by rw [hnid'];exact hFX (by omega)) (by omega) hv hL hden
   ·rw [hoff];exact hS0'.uses (fun n h=>.inl h)
  ·rw [List.append_nil] at hok;unfold zhj at hok;simp only [Bool.not_eq_true',List.all_eq_true,Bool.or_eq_true,decide_eq_false_iff_not,List.contains_eq_mem,decide_eq_true_eq,List.mem_reverse] at hok;generalize hst0:({ st with ep:=if b then st.ep+1 else st.ep }:St)=st0 at htr hS0' hnid0 hd'
   have hfin:st'=zba ops b (fun _=>true) m ss st0:=zxC htr;subst hfin;have hA:m+ss.length=m+zbD r:=by omega
   rw [hA] at hoA hlo hlr hden;refine zPD (w0:=w0) (S0:=S0) (sv:=sv) (V:=U) hC hH hG hN hcall W (by omega) hA (by omega) (fun h=>by
    have e:m+zbD r+1=m+1+zbD r:=by omega
    rw [e] at h ⊢;exact hfr3 h) (hmk hok htr) (fun hb k h1 h2=>hb' hb k h1 (by omega)) hd' (fun k h1 h2=>hM k h1 (by omega)) hoA hcv hlo hlr ?_ hU0 (by omega) (fun n hn'=>by rw [hnid0] at hn';exact hFX (by omega) n hn') hden
    (fun fl l' U' st'' E' ts' w' hsz' hl' hf' g1 g2 g3 g4 g5=>zf2 hC hH hG hN hcall W hU0 hk fs (m+(zbD r+1)) (r.drop (zbD r)) U' st'' E' ts' w' fl l' (by rw [hfr2];congr 1;omega) (by omega) hsz' (fun i hi=>by rw [hl' i hi];congr 1) hf' g1 g2 g4 g3 g5)
    fuel listed E ts w hsz (ziN W hsz hl) hbelow (fun k h1 h2=>habove k (by omega) h2) hf ?_
   ·rintro n (h|⟨k,h0,h1,_,h3⟩)
    ·rcases hV n h with h|⟨h1,h2⟩|h
     ·exact .inl h
     ·exact .inr (.inl ⟨h1,by omega⟩)
     ·exact .inr (.inr h)
    ·have g1:=h3.1;have g2:=h3.2;exact .inr (.inl ⟨by omega,by omega⟩)
   ·rw [hoff];exact hS0'.uses (fun n h=>.inl h)
theorem zRW (hC:CfgOk C)(hH:CtrOk C)(hG:GraftOk C)(hN:NameOk C):DrawOk C:=by
 refine ⟨fun call hcall ops k ans Q w0 S0 sv U0 nid0 U st E ts w hk hS hU hF hn h t=>?_⟩;unfold zyZ at h;simp only at h;generalize hcl:zeO ops (List.range ops.size) []=cl at h;split at h
 case isFalse=>cases h
 rename_i hok;unfold zOM at hok;simp only [Bool.and_eq_true,List.all_eq_true,List.mem_range,decide_eq_true_eq] at hok;obtain ⟨hdep,hlt⟩:=hok;have hatc:∀i,i<ops.size->cl.getD i []=waits ops (cl.take i) i:=fun i hi=>by rw [<- hcl];exact zNl hi
 have hord:∀(md:Region.Mode) (rk:Nat->Nat),zE3 md ops rk=true->∃rk:Nat->Nat,∀(i:Nat) (o:Oper),ops[i]?=some o->∀e∈o.after,Region.binds md e=true->e.on<ops.size/\rk e.on<rk i:=by
  intro md rk h;refine ⟨rk,fun i o ho e he hb=>?_⟩;have:=List.all_eq_true.1 h i (List.mem_range.2 (Array.getElem?_eq_some_iff.1 ho).1);rw [ho] at this;have:=List.all_eq_true.1 this e (by simpa using he)
  simpa [hb] using this
 have mkW:∀(md:Region.Mode),(∀e,Region.binds .any e=true->Region.binds md e=true)->(∃rk:Nat->Nat,∀(i:Nat) (o:Oper),ops[i]?=some o->∀e∈o.after,Region.binds md e=true->e.on<ops.size/\rk e.on<rk i)->Waits md ops cl :=
  fun md h1 h2=>⟨hatc,hlt,h1,h2⟩
 have hsubT:∀e,Region.binds .any e=true->Region.binds .text e=true:=fun e h=>by
  unfold Region.binds at *;cases hg:e.ground<;>rw [hg] at h<;>simp at h ⊢
 have hsubG:∀e,Region.binds .any e=true->Region.binds .gc e=true:=fun e h=>by
  unfold Region.binds at *;cases hg:e.ground<;>rw [hg] at h<;>simp at h ⊢
 have hmodes:∃md t',Region.schedule (C.P.follows .mixedOrders) ops t=Region.linearise md ops t'/\Waits md ops cl:=by
  have anyW:Waits .any ops cl:=mkW .any (fun _ h=>h) ⟨fun i=>i,fun i o ho e he hb=>by
   have h1:=zRX hatc ho he hb;have hi:=(Array.getElem?_eq_some_iff.1 ho).1;have h2:=hlt i hi _ h1;exact ⟨by omega,h2⟩⟩
  unfold Region.schedule
  by_cases hm:(C.P.follows .mixedOrders || !Region.departs ops)=true
  ·rw [if_pos hm];exact ⟨.any,t,rfl,anyW⟩
  ·rw [if_neg hm];have hd:Region.departs ops=true:=by
    cases h:Region.departs ops with
    | true=>rfl
    | false=>rw [h] at hm;simp at hm
   rw [hd,cond_true,Bool.and_eq_true] at hdep
   by_cases ht:(t % 2==0)=true
   ·rw [if_pos ht];exact ⟨.text,t / 2,rfl,mkW .text hsubT (hord .text _ hdep.1)⟩
   ·rw [if_neg ht];exact ⟨.gc,t / 2,rfl,mkW .gc hsubG (hord .gc _ hdep.2)⟩
 obtain ⟨md,t',hsch,W⟩:=hmodes;rw [hsch];refine wpAny_sound ops.size t' _ _ _ ?_;have hS1:Sim w0 S0 U { st with nid:=st.nid+32*ops.size } E ts sv { w with drawn:=w.drawn+1 }:=(hS.nid _).heap (w':={ w with drawn:=w.drawn+1 }) rfl rfl rfl rfl;refine zf2 hC hH hG hN hcall W hF (fun U' st' E' ts' w' hS' hU' hn' hF' h'=>hk U' st' E' ts' w' hS' ?_ (by omega) hF' h') (ops.size+1) 0 (zex ops.size cl) U _ E ts _ ops.size _ rfl (by omega) (by simp) (fun i hi=>by simp [hi]) ?_ hS1 (fun n h=>.inl h) ?_ (Nat.le_refl _) h
 ·intro n h;rcases hU' n h with h|⟨h1,_⟩|h
  ·exact hU n h
  ·exact .inr (by omega)
  ·exact .inr (by omega)
 ·unfold left;exact Nat.le_trans (List.countP_le_length) (by simp)
 ·intro n hn' h;exact hF n (Nat.le_trans (Nat.le_add_right _ _) hn') h
end
section
variable {P:Program}
def zK8:Value->CTy->Bool
 | .int k n,.i k'=>k==k'&&n==0
 | .bool b,.b=>!b
 | .slice none 0 0,.s _=>true
 | _,_=>false
def zv9:List Value->List CTy->Bool
 | [],[]=>true
 | v :: vs,t :: ts=>zK8 v t&&zv9 vs ts
 | _,_=>false
theorem zPz {v:Value}{t:CTy}(h:zK8 v t=true):v=zeroV t:=by
 unfold zK8 at h;split at h
 ·simp only [Bool.and_eq_true,beq_iff_eq] at h;obtain ⟨rfl,rfl⟩:=h;rfl
 ·simp only [Bool.not_eq_true'] at h;subst h;rfl
 ·rfl
 ·cases h
theorem zyL:∀{vs:List Value} {ts:List CTy},zv9 vs ts=true->vs=ts.map zeroV
 | [],[],_=>rfl
 | v :: vs,t :: ts,h=>by
  simp only [zv9,Bool.and_eq_true] at h;rw [List.map_cons,zPz h.1,zyL h.2]
 | [],_ :: _,h=>by cases h
 | _ :: _,[],h=>by cases h
def zxd (P:Program)(T:TypeId)(tys:List CTy):Bool :=
 match P.info? T with
 | some i=>i.size==tys.length&&(match i.zero with
  | some z=>zv9 z.cells.toList tys
  | none=>false)
 | none=>false
theorem zxe {T:TypeId}{tys:List CTy}(h:zxd P T tys=true):∃i z,P.info? T=some i/\i.size=tys.length/\i.zero=some z/\z.cells.toList=tys.map zeroV:=by
 unfold zxd at h;split at h
 ·rename_i i hi;simp only [Bool.and_eq_true,beq_iff_eq] at h;obtain ⟨h1,h2⟩:=h;split at h2
  ·rename_i z hz;exact ⟨i,z,hi,h1,hz,zyL h2⟩
  ·cases h2
 ·cases h
def zjI (P:Program)(T:TypeId):Bool :=
 (match zbR P 4 T with
  | some (agg,tys)=>zxd P T tys&&(!agg||(match P.underlying T with
   | some (.struct fs)=>(fs.toList.mapM (fun f=>(P.info? f.type).map fun i=>(f.offset,i.size))).isSome
   | _=>false))
  | none=>true) &&
 (match P.underlying T with
  | some (.slice e)=>match zx zId e with
   | some t=>zxd P e t.shape&&(match P.info? e with
    | some i=>decide (i.bytes<=1024)
    | none=>false)&&(match zbR P 4 e with
    | some (_,tys)=>decide (tys=t.shape)
    | none=>false)
   | none=>true
  | _=>true)
def zrM (P:Program):List Field->Nat->List CTy->Bool
 | [],_,[]=>true
 | f :: fs,off,ty :: tys=>f.name != "_" && f.offset==off&&(match P.underlying f.type,ty with
  | some (.int k),.i k'=>k==k'
  | some .bool,.b=>true
  | _,_=>false)&&zrM P fs (off+1) tys
 | _,_,_=>false
def zH0 (P:Program)(T:TypeId):Bool :=
 match zbR P 4 T with
 | some (true,tys)=>!P.stoodInHeld T && !P.eqGuardType P.depth T&&(match P.underlying T with
  | some (.struct fs)=>zrM P fs.toList 0 tys
  | _=>false)
 | _=>true
theorem zHZ {n:Nat}{T:TypeId}{agg:Bool}{tys:List CTy}(h:zbR P n T=some (agg,tys)) :
 (∃d,P.underlying T=some d/\zIN d=agg/\(∀k,tys=[.i k]->agg=false->d = .int k)/\(tys=[.b]->agg=false->d = .bool))/\(agg=false->tys.length=1):=by
 cases n with
 | zero=>cases h
 | succ n =>
  simp only [zbR] at h;split at h
  ·rename_i k hu;cases h;exact ⟨⟨_,hu,rfl,fun k' h _=>by simp only [List.cons.injEq,CTy.i.injEq,and_true] at h;rw [h],fun h=>by simp at h⟩,fun _=>rfl⟩
  ·rename_i hu;cases h;exact ⟨⟨_,hu,rfl,fun k' h=>by simp at h,fun _ _=>rfl⟩,fun _=>rfl⟩
  ·rename_i e hu;split at h
   ·cases h;exact ⟨⟨_,hu,rfl,fun k' h=>by simp at h,fun h=>by simp at h⟩,fun _=>rfl⟩
   ·cases h
  ·rename_i fs hu;split at h
   ·cases h;exact ⟨⟨_,hu,rfl,fun k' _ h=>(by cases h),fun _ h=>(by cases h)⟩,fun h=>by cases h⟩
   ·cases h
  ·cases h
theorem zAn {α:Type}{T:Nat}{x:Option α}{y:α}(h:below T x=some y):T<zdJ/\x=some y:=by
 unfold below at h;cases hb:Nat.blt T zdJ with
 | false=>rw [hb] at h;cases h
 | true =>
  rw [hb] at h;exact ⟨by rwa [Nat.blt_eq] at hb,h⟩
theorem mapM_at {α β:Type}{g:α->Option β}:∀{l:List α} {m:List β},l.mapM g=some m->∀{k:Nat} {x:α},l[k]?=some x->m[k]?=g x
 | [],m,h,k,x,hx=>by simp at hx
 | a :: l,m,h,k,x,hx=>by
  simp only [List.mapM_cons,Option.bind_eq_bind,Option.bind_eq_some_iff,Option.pure_def,Option.some.injEq] at h;obtain ⟨b,hb,m',hm',rfl⟩:=h;cases k with
  | zero =>
   simp only [List.getElem?_cons_zero,Option.some.injEq] at hx;subst hx;rw [hb];rfl
  | succ k=>exact mapM_at hm' (by simpa using hx)
theorem zeh {α β:Type}{f:α->Option β}{a:α}{l:List α}{bs:List β}(h:zb0 f (a :: l)=some bs):∃b bs',f a=some b/\zb0 f l=some bs'/\bs=b :: bs':=by
 simp only [zb0] at h;split at h
 ·rename_i b hb;split at h
  ·rename_i bs' hbs;cases h;exact ⟨b,bs',hb,hbs,rfl⟩
  ·cases h
 ·cases h
theorem zyt (w:World)(d:Nat)(xs ys:Array Value):∀(fs:List Field) (off:Nat) (tys:List CTy) (l m:List At) (e:Bool),zrM P fs off tys=true->zb0 zjH l=some tys->zb0 zjH m=some tys->zrH l m=some e ->
 xs.size=off+l.length->ys.size=off+m.length->(∀(j:Nat) (a:At) (u:Value),l[j]?=some a->xs[off+j]?=some u->VS a u)->(∀(j:Nat) (a:At) (u:Value),m[j]?=some a->ys[off+j]?=some u->VS a u) ->
 (Op.eqFields (d+1) xs ys fs).run P w = .ok e w
 | [],off,tys,l,m,e,hf,hl,hm,he,_,_,_,_=>by
  cases tys with
  | cons t ts=>cases hf
  | nil =>
   cases l with
   | cons a l=>obtain ⟨_,_,_,_,h⟩:=zeh hl;cases h
   | nil =>
    cases m with
    | cons a m=>obtain ⟨_,_,_,_,h⟩:=zeh hm;cases h
    | nil=>cases he;simp [Op.eqFields]
 | f :: fs,off,tys,l,m,e,hf,hl,hm,he,hsx,hsy,hx,hy=>by
  cases tys with
  | nil=>cases hf
  | cons ty tys =>
   cases l with
   | nil=>cases hl
   | cons a l =>
    cases m with
    | nil=>cases hm
    | cons c m =>
     obtain ⟨ta,tys',ha,hl',h⟩:=zeh hl;cases h;obtain ⟨tc,tys'',hc,hm',h⟩:=zeh hm;cases h;simp only [zrM,Bool.and_eq_true,bne_iff_ne,ne_eq,beq_iff_eq] at hf;obtain ⟨⟨⟨hn,hoff⟩,hk⟩,hrest⟩:=hf;have hxo:xs[off]?=some (xs[off]'(by simp only [List.length_cons] at hsx;omega)):=by simp
     have hyo:ys[off]?=some (ys[off]'(by simp only [List.length_cons] at hsy;omega)):=by simp
     have hvx:=hx 0 a _ rfl hxo;have hvy:=hy 0 c _ rfl hyo;have hstep:∃e0,zIl a c=some e0/\(part f.type xs f.offset).run P w = .ok (xs[off]'(by simp only [List.length_cons] at hsx;omega)) w/\(part f.type ys f.offset).run P w = .ok (ys[off]'(by simp only [List.length_cons] at hsy;omega)) w /\
      (Op.equalIn (d+1) f.type (xs[off]'(by simp only [List.length_cons] at hsx;omega)) (ys[off]'(by simp only [List.length_cons] at hsy;omega))).run P w = .ok e0 w:=by
      rw [hoff];cases a with
      | i k n =>
       simp only [zjH,Option.some.injEq] at ha;subst ha;cases c with
       | i k' n' =>
        simp only [zjH,Option.some.injEq,CTy.i.injEq] at hc;subst hc;cases hu:P.underlying f.type with
        | none=>rw [hu] at hk;cases hk
        | some D =>
         rw [hu] at hk;cases D<;>first|(cases hk;done)|skip
         refine ⟨ieq n n',by simp [zIl],by simp [part,isAgg,run_underlying hu,hxo],by simp [part,isAgg,run_underlying hu,hyo],?_⟩
         rw [show xs[off]'(by simp only [List.length_cons] at hsx;omega) = .int k' n from hvx,show ys[off]'(by simp only [List.length_cons] at hsy;omega) = .int k' n' from hvy]
         exact run_equalIn_int w d f.type k' _ n n' hu
       | b _=>simp [zjH] at hc
       | _=>simp [zjH] at hc
      | b x =>
       simp only [zjH,Option.some.injEq] at ha;subst ha;cases c with
       | b x' =>
        cases hu:P.underlying f.type with
        | none=>rw [hu] at hk;cases hk
        | some D =>
         rw [hu] at hk;cases D<;>first|(cases hk;done)|skip
         refine ⟨zeo x x',by simp [zIl],by simp [part,isAgg,run_underlying hu,hxo],by simp [part,isAgg,run_underlying hu,hyo],?_⟩
         rw [show xs[off]'(by simp only [List.length_cons] at hsx;omega) = .bool x from hvx,show ys[off]'(by simp only [List.length_cons] at hsy;omega) = .bool x' from hvy]
         exact run_equalIn_bool' w d f.type x x' hu
       | i _ _=>simp [zjH] at hc
       | _=>simp [zjH] at hc
      | _=>simp [zjH] at ha
     obtain ⟨e0,he0,hp1,hp2,heq⟩:=hstep;have hcomb:∃e1,zrH l m=some e1/\e=(e0&&e1):=by
      cases l with
      | nil =>
       cases hl';cases m with
       | nil =>
        simp only [zrH,he0,Option.some.injEq] at he;exact ⟨true,rfl,by rw [<- he];simp⟩
       | cons c2 m=>obtain ⟨_,_,_,_,h⟩:=zeh hm';cases h
      | cons a2 l =>
       cases m with
       | nil=>cases hm';obtain ⟨_,_,_,_,h⟩:=zeh hl';cases h
       | cons c2 m =>
        simp only [zrH,he0] at he;split at he
        ·rename_i x y h1 h2;cases h1;cases he;exact ⟨y,by simpa [zrH] using h2,rfl⟩
        ·cases he
     obtain ⟨e1,he1,rfl⟩:=hcomb;have ih:=zyt w d xs ys fs (off+1) tys l m e1 hrest hl' hm' he1 (by simp only [List.length_cons] at hsx;omega) (by simp only [List.length_cons] at hsy;omega)
      (fun j a' u h1 h2=>hx (j+1) a' u (by simpa using h1) (by rw [<- h2];congr 1;omega)) (fun j a' u h1 h2=>hy (j+1) a' u (by simpa using h1) (by rw [<- h2];congr 1;omega))
     simp only [Op.eqFields,ne_eq,hn,not_false_eq_true,if_true,Sem.run_bind,hp1,hp2,Result.andThen_ok,heq,Sem.run_ite,ih];cases e0<;>simp
theorem zPE {C:Cfg}(hP:C.P=P)(hs:∀T,C.sty T=below T (zr9 P T))(hc:∀T,C.cty T=below T (zbR P 4 T))(hf:∀T f,C.fof T f=zp2 P T f)(hchk:(List.range zdJ).all (zjI P)=true)(heq:∀T,C.eqt T=true->T<zdJ->zH0 P T=true):CfgOk C:=by
 subst hP;have chk:∀T,T<zdJ->zjI C.P T=true:=fun T hT=>List.all_eq_true.1 hchk T (List.mem_range.2 hT);have hcty:∀T agg tys,C.cty T=some (agg,tys)->T<zdJ/\zbR C.P 4 T=some (agg,tys):=fun T agg tys h=>zAn (by rw [<- hc];exact h)
 refine ⟨fun T agg tys h=>?_,fun T t h=>?_,fun T f off n h=>?_,fun T tys h=>?_,fun T tys he h l m e xs ys w x y op hl hm hq hxs hys=>?_⟩
 ·obtain ⟨hT,h⟩:=hcty T agg tys h;obtain ⟨h1,h2⟩:=zHZ h;have:=chk T hT;unfold zjI at this;rw [h] at this;simp only [Bool.and_eq_true] at this;exact ⟨h1,zxe this.1.1,h2⟩
 ·rw [hs] at h;obtain ⟨hT,h⟩:=zAn h;unfold zr9 at h;split at h
  ·rename_i e hu;have:=chk T hT;unfold zjI at this;rw [hu] at this;simp only [h,Bool.and_eq_true] at this;obtain ⟨_,⟨h1,h2⟩,_⟩:=this;obtain ⟨i,z,g1,g2,g3,g4⟩:=zxe h1;rw [g1] at h2;exact ⟨e,hu,i,z,g1,by rw [g2,zcZ],g3,g4,by simpa using h2⟩
  ·cases h
 ·rw [hf] at h;unfold zp2 at h;split at h
  ·rename_i fs hu;split at h
   ·rename_i x hx;split at h
    ·rename_i i hi;split at h
     ·cases h
     ·rename_i hne;cases h;exact ⟨fs,x,i,hu,hx,rfl,hi,rfl,hne⟩
    ·cases h
   ·cases h
  ·cases h
 ·obtain ⟨hT,h⟩:=hcty T true tys h;have:=chk T hT;unfold zjI at this;rw [h] at this;simp only [Bool.and_eq_true,Bool.or_eq_true,Bool.not_true,Bool.false_eq_true,false_or] at this;obtain ⟨⟨_,h2⟩,_⟩:=this;split at h2
  ·rename_i fs hu;obtain ⟨places,hp⟩:=Option.isSome_iff_exists.1 h2;refine ⟨fs,places,hu,hp,fun f off n hfo=>?_⟩;rw [hf] at hfo;unfold zp2 at hfo;rw [hu] at hfo;simp only at hfo;split at hfo
   ·rename_i x hx;split at hfo
    ·rename_i i hi;split at hfo
     ·cases hfo
     ·cases hfo;rw [mapM_at hp (by simpa using hx),hi]
      rfl
    ·cases hfo
   ·cases hfo
  ·cases h2
 ·obtain ⟨hT,h⟩:=hcty T true tys h;have:=heq T he hT;unfold zH0 at this;rw [h] at this;simp only [Bool.and_eq_true,Bool.not_eq_true'] at this;obtain ⟨⟨h1,h2⟩,h3⟩:=this;split at h3
  ·rename_i fs hu;have hfe:C.P.fieldsOf T=fs:=by simp [Program.fieldsOf,hu]
   refine ⟨run_eqGuard_agg w op T x y xs ys h2,?_⟩
   show (Op.equalIn (9999+1) T (.agg xs) (.agg ys)).run C.P w=_
   rw [run_equalIn_struct w 9999 T xs ys (by rw [hfe];exact hu) h1,hfe]
   exact zyt w 9998 xs ys fs.toList 0 tys l m e h3 hl hm hq (by rw [hxs.1];omega) (by rw [hys.1];omega) (fun j a u h1 h2=>hxs.2 j a u h1 (by simpa using h2)) (fun j a u h1 h2=>hys.2 j a u h1 (by simpa using h2))
  ·cases h3
end
inductive CVOk:CV->Prop
 | i (k:IntKind) (n:Int) (h:k.min<=n/\n<=k.max):CVOk (.i k n)
 | b (x:Bool):CVOk (.b x)
 | s (t:Ty) (l:List t.den) (hl:l.length<=big) (h:∀(i:Nat) (x:t.den),l[i]?=some x->∀(j:Nat) (c:CV),(t.cells x)[j]?=some c->CVOk c):CVOk (.s t l)
section
variable {P:Program}
def zut (P:Program)(tot:Nat):List Field->Nat->Bool
 | [],off=>off==tot
 | f :: fs,off=>f.offset==off&&Nat.blt f.type zdJ&&zut P tot fs (off+P.cellsOf f.type)
def zvw (P:Program)(T:TypeId):Bool :=
 match P.underlying T with
 | some (.struct fs)=>match zbR P 4 T with
  | some _=>zut P (P.cellsOf T) fs.toList 0
  | none=>true
 | some (.slice e)=>match zx zId e with
  | some _=>Nat.blt e zdJ&&Nat.ble 1 (P.bytesOf e)
  | none=>true
 | _=>true
theorem zyy {α β:Type}{f g:α->Option β}(hfg:∀x y,f x=some y->g x=some y):∀{l:List α} {bs:List β},zb0 f l=some bs->zb0 g l=some bs
 | [],_,h=>h
 | a :: l,bs,h=>by
  obtain ⟨b,bs',h1,h2,rfl⟩:=zeh h;simp only [zb0,hfg a b h1,zyy hfg h2]
theorem zuF:∀{n:Nat} {T:TypeId} {x:Bool×List CTy},zbR P n T=some x->zbR P (n+1) T=some x
 | 0,_,_,h=>by cases h
 | n+1,T,x,h=>by
  rw [zbR] at h;rw [zbR];split at h
  ·exact h
  ·exact h
  ·exact h
  ·rename_i fs hu;split at h
   ·rename_i l hl;rw [zyy (f:=_) (g:=_) ?_ hl]
    ·exact h
    ·intro f y hy;split at hy
     ·rename_i z hz;cases hy;rw [zuF hz]
     ·cases hy
   ·cases h
  ·cases h
theorem zLc {T:TypeId}{tys:List CTy}(h:zxd P T tys=true):P.cellsOf T=tys.length:=by
 obtain ⟨i,z,h1,h2,_⟩:=zxe h;simp [Program.cellsOf,h1,h2]
theorem zQN {k:IntKind}{n:Int}(h:(Lit.int k n).wf=true):k.min<=n/\n<=k.max:=by
 simpa [Lit.wf] using h
theorem all_append {l m:List Nat}(h:(l++m).all (·<=reachBytes)=true):l.all (·<=reachBytes)=true/\m.all (·<=reachBytes)=true:=by
 simpa [List.all_append] using h
theorem zwf {H:Type}{e:TypeId}:∀{l:List (DataW H)},(DataW.weightsAll P e l).all (·<=reachBytes)=true->∀{i:Nat} {d:DataW H},l[i]?=some d->(d.weights P e).all (·<=reachBytes)=true
 | [],_,i,d,h=>by simp at h
 | x :: l,hw,i,d,h=>by
  simp only [DataW.weightsAll] at hw;obtain ⟨h1,h2⟩:=all_append hw;cases i with
  | zero=>simp at h;subst h;exact h1
  | succ i=>exact zwf h2 (by simpa using h)
def Opened (W:World)(cs:List Value)(tys:List CTy):Prop :=
 ∃cvs:List CV,cvs.map CV.ty=tys/\cs.length=cvs.length/\∀(j:Nat) (c:CV) (u:Value),cvs[j]?=some c->cs[j]?=some u->Rep false W u c (fun b=>b<W.heap.size)/\CVOk c
theorem Opened.append {W:World}{cs ds:List Value}{t1 t2:List CTy}(h1:Opened W cs t1)(h2:Opened W ds t2):Opened W (cs++ds) (t1++t2):=by
 obtain ⟨c1,a1,b1,d1⟩:=h1;obtain ⟨c2,a2,b2,d2⟩:=h2;refine ⟨c1++c2,by simp [a1,a2],by simp [b1,b2],fun j c u hc hu=>?_⟩
 by_cases hj:j<c1.length
 ·rw [List.getElem?_append_left hj] at hc;rw [List.getElem?_append_left (by omega)] at hu
  exact d1 j c u hc hu
 ·rw [List.getElem?_append_right (by omega)] at hc
  rw [List.getElem?_append_right (by omega)] at hu
  exact d2 _ c u hc (by rw [<- b1];exact hu)
theorem zAq {α:Type}:∀(n:Nat) (p:Nat->α->Prop),(∀i,i<n->∃x,p i x)->∃l:List α,l.length=n/\∀i x,l[i]?=some x->p i x
 | 0,p,_=>⟨[],rfl,fun i x h=>by simp at h⟩
 | n+1,p,h=>by
  obtain ⟨x,hx⟩:=h 0 (by omega)
  obtain ⟨l,h1,h2⟩:=zAq n (fun i=>p (i+1)) (fun i hi=>h (i+1) (by omega))
  refine ⟨x :: l,by simp [h1],fun i y hy=>?_⟩
  cases i with
  | zero=>simp at hy;subst hy;exact hx
  | succ i=>exact h2 i y (by simpa using hy)
theorem cells?_get {W:World}{a:Addr}{n:Nat}{cs:List Value}(h:W.cells? 0 a n=some cs):cs.length=n/\∀i,i<n->W.cell? (a.add i)=cs[i]?:=by
 unfold World.cells? at h;rw [if_pos (Nat.zero_le _)] at h;refine ⟨by simpa using mapM_some_length h,fun i hi=>mapM_some_get h i i (by simp [hi])⟩
theorem addr_add (a:Addr)(h:a.spot=none)(n m:Nat):(a.add n).add m=⟨a.block,a.off+n+m,none⟩:=by
 obtain ⟨b,o,s⟩:=a;simp only at h;subst h;rw [add_lit,add_lit]
theorem zOi (hchk:∀T,T<zdJ->zjI P T=true/\zvw P T=true){H:Type}{enc:TypeId×Value->H}{W:World} :
 ∀(fuel:Nat) (T:TypeId) (cs:List Value) (x:DataW H×List MemPlace),T<zdJ->∀(agg:Bool) (tys:List CTy),zbR P 4 T=some (agg,tys) ->
  DataW.trod enc P W 0 (fun _=>true) true fuel T cs=some x->(x.1.weights P T).all (·<=reachBytes)=true->Opened W cs tys:=by
 intro fuel
 induction fuel using Nat.strongRecOn with
 | _ fuel ih =>
  intro T cs x hT agg tys hty hx hw;obtain ⟨hc1,hc2⟩:=hchk T hT;have hty0:=hty;rw [zbR] at hty;split at hty
  ·rename_i k hu;cases hty;obtain ⟨n,rfl,rfl,hwf⟩:=DataW.trod_int hu hx;refine ⟨[.i k n],rfl,rfl,fun j c u hc hu'=>?_⟩;cases j with
   | zero=>simp at hc hu';subst hc hu';exact ⟨.i k n _,.i k n (zQN hwf)⟩
   | succ j=>simp at hc
  ·rename_i hu;cases hty;obtain ⟨b,rfl,rfl⟩:=DataW.trod_bool hu hx;refine ⟨[.b b],rfl,rfl,fun j c u hc hu'=>?_⟩;cases j with
   | zero=>simp at hc hu';subst hc hu';exact ⟨.b b _,.b b⟩
   | succ j=>simp at hc
  ·rename_i e hu;split at hty
   ·rename_i t het;cases hty;have fin:∀(v:Value) (l:List t.den),Rep false W v (.s t l) (fun b=>b<W.heap.size)->CVOk (.s t l)->Opened W [v] [.s t]:=by
     intro v l h1 h2;refine ⟨[.s t l],rfl,rfl,fun j c u hc hu'=>?_⟩;cases j with
     | zero=>simp at hc hu';subst hc hu';exact ⟨h1,h2⟩
     | succ j=>simp at hc
    have empty:CVOk (.s t []):=.s t [] (Nat.zero_le _) (fun i x h=>by simp at h)
    rcases DataW.trod_slice hu hx with ⟨rfl,rfl⟩|⟨a,len,cap,elems,rest,n,rfl,rfl,rfl,_,hlc,hcm,hel,hget,hsp,_⟩
    ·exact fin _ [] (.nil t _) empty
    ·obtain ⟨hrl,hrget⟩:=hsp rfl
     by_cases hcap:cap=0
     ·subst hcap;have hl0:len=0:=by omega
      subst hl0;exact fin _ [] (.void t a _ rfl) empty
     ·unfold zjI at hc1;rw [hu] at hc1;simp only [het,Bool.and_eq_true] at hc1;obtain ⟨_,⟨hinfo,_⟩,hec⟩:=hc1;unfold zvw at hc2;rw [hu] at hc2;simp only [het,Bool.and_eq_true,Nat.blt_eq,Nat.ble_eq] at hc2;obtain ⟨he,hby⟩:=hc2;have hce:P.cellsOf e=t.width:=by rw [zLc hinfo,zcZ]
      have hwpos:0<t.width:=by cases t<;>simp [Ty.width]
      rw [hce] at hget hrget
      have helem:∀i,i<cap->∃cs',W.cells? 0 (a.add (i*t.width)) t.width=some cs'/\(i<len->∃y,DataW.trod enc P W 0 (fun _=>true) true n e cs'=some y/\elems[i]?=some y):=by
       intro i hi
       by_cases hil:i<len
       ·have h1:=hget i hil;rw [List.getElem?_eq_getElem (by omega)] at h1
        obtain ⟨cs',h2,h3⟩:=Option.bind_eq_some_iff.1 h1;exact ⟨cs',h2,fun _=>⟨_,h3,List.getElem?_eq_getElem (by omega)⟩⟩
       ·have h1:=hrget (i-len) (by omega)
        rw [List.getElem?_eq_getElem (by omega)] at h1
        obtain ⟨cs',h2,h3⟩:=Option.bind_eq_some_iff.1 h1;have e1:len+(i-len)=i:=by omega
        rw [e1] at h2;exact ⟨cs',h2,fun h=>absurd h hil⟩
      have hcell:∀i j,i<cap->j<t.width->∃v,W.cell? ((a.add (i*t.width)).add j)=some v:=by
       intro i j hi hj;obtain ⟨cs',h1,_⟩:=helem i hi;obtain ⟨h2,h3⟩:=cells?_get h1;exact ⟨_,(h3 j hj).trans (List.getElem?_eq_getElem (by omega))⟩
      obtain ⟨v0,hv0⟩:=hcell 0 0 (by omega) hwpos
      have hadd0:(a.add (0*t.width)).add 0=a:=by simp [Addr.add]
      rw [hadd0] at hv0;obtain ⟨arr,et,fz,hb,hspot⟩:∃arr et fz,W.heap[a.block]?=some (.cells arr et fz)/\a.spot=none:=by
       unfold World.cell? at hv0;split at hv0
       ·rename_i c et fz hb;split at hv0
        ·cases hv0
        ·rename_i hs;exact ⟨c,et,fz,hb,by simpa using hs⟩
       ·cases hv0
      have hcarr:∀i j,W.cell? ((a.add (i*t.width)).add j)=arr[a.off+i*t.width+j]?:=by
       intro i j;rw [addr_add a hspot,cell_of_block hb]
      have hsize:a.off+cap*t.width<=arr.size:=by
       obtain ⟨v,hv⟩:=hcell (cap-1) (t.width-1) (by omega) (by omega)
       rw [hcarr] at hv;have:=(Array.getElem?_eq_some_iff.1 hv).1;have h1:(cap-1)*t.width+t.width=cap*t.width:=by
        rw [<- Nat.succ_mul];congr 1;omega
       omega
      have hwl:((DataW.slice (elems.map (·.1)) (rest.map (·.1))).weights P T).all (·<=reachBytes)=true:=hw;simp only [DataW.weights,hu,List.all_cons,Bool.and_eq_true,decide_eq_true_eq,List.length_map] at hwl;obtain ⟨hbytes,hwe⟩:=hwl;obtain ⟨hwe,_⟩:=all_append hwe;have hlen:len<=big:=by
       have h1:(elems.length+rest.length)*1<=(elems.length+rest.length)*P.bytesOf e:=Nat.mul_le_mul_left _ hby;have:reachBytes<=big:=by decide
       omega
      split at hec
      ·rename_i agg' tys' hte;simp only [decide_eq_true_eq] at hec;subst hec
       have hex:∀i,i<len->∃y:t.den,∀(j:Nat) (c:CV) (u:Value),(t.cells y)[j]?=some c->arr[a.off+i*t.width+j]?=some u->Rep false W u c (fun b=>b<W.heap.size)/\CVOk c:=by
        intro i hi;obtain ⟨cs',h1,h2⟩:=helem i (by omega)
        obtain ⟨y,h3,h4⟩:=h2 hi;obtain ⟨cvs,g1,g2,g3⟩:=ih n (by omega) e cs' y he agg' t.shape hte h3 (zwf hwe (by rw [List.getElem?_map,h4];rfl))
        obtain ⟨z,hz⟩:=zCm g1;refine ⟨z,fun j c u hc hu'=>g3 j c u ?_ ?_⟩
        ·rw [<- ziO hz];exact hc
        ·obtain ⟨k1,k2⟩:=cells?_get h1;have hj:j<t.width:=by have:=(List.getElem?_eq_some_iff.1 hc).1;rwa [zce] at this
         rw [<- k2 j hj,hcarr];exact hu'
       obtain ⟨l,hl1,hl2⟩:=zAq len _ hex;have hvv:∀i j,i<l.length->j<t.width->arr[a.off+i*t.width+j]?=some ((arr[a.off+i*t.width+j]?).getD undef):=by
        intro i j hi hj;have h1:(i+1)*t.width<=cap*t.width:=Nat.mul_le_mul_right _ (by omega)
        rw [Nat.succ_mul] at h1;have:a.off+i*t.width+j<arr.size:=by omega
        simp [this]
       have hrep:Rep false W (.slice (some ⟨a.block,a.off,none⟩) l.length cap) (.s t l) (fun b=>b<W.heap.size):=by
        refine .sl t l a.block a.off cap arr et fz (fun i j=>(arr[a.off+i*t.width+j]?).getD undef) (fun _ _ b=>b<W.heap.size) _ hb (fun h=>by cases h) (by omega) (by omega) hsize ?_ (fun i j x _ _ hx=>⟨hx,fun h=>by cases h⟩) (fun h=>by cases h) hvv ?_
        ·exact (Array.getElem?_eq_some_iff.1 hb).1
        ·intro i z hz j c hc;have hi:i<l.length:=(List.getElem?_eq_some_iff.1 hz).1;have hj:j<t.width:=by have:=(List.getElem?_eq_some_iff.1 hc).1;rwa [zce] at this
         exact (hl2 i z hz j c _ hc (hvv i j hi hj)).1
       have ha:a=⟨a.block,a.off,none⟩:=by
        obtain ⟨b,o,s⟩:=a;simp only at hspot;subst hspot;rfl
       rw [hl1,<- ha] at hrep;refine fin _ l hrep (.s t l (by omega) (fun i z hz j c hc=>?_))
       have hi:i<l.length:=(List.getElem?_eq_some_iff.1 hz).1;have hj:j<t.width:=by have:=(List.getElem?_eq_some_iff.1 hc).1;rwa [zce] at this
       exact (hl2 i z hz j c _ hc (hvv i j hi hj)).2
      ·cases hec
   ·cases hty
  ·rename_i fs hu;split at hty
   ·rename_i l hl;cases hty;obtain ⟨xs,n,rfl,rfl,hcl,hxl,hfld⟩:=DataW.trod_struct hu hx;unfold zvw at hc2;rw [hu,hty0] at hc2;simp only at hc2;have hww:(DataW.weightsEach P (fs.toList.map (·.type)) (xs.map (·.1))).all (·<=reachBytes)=true:=by
     have:((DataW.agg (xs.map (·.1))).weights P T).all (·<=reachBytes)=true:=hw;simpa only [DataW.weights,hu] using this
    have key:∀(gs:List Field) (ys:List (DataW H×List MemPlace)) (ls:List (List CTy)) (off:Nat),zut P (P.cellsOf T) gs off=true->gs.length=ys.length ->
     (∀(i:Nat) (f:Field),gs[i]?=some f->DataW.trod enc P W 0 (fun _=>true) true n f.type ((cs.drop f.offset).take (P.cellsOf f.type))=ys[i]?) ->
     zb0 (fun (f:Field)=>match zbR P 3 f.type with|some x=>some x.2|none=>none) gs=some ls->(DataW.weightsEach P (gs.map (·.type)) (ys.map (·.1))).all (·<=reachBytes)=true ->
     off<=P.cellsOf T/\Opened W (cs.drop off) ls.flatten:=by
     intro gs
     induction gs with
     | nil =>
      intro ys ls off ho _ _ hls _;cases hls;simp only [zut,beq_iff_eq] at ho;subst ho;refine ⟨Nat.le_refl _,[],rfl,by simp [hcl],fun j c u h=>by simp at h⟩
     | cons f gs ihg =>
      intro ys ls off ho hlen hf hls hwt;obtain ⟨b,ls',hb1,hb2,rfl⟩:=zeh hls;cases ys with
      | nil=>simp at hlen
      | cons y ys =>
       simp only [zut,Bool.and_eq_true,beq_iff_eq,Nat.blt_eq] at ho;obtain ⟨⟨ho1,ho2⟩,ho3⟩:=ho;split at hb1
       ·rename_i z hz;cases hb1;obtain ⟨agg',tys'⟩:=z;have hy:=hf 0 f rfl;simp only [List.getElem?_cons_zero] at hy;simp only [List.map_cons,DataW.weightsEach] at hwt;obtain ⟨hw1,hw2⟩:=all_append hwt;have h4:=zuF hz;obtain ⟨g1,g2⟩:=ihg ys ls' (off+P.cellsOf f.type) ho3 (by simpa using hlen) (fun i g hg=>by simpa using hf (i+1) g (by simpa using hg)) hb2 hw2
        have o1:=ih n (by omega) f.type _ y ho2 agg' tys' h4 hy hw1
        rw [ho1] at o1;refine ⟨by omega,?_⟩
        have e1:cs.drop off=(cs.drop off).take (P.cellsOf f.type)++cs.drop (off+P.cellsOf f.type):=by
         rw [<- List.drop_drop,List.take_append_drop]
        rw [e1];exact Opened.append o1 g2
       ·cases hb1
    have:=(key fs.toList xs l 0 hc2 (by simp [hxl]) (fun i f hf=>hfld i f (by simpa using hf)) hl hww).2
    simpa using this
   ·cases hty
  ·cases hty
end
theorem zMQ:(List.range zdJ).all (zjI Tryz.prog)=true:=by kernel_rfl
theorem zSD:zxK.all (fun T=>!Nat.blt T zdJ||zH0 Tryz.prog T)=true:=by kernel_rfl
theorem zPG:Tryz.prog.funcs.toList.all (fun fn=>!(fn.name == "runtime.NumGoroutine"))=true:=by kernel_rfl
theorem zRL (T:TypeId)(h0:zxK.contains T=true)(hT:T<zdJ):zH0 Tryz.prog T=true:=by
 have h1:T∈zxK:=by
  revert h0
  generalize zxK=l;intro h0;simpa using h0
 have hb:Nat.blt T zdJ=true:=by rw [Nat.blt_eq];exact hT
 have h2:=List.all_eq_true.1 zSD T h1;rw [hb,Bool.not_true,Bool.false_or] at h2;exact h2
theorem zSB (ctr:FuncId->Option (List AV->Option (Bool×List AV)))(mct:FuncId->Option (CV->Int->Option (Bool×CV×Int)))(pct:FuncId->Option (List Bool×(List CV->List AV->Option (Bool×List CV×List AV))))(tct:FuncId->Option (List Bool×Option (Nat×Nat×List (List Nat))×(List AV->Option (Bool×List AV)))):CfgOk (zhQ ctr mct pct tct):=by
 have h1:(zhQ ctr mct pct tct).P=Tryz.prog:=by simp only [zhQ]
 have h2:∀T,(zhQ ctr mct pct tct).sty T=below T (zr9 Tryz.prog T):=fun _=>by simp only [zhQ]
 have h3:∀T,(zhQ ctr mct pct tct).cty T=below T (zbR Tryz.prog 4 T):=fun _=>by simp only [zhQ]
 have h4:∀T f,(zhQ ctr mct pct tct).fof T f=zp2 Tryz.prog T f:=fun _ _=>by simp only [zhQ]
 have h5:∀T,(zhQ ctr mct pct tct).eqt T=zxK.contains T:=fun _=>by simp only [zhQ]
 refine zPE h1 h2 h3 h4 zMQ ?_;intro T h hT;rw [h5] at h;exact zRL T h hT
theorem zR3 (ctr:FuncId->Option (List AV->Option (Bool×List AV)))(mct:FuncId->Option (CV->Int->Option (Bool×CV×Int)))(pct:FuncId->Option (List Bool×(List CV->List AV->Option (Bool×List CV×List AV))))(tct:FuncId->Option (List Bool×Option (Nat×Nat×List (List Nat))×(List AV->Option (Bool×List AV)))):NameOk (zhQ ctr mct pct tct):=by
 refine ⟨fun f fn hf=>?_⟩;have:=List.all_eq_true.1 zPG fn (by
  have:Tryz.prog.funcs[f]?=some fn:=hf;rw [<- Array.getElem?_toList] at this;exact List.mem_of_getElem? this)
 simpa using this
theorem zeI {ctr:FuncId->Option (List AV->Option (Bool×List AV))}{mct:FuncId->Option (CV->Int->Option (Bool×CV×Int))}{pct:FuncId->Option (List Bool×(List CV->List AV->Option (Bool×List CV×List AV)))}{tct:FuncId->Option (List Bool×Option (Nat×Nat×List (List Nat))×(List AV->Option (Bool×List AV)))}(h:∀f run,ctr f=some run->Holds Tryz.prog f run)(hm:∀f run,mct f=some run->zcX Tryz.prog f run)(hp:∀f own run,pct f=some (own,run)->zwK Tryz.prog f own run)(ht:∀f own inp run,tct f=some (own,inp,run)->zgJ Tryz.prog f own inp run):EngOk (zhQ ctr mct pct tct):=by
 have hC:=zSB ctr mct pct tct;have hH:CtrOk (zhQ ctr mct pct tct):=⟨h,fun f inp run hf=>ht f [] inp run hf⟩;have hG:=zQh hC ⟨hm⟩ ⟨hp⟩ ⟨ht⟩;have hN:=zR3 ctr mct pct tct;exact ⟨hC,hH,hG,hN,zRW hC hH hG hN⟩
section
open Go Go.ChangeShapes Go.WideShapes Go.ChangeAt
def AV.sh:AV->Bool×List CTy
 | .one c=>(false,[c.ty])
 | .agg l=>(true,l.map CV.ty)
section
variable {P:Program}
theorem zFm {T:TypeId}{agg:Bool}{tys:List CTy}(h:zbR P 4 T=some (agg,tys)) :
 (agg=true/\∃fs,P.underlying T=some (.struct fs))\/(agg=false/\tys.length=1/\((∃k,P.underlying T=some (.int k))\/P.underlying T=some .bool\/∃e,P.underlying T=some (.slice e))):=by
 rw [zbR] at h;split at h
 ·rename_i k hu;cases h;exact .inr ⟨rfl,rfl,.inl ⟨k,hu⟩⟩
 ·rename_i hu;cases h;exact .inr ⟨rfl,rfl,.inr (.inl hu)⟩
 ·rename_i e hu;split at h
  ·cases h;exact .inr ⟨rfl,rfl,.inr (.inr ⟨e,hu⟩)⟩
  ·cases h
 ·rename_i fs hu;split at h
  ·cases h;exact .inl ⟨rfl,fs,hu⟩
  ·cases h
 ·cases h
theorem zPb {W:World}{T:TypeId}{v:Value}{base:Nat}(hu:(∃k,P.underlying T=some (.int k))\/P.underlying T=some .bool\/∃e,P.underlying T=some (.slice e))(h:Value.okWide P W .any base T v):v.cells = #[v]:=by
 cases v with
 | agg cs =>
  exfalso;rcases hu with ⟨k,hu⟩|hu|⟨e,hu⟩<;>simp [Value.okWide,hu,Cell.okWide,Cell.ok] at h
 | _=>rfl
theorem zFE (hchk:∀T,T<zdJ->zjI P T=true/\zvw P T=true){H:Type}{enc:TypeId×Value->H}{W:World}{base:Nat} :
 ∀(ts:List TypeId) (vs:List Value) (ds:List (DataW H)) (p:List MemPlace),DataW.TrodAll enc P W 0 (fun _=>true) true ts vs ds p ->
  (∀(j:Nat) (t:TypeId) (v:Value),ts[j]?=some t->vs[j]?=some v->Value.okWide P W .any base t v)->(∀t∈ts,t<zdJ/\(zbR P 4 t).isSome=true) ->
  (DataW.weightsEach P ts ds).all (·<=reachBytes)=true ->
  ∃(avs:List AV) (xs:List Value),avs.map (fun a=>some a.sh)=ts.map (zbR P 4)/\zcJ false W (zM avs) xs (fun _ b=>b<W.heap.size)/\zbP avs xs=vs/\∀c∈zM avs,CVOk c
 | [],vs,ds,p,h,_,_,_=>by
  obtain ⟨rfl,rfl,rfl⟩:=trodAll_nil h;exact ⟨[],[],rfl,⟨rfl,fun i c x h=>by simp [zM] at h⟩,rfl,fun c h=>by simp [zM] at h⟩
 | T :: ts,vs,ds,p,h,hv,ht,hw=>by
  obtain ⟨v,vs',d,ds',p1,q,rfl,rfl,rfl,h1,h2⟩:=trodAll_cons h;simp only [DataW.weightsEach] at hw;obtain ⟨hw1,hw2⟩:=all_append hw;obtain ⟨avs,xs,g1,g2,g3,g4⟩:=zFE hchk ts vs' ds' q h2 (fun j t v h1 h2=>hv (j+1) t v (by simpa using h1) (by simpa using h2)) (fun t h=>ht t (by simp [h])) hw2
  obtain ⟨hT,hsome⟩:=ht T (by simp)
  obtain ⟨⟨agg,tys⟩,htc⟩:=Option.isSome_iff_exists.1 hsome;obtain ⟨fuel,hf⟩:=h1;obtain ⟨cvs,e1,e2,e3⟩:=zOi hchk fuel T _ _ hT agg tys htc hf hw1;have hv0:=hv 0 T v rfl rfl;have app:∀a:AV,a.cvs=cvs->zcJ false W (zM (a :: avs)) (v.cells.toList++xs) (fun _ b=>b<W.heap.size)/\∀c∈zM (a :: avs),CVOk c:=by
   intro a ha;have e:zM (a :: avs)=cvs++zM avs:=by simp [zM,ha]
   rw [e];refine ⟨zcJ.append ⟨e2,fun i c x hc hx=>(e3 i c x hc hx).1⟩ g2,fun c hc=>?_⟩;rcases List.mem_append.1 hc with hc|hc
   ·obtain ⟨i,hi⟩:=List.mem_iff_getElem?.1 hc;have hlt:i<v.cells.toList.length:=by rw [e2];exact (List.getElem?_eq_some_iff.1 hi).1
    exact (e3 i c _ hi (List.getElem?_eq_getElem hlt)).2
   ·exact g4 c hc
  rcases zFm htc with ⟨rfl,fs,hu⟩|⟨rfl,hl1,hu⟩
  ·obtain ⟨cs,rfl,_⟩:∃cs,v = .agg cs/\True:=by
    simp only [Value.okWide,hu] at hv0;obtain ⟨cs,h,_⟩:=hv0;exact ⟨cs,h,trivial⟩
   obtain ⟨a1,a2⟩:=app (.agg cvs) rfl;refine ⟨.agg cvs :: avs,_,?_,a1,?_,a2⟩
   ·rw [List.map_cons,List.map_cons,g1,htc];simp only [AV.sh,e1]
   ·simp only [Value.cells] at e2;simp only [zbP,Value.cells,<- e2,List.take_left',List.drop_left',g3,Array.toArray_toList]
  ·have hcells:=zPb hu hv0;rw [<- e1] at hl1;obtain ⟨c,rfl⟩:∃c,cvs=[c]:=by
    match cvs,hl1 with
    | [c],_=>exact ⟨c,rfl⟩
   obtain ⟨a1,a2⟩:=app (.one c) rfl;refine ⟨.one c :: avs,_,?_,a1,?_,a2⟩
   ·rw [List.map_cons,List.map_cons,g1,htc,<- e1];rfl
   ·rw [hcells];simp only [zbP];simp [g3]
theorem zwe (hl:laidOutB P=true){H:Type}{enc:TypeId×Value->H}{W W':World}(hb:Go.RowKit.Below W.heap.size W W'){sp:Nat->Bool}:∀(ts:List TypeId) (vs:List Value) (ds:List (DataW H)) (ps:List MemPlace),(∀t∈ts,P.readableRec t=true/\t<P.types.size) ->
 DataW.TrodAll enc P W 0 (fun _=>true) true ts vs ds ps->(∀x∈ps,x.block<W.heap.size/\sp x.block=true)->DataW.TrodAll enc P W' 0 sp true ts vs ds ps
 | [],vs,ds,ps,_,h,_=>by
  obtain ⟨rfl,rfl,rfl⟩:=trodAll_nil h;exact rfl
 | T :: ts,vs,ds,ps,ht,h,hlt=>by
  obtain ⟨v,vs',d,ds',p,q,rfl,rfl,rfl,h1,h2⟩:=trodAll_cons h;obtain ⟨hr,hrow⟩:=ht T (by simp)
  exact ⟨p,q,WideElems.Trod_stays hl hr hrow h1 (fun x hx=>hb.same (hlt x (List.mem_append_left _ hx)).1) (fun x hx=>(hlt x (List.mem_append_left _ hx)).2),
   zwe hl hb ts vs' ds' q (fun t h=>ht t (by simp [h])) h2 (fun x hx=>hlt x (List.mem_append_right _ hx)),rfl⟩
theorem zGe {W W':World}(h:Grown W W')(may:MemPlace->Prop):W.keptBut W' may:=by
 refine ⟨h.os,h.output,fun i hi=>?_⟩;rw [h.keep i hi];cases hc:W.heap[i]? with
 | none=>rfl
 | some o =>
  cases o<;>first|rfl|exact ⟨rfl,rfl,rfl,fun _ _=>rfl⟩|exact .inr ⟨rfl,rfl⟩
def zPf (P:Program)(ts:List TypeId):Bool:=ts.all fun T=>Nat.blt T zdJ&&(zbR P 4 T).isSome&&P.readableRec T&&Nat.blt T P.types.size
def zQP (P:Program)(ts:List TypeId)(avs:List AV):Prop:=avs.map (fun a=>some a.sh)=ts.map (zbR P 4)/\∀c∈zM avs,CVOk c
def zIe (P:Program)(f:FuncId)(ts:List TypeId):Prop :=
 ∃run,Holds P f run/\∀avs,zQP P ts avs->run avs=some (true,[.one (.b true)])
theorem zBG (hchk:∀T,T<zdJ->zjI P T=true/\zvw P T=true)(hlo:laidOutB P=true){s:ChangeSpec}{f:FuncId}{fn:Func}{B:TypeId}(hvars:s.vars=[])(hfn:∀(H:Type) (ds:List (DataW H)),ds.length=fn.params.toList.length->s.fn H ds={ results:=[.lit (.bool true)],args:=ds })(hpars:zPf P fn.params.toList=true)(hres:fn.resultTypes = #[B])(hB:P.underlying B=some .bool)(hl:zIe P f fn.params.toList){H:Type}{enc:TypeId×Value->H}{apart fresh handsOn:Bool}(W:World)(base:Nat)(args:Array Value)(ds gs:List (DataW H))(before:List MemPlace)(hval:∀(j:Nat) t v,fn.params[j]?=some t->args[j]?=some v->Value.okWide P W .any base t v)(hW:DataW.Whole enc P fn.params.toList s.vars apart W args.toList ds gs before)(hsz:(DataW.weightsEach P (fn.params.toList++s.plain.varTypes P) (ds++gs)).all (·<=reachBytes)=true) :
 Calls P f args W fun e W'=>∃v,e = .returned v/\s.post enc P fn apart fresh handsOn false W args v W':=by
 have hW':=hW;obtain ⟨p,q,hA,hV,rfl,hfz,hnd⟩:=hW;rw [hvars] at hV;obtain ⟨rfl,rfl⟩:=trodVars_none hV;have hvt:s.plain.varTypes P=[]:=by
  unfold DataSpec.varTypes
  show s.vars.filterMap _=[]
  rw [hvars];rfl
 rw [hvt,List.append_nil,List.append_nil] at hsz;unfold zPf at hpars;simp only [List.all_eq_true,Bool.and_eq_true,Nat.blt_eq] at hpars;have hval':∀(j:Nat) (t:TypeId) (v:Value),fn.params.toList[j]?=some t->args.toList[j]?=some v->Value.okWide P W .any base t v:=by
  intro j t v h1 h2;rw [Array.getElem?_toList] at h1 h2;exact hval j t v h1 h2
 obtain ⟨avs,xs,g1,g2,g3,g4⟩:=zFE hchk fn.params.toList args.toList ds p hA hval' (fun t ht=>⟨(hpars t ht).1.1.1,(hpars t ht).1.1.2⟩) hsz;obtain ⟨run,hH,hrun⟩:=hl;have hcall:=hH.2 W avs xs _ g2 (hrun avs ⟨g1,g4⟩);have hargs:(zbP avs xs).toArray=args:=by rw [g3,Array.toArray_toList]
 rw [hargs] at hcall;have hlen:∀(ts:List TypeId) (vs:List Value) (ds:List (DataW H)) (ps:List MemPlace),DataW.TrodAll enc P W 0 (fun _=>true) true ts vs ds ps->ds.length=ts.length:=by
  intro ts
  induction ts with
  | nil=>intro vs ds ps h;obtain ⟨_,rfl,_⟩:=trodAll_nil h;rfl
  | cons t ts ih =>
   intro vs ds ps h;obtain ⟨v,vs',d,ds',p,q,rfl,rfl,rfl,_,h2⟩:=trodAll_cons h;simp [ih vs' ds' q h2]
 refine hcall.mono ?_;intro e W1 he;cases e with
 | panicked c=>exact he.elim
 | outgrown=>exact he.elim
 | returned v =>
  obtain ⟨hg,ys,K,hrep,hv,_⟩:=he;have hv1:v = .bool true:=by
   match ys,hrep with
   | [],h=>exact absurd h.1 (by simp [zM,AV.cvs])
   | [y],h =>
    have:=(h.2 0 (.b true) y rfl rfl).bool_inv;rw [hv,this];rfl
   | y :: z :: r,h=>exact absurd h.1 (by simp [zM,AV.cvs])
  subst hv1;refine ⟨_,rfl,ds,[],p++[],[],p,[],hW',?_,?_,?_,zGe hg _,fun h=>by cases h⟩
  ·rw [List.append_nil,hfn H ds (hlen _ _ _ _ hA),hres];exact ⟨[],[],⟨1,by simp [DataW.trod,hB,Value.cells]⟩,rfl,rfl⟩
  ·rw [List.append_nil,hfn H ds (hlen _ _ _ _ hA)];have hb:Go.RowKit.Below W.heap.size W W1:=⟨hg.os,hg.tape,hg.output,hg.size,hg.keep⟩;have hlt:∀x∈p,x.block<W.heap.size:=fun x hx=>by simpa using hW'.lt x (List.mem_append_left _ hx)
   exact zwe hlo hb _ _ _ _ (fun t ht=>⟨(hpars t ht).1.2,(hpars t ht).2⟩) hA (fun x hx=>⟨hlt x hx,by simpa using hlt x hx⟩)
  ·rw [hvars,List.append_nil,hfn H ds (hlen _ _ _ _ hA)];rfl
end
theorem zSE:(List.range zdJ).all (zvw Tryz.prog)=true:=by kernel_rfl
theorem zQj:laidOutB Tryz.prog=true:=by kernel_rfl
theorem own:ownKnob Tryz.prog.godebug=none:=by kernel_rfl
theorem zPF (T:TypeId)(hT:T<zdJ):zjI Tryz.prog T=true/\zvw Tryz.prog T=true :=
 ⟨List.all_eq_true.1 zMQ T (List.mem_range.2 hT),List.all_eq_true.1 zSE T (List.mem_range.2 hT)⟩
abbrev Good (ts:List TypeId)(avs:List AV):Prop:=zQP Tryz.prog ts avs
abbrev zMM (f:FuncId)(ts:List TypeId):Prop:=zIe Tryz.prog f ts
theorem zLa {ctr:FuncId->Option (List AV->Option (Bool×List AV))}{mct:FuncId->Option (CV->Int->Option (Bool×CV×Int))}{pct:FuncId->Option (List Bool×(List CV->List AV->Option (Bool×List CV×List AV)))}{tct:FuncId->Option (List Bool×Option (Nat×Nat×List (List Nat))×(List AV->Option (Bool×List AV)))}(hctr:∀f run,ctr f=some run->Holds Tryz.prog f run)(hmct:∀f run,mct f=some run->zcX Tryz.prog f run)(hpct:∀f own run,pct f=some (own,run)->zwK Tryz.prog f own run)(htct:∀f own inp run,tct f=some (own,inp,run)->zgJ Tryz.prog f own inp run){f:FuncId}{ts:List TypeId}(hf:FnOk Tryz.prog f)(h:∀avs,Good ts avs->∃tms N D,evalFn (zhQ ctr mct pct tct) tms N D f avs=some [.one (.b true)]):zMM f ts:=by
 refine ⟨fun avs=>open Classical in if Good ts avs then some (true,[.one (.b true)]) else none,zwc (zeI hctr hmct hpct htct) hf ?_,fun avs hg=>by simp [hg]⟩
 intro avs rs _ hr;split at hr
 ·rename_i hg;cases hr;exact h avs hg
 ·cases hr
end
def ziC (C:Cfg)(tms:FuncId->Nat->Option Tmpl)(N D:Nat)(f:FuncId)(t:Ty)(l:List t.den)(k:Int):Option Ans :=
 zAA C tms N (zAr C tms N D) f [.v (.at (.sl 0 [])),.v (.at (.i .i64 k))] { tm:=[.v (.at (.sl 0 []))],lo:=[],ro:=[(0,⟨t,l,true,none⟩)],stk:=[],nid:=1,ep:=0 } fun rs st =>
  match rs,st.tm with
  | [.at (.i .i64 k')],[.v (.at (.sl r []))]=>match st.root r with
   | some R=>cond R.own (some [.one (.s R.t R.l),.one (.i .i64 k')]) none
   | none=>none
  | _,_=>none
theorem zcE {C:Cfg}(hO:EngOk C){f:FuncId}{run:CV->Int->Option (Bool×CV×Int)}(hf:FnOk C.P f)(h:∀(t:Ty) (l:List t.den) (k:Int) (c':CV) (k':Int),(∃w v S,Rep true w v (.s t l) S)->run (.s t l) k=some (true,c',k')->∃tms N D,ziC C tms N D f t l k=some [.one c',.one (.i .i64 k')]):zcX C.P f run:=by
 refine ⟨hf,fun w v t l k S c' k' hrep hS hrun=>?_⟩;obtain ⟨tms,N,D,hev⟩:=h t l k c' k' ⟨w,v,S,hrep⟩ hrun;unfold ziC at hev;generalize hst:({ tm:=[.v (.at (.sl 0 []))],lo:=[],ro:=[(0,⟨t,l,true,none⟩)],stk:=[],nid:=1,ep:=0 }:St)=st at hev;have hroot:∀(r:Nat) (R:Root),zx st.ro r=some R->r=0/\R=⟨t,l,true,none⟩:=by
  intro r R hR;rw [<- hst] at hR;simp only [zx] at hR;split at hR
  ·rename_i he;simp only [beq_iff_eq] at he;cases hR;exact ⟨he.symm,rfl⟩
  ·cases hR
 have hlo:∀l,zx st.lo l=none:=fun l=>by rw [<- hst];rfl
 obtain ⟨⟨a0,cap0,hv0,_⟩,_⟩:=hrep.len
 let E:Env:={ ρ:=fun _=>v,φ:=fun _=>S,β:=fun _=>0,κ:=w }
 have hva:VA w st E (.sl 0 []) v:=⟨⟨a0,_,cap0,hv0⟩,fun R _=>rfl⟩;have hSim:Sim w S (fun n=>n<1) st E #[v] [] w:=by
  refine ⟨⟨rfl,rfl,rfl,Nat.le_refl _,fun _ _ _=>rfl,fun r R hR=>?_,fun r R _ x hx=>hS x hx,fun r R hR ho=>?_,fun r R r' R' hR ho hR' _ hne=>?_,fun l cs hl=>?_,fun l l' cs cs' hl=>?_,fun l cs r R hl=>?_,fun r R e hR he=>?_,rfl⟩,⟨fun n R hn=>?_,fun n cs hn=>?_,fun m hm n hn=>?_,fun f hf=>?_⟩,⟨?_,fun i m u hm hu=>?_⟩,?_⟩
  ·obtain ⟨rfl,rfl⟩:=hroot r R (zbN hR).1;exact hrep
  ·obtain ⟨rfl,rfl⟩:=hroot r R (zbN hR).1;exact ⟨rfl,fun x hx=>.inl hx⟩
  ·obtain ⟨rfl,_⟩:=hroot r R (zbN hR).1;obtain ⟨rfl,_⟩:=hroot r' R' (zbN hR').1;exact absurd rfl hne
  ·rw [hlo] at hl;cases hl
  ·rw [hlo] at hl;cases hl
  ·rw [hlo] at hl;cases hl
  ·obtain ⟨rfl,rfl⟩:=hroot r R hR;cases he
  ·obtain ⟨rfl,rfl⟩:=hroot n R hn;exact Nat.lt_succ_self _
  ·rw [hlo] at hn;cases hn
  ·rw [<- hst] at hm;simp only [List.mem_singleton] at hm;subst hm;simp only [MV.ids,zbv,zO,At.ids,zbf,zbg,List.append_nil,List.flatMap_cons,List.flatMap_nil,List.mem_singleton] at hn;subst hn;exact Nat.lt_succ_self _
  ·rw [<- hst] at hf;simp at hf
  ·rw [<- hst];rfl
  ·rw [<- hst] at hm;cases i with
   | zero=>simp at hm hu;subst hm hu;exact hva
   | succ i=>simp at hm
  ·rw [<- hst];trivial
 have hnid:st.nid=1:=by rw [<- hst]
 obtain ⟨_,hcalls⟩:=ztc hO (zpX hO (tms:=tms) (N:=N) D) f _ st _ _ hev w S (fun n=>n<1) E #[v] [] w #[v,.int .i64 k]
  (fun u w'=>w'.os=w.os/\w'.tape=w.tape/\w'.output=w.output/\w.heap.size<=w'.heap.size/\(∀b,b<w.heap.size->¬ S b->w'.heap[b]?=w.heap[b]?)/\u = .int .i64 k' /\
   ∃S':zZ,Rep true w' v c' S'/\∀x,S' x->(S x\/w.heap.size<=x)/\x<w'.heap.size) hSim (fun n hn h=>by omega)
  rfl (fun i m u hm hu=>by
   match i with
   | 0=>simp at hm hu;subst hm hu;exact hva
   | 1=>simp at hm hu;subst hm hu;rfl
   | i+2=>simp at hm)
  (fun m hm n hn=>by
   simp only [List.mem_cons,List.not_mem_nil,or_false] at hm;rcases hm with rfl|rfl
   ·simp only [MV.ids,zbv,zO,At.ids,zbf,zbg,List.append_nil,List.flatMap_cons,List.flatMap_nil,List.mem_singleton] at hn;subst hn;exact Nat.lt_succ_self _
   ·simp [MV.ids,zbv,zO,At.ids,zbf,zbg] at hn)
  (fun U' st' E' w' tvs u hS' _ _ _ hv _ hans=>by
   split at hans
   ·rename_i k2 r htm _;split at hans
    ·rename_i R hR;cases hown:R.own with
     | false=>rw [hown] at hans;cases hans
     | true =>
      rw [hown] at hans;simp only [cond_true,Option.some.injEq,List.cons.injEq,AV.one.injEq,CV.i.injEq,true_and,and_true] at hans;obtain ⟨rfl,rfl⟩:=hans;have hM:=hS'.mem;have hsl:=hS'.tm.2 0 (.v (.at (.sl r []))) v (by rw [htm];rfl) rfl
      have hρ:=hsl.2 R hR;simp only [zV,Option.some.injEq] at hρ;have hr:=hM.rep r R hR;rw [hown,hρ] at hr;refine ⟨hM.os,hM.tape,hM.output,hM.size,fun b hb hn=>hM.keep b hb hn,hv,E'.φ r,hr,fun x hx=>⟨(hM.mine r R hR hown).2 x hx,hM.rlt r R hR x hx⟩⟩
    ·cases hans
   ·cases hans)
 refine hcalls.mono ?_;intro e w' he;cases e with
 | returned u=>exact he
 | panicked chain=>exact he.elim
 | outgrown=>exact he.elim
section
variable {C:Cfg} {w0 w w1:World} {S0:zZ} {U:Nat->Prop} {st st1:St} {E E1:Env} {ts:Array Value} {sv:List (Array Value)}
structure BlkEnd (st:St) (own:List Bool) (cells:List At) (hs:List MV) (cs:List CV) (ks:List Nat):Prop where
 len:cs.length=cells.length
 hlen:hs.length=cells.length
 ownk:∀r∈ks,∃j,zbq own j/\cells[j]?=some (.sl r [])
 get:∀(j:Nat) (a:At),cells[j]?=some a->(∃k n,a = .i k n/\cs[j]?=some (.i k n))\/(∃x,a = .b x/\cs[j]?=some (.b x)) \/
  ∃r R,a = .sl r []/\st.root r=some R/\cs[j]?=some (.s R.t R.l)/\((zbq own j/\R.own=true/\r∈ks)\/(¬ zbq own j/\hs[j]?=some (.v (.at (.sl r [])))))
 inj:∀(i j r:Nat),zbq own i->zbq own j->cells[i]?=some (.sl r [])->cells[j]?=some (.sl r [])->i=j
end
section
variable {C:Cfg} {w0 w w1:World} {S0:zZ} {U:Nat->Prop} {st st1:St} {E E1:Env} {ts:Array Value} {sv:List (Array Value)}
end
def zRk (h:Host):List CV:=[.s (.sl .int) h.Memory,.s .mon h.Mons,.s .entry h.Buffer,.s .entry h.IoBuffer]
def zeb (c:Ctl):List CV:=[.i .i64 c.Traps,.i .i64 c.Post,.b c.Open]
def zcY (e:GExit):List CV:=[.i .i64 e.Kind,.i .i64 e.Page,.b e.Write,.i .i64 e.N]
structure Cur where
 b:List Int
 i:Int
 h:Int
def zB:List (Nat×Nat×Tmpl)->FuncId->Nat->Option Tmpl
 | [],_,_=>none
 | (g,c,T) :: r,f,b=>cond (Nat.beq g f) (cond (Nat.beq c b) (some T) (zB r f b)) (zB r f b)
def pc (p:Prop):Bool:=@decide p (Classical.propDecidable p)
theorem zI {p:Prop}:pc p=true↔p:=by
 unfold pc;exact @decide_eq_true_iff p (Classical.propDecidable p)
theorem zbb {p:Prop}(h:p):pc p=true:=zI.2 h
inductive CVB (K:Nat):CV->Prop
 | i (k:IntKind) (n:Int):CVB K (.i k n)
 | b (x:Bool):CVB K (.b x)
 | s (t:Ty) (l:List t.den) (hl:l.length<=K) (h:∀x∈l,∀c∈t.cells x,CVB K c):CVB K (.s t l)
theorem CVB.inv {K:Nat}{t:Ty}{l:List t.den}(h:CVB K (.s t l)):l.length<=K/\∀x∈l,∀c∈t.cells x,CVB K c:=by
 cases h with
 | s _ _ hl h=>exact ⟨hl,h⟩
theorem CVB.len {K:Nat}{t:Ty}{l:List t.den}(h:CVB K (.s t l)):l.length<=K:=h.inv.1
theorem CVB.mono {K L:Nat}(hKL:K<=L){c:CV}(h:CVB K c):CVB L c:=by
 induction h with
 | i k n=>exact .i k n
 | b x=>exact .b x
 | s t l hl h ih=>exact .s t l (Nat.le_trans hl hKL) ih
theorem CVB.of_rep {o:Bool}{w:World}{v:Value}{c:CV}{S:zZ}(h:Rep o w v c S):CVB big c:=by
 induction h with
 | i k n S=>exact .i k n
 | b x S=>exact .b x
 | nil t S=>exact .s t [] (Nat.zero_le _) (fun x h=>by cases h)
 | void t a S ho=>exact .s t [] (Nat.zero_le _) (fun x h=>by cases h)
 | sl t l b off cap arr e fz V K S hb hfz hlen hcap hsz hS hsub hdis hv hc ih =>
  refine .s t l hlen (fun x hx c hcx=>?_);obtain ⟨i,hi⟩:=List.mem_iff_getElem?.1 hx;obtain ⟨j,hj⟩:=List.mem_iff_getElem?.1 hcx;exact ih i x hi j c hj
theorem CVB.of_ok {c:CV}(h:CVOk c):CVB big c:=by
 induction h with
 | i k n _=>exact .i k n
 | b x=>exact .b x
 | s t l hl h ih =>
  refine .s t l hl (fun x hx c hcx=>?_);obtain ⟨i,hi⟩:=List.mem_iff_getElem?.1 hx;obtain ⟨j,hj⟩:=List.mem_iff_getElem?.1 hcx;exact ih i x hi j c hj
def zD (K:Nat)(avs:List AV):Prop:=∀c∈zM avs,CVB K c
theorem zbw {K:Nat}{a:AV}{avs:List AV}(h:zD K (a :: avs)):(∀c∈a.cvs,CVB K c)/\zD K avs:=by
 unfold zD zM at *;simp only [List.flatMap_cons,List.mem_append] at h;exact ⟨fun c hc=>h c (.inl hc),fun c hc=>h c (.inr hc)⟩
theorem zK9 {avs:List AV}(h:∃w xs,zcJ false w (zM avs) xs (fun _ b=>b<w.heap.size)):zD big avs:=by
 obtain ⟨w,xs,h1,h2⟩:=h;intro c hc;obtain ⟨i,hi⟩:=List.mem_iff_getElem?.1 hc;have hlt:i<xs.length:=by rw [h1];exact (List.getElem?_eq_some_iff.1 hi).1
 exact CVB.of_rep (h2 i c _ hi (List.getElem?_eq_getElem hlt))
theorem zi {b c:Bool}{x y:List AV}(h:some (b,x)=some (c,y)):b=c/\y=x:=by
 cases h;exact ⟨rfl,rfl⟩
abbrev zbu:=List (Nat×(List AV->Option (Bool×List AV)))
def zyU:zbu:=[]
theorem zo5:∀f run,zx zyU f=some run->Holds Tryz.prog f run:=fun f run h=>by cases h
abbrev zbE (l:zbu):Prop:=∀f run,zx l f=some run->Holds Tryz.prog f run
theorem zl {l:zbu}{f:Nat}{run:List AV->Option (Bool×List AV)}(h:Holds Tryz.prog f run)(hl:zbE l):zbE ((f,run) :: l):=by
 intro g r hg;unfold zx at hg;split at hg
 ·rename_i e;cases hg;rw [<- beq_iff_eq.1 e];exact h
 ·exact hl g r hg
abbrev zyO:=List (Nat×(CV->Int->Option (Bool×CV×Int)))
def zcu:zyO:=[]
theorem zbA:∀f run,zx zcu f=some run->zcX Tryz.prog f run:=fun f run h=>by cases h
theorem zz1 {l m:zyO}(hm:∀f run,zx m f=some run->zcX Tryz.prog f run)(hl:∀x∈l,zcX Tryz.prog x.1 x.2):∀f run,zx (l++m) f=some run->zcX Tryz.prog f run:=by
 intro f run h;rw [zbz] at h;split at h
 ·rename_i y hy;cases h;exact hl _ (zk5 hy)
 ·exact hm f run h
abbrev zPA:=List (Nat×(List Bool×(List CV->List AV->Option (Bool×List CV×List AV))))
def zF:zPA:=[]
theorem zq:∀f own run,zx zF f=some (own,run)->zwK Tryz.prog f own run:=fun f own run h=>by cases h
abbrev zIj:=List (Nat×(List Bool×Option (Nat×Nat×List (List Nat))×(List AV->Option (Bool×List AV))))
def zG:zIj:=[]
theorem zu:∀f own inp run,zx zG f=some (own,inp,run)->zgJ Tryz.prog f own inp run:=fun f own inp run h=>by cases h
theorem zQL {l m:zIj}(hm:∀f own inp run,zx m f=some (own,inp,run)->zgJ Tryz.prog f own inp run)(hl:∀x∈l,zgJ Tryz.prog x.1 x.2.1 x.2.2.1 x.2.2.2):∀f own inp run,zx (l++m) f=some (own,inp,run)->zgJ Tryz.prog f own inp run:=by
 intro f own inp run h;rw [zbz] at h;split at h
 ·rename_i y hy;cases h;exact hl _ (zk5 hy)
 ·exact hm f own inp run h
abbrev cQ (c:zbu)(m:zyO)(p:zPA)(t:zIj):Cfg:=zhQ (zx c) (zx m) (zx p) (zx t)
theorem zn {c:zbu}{m:zyO}{p:zPA}{t:zIj}(o1:zbE c)(o2:∀f run,zx m f=some run->zcX Tryz.prog f run)(o3:∀f own run,zx p f=some (own,run)->zwK Tryz.prog f own run)(o4:∀f own inp run,zx t f=some (own,inp,run)->zgJ Tryz.prog f own inp run){f:FuncId}{run:List AV->Option (Bool×List AV)}(hf:FnOk Tryz.prog f)(h:∀avs rs,zD big avs->run avs=some (true,rs)->∃tms N,evalFn (cQ c m p t) tms N 12 f avs=some rs):Holds Tryz.prog f run :=
 zwc (zeI o1 o2 o3 o4) hf fun avs rs hr e=>(h avs rs (zK9 hr) e).elim fun t x=>x.elim fun N y=>⟨t,N,12,y⟩
theorem fin0 {C:Cfg}{tms:FuncId->Nat->Option Tmpl}{f:FuncId}{av:List AV}{E:Nat->Option Ans}{r:Ans}{c:Bool}(law:zD big (av)->c=true->∃N,E N=some (r))(nf:∀N,evalFn C tms N 12 f (av)=E N)(hc:c=true)(hb:zD big (av)):∃tms N,evalFn C tms N 12 f (av)=some (r) :=
 (law hb hc).elim fun N e=>⟨tms,N,(nf N).trans e⟩
theorem fin1 {A0:Type}{C:Cfg}{tms:FuncId->Nat->Option Tmpl}{f:FuncId}{av:A0->List AV}{E:Nat->A0->Option Ans}{r:A0->Ans}{c:A0->Bool}(law:∀a0,zD big (av a0)->c a0=true->∃N,E N a0=some (r a0))(nf:∀N a0,evalFn C tms N 12 f (av a0)=E N a0){a0:A0}(hc:c a0=true)(hb:zD big (av a0)):∃tms N,evalFn C tms N 12 f (av a0)=some (r a0) :=
 (law _ hb hc).elim fun N e=>⟨tms,N,(nf N _).trans e⟩
theorem fin2 {A0 A1:Type}{C:Cfg}{tms:FuncId->Nat->Option Tmpl}{f:FuncId}{av:A0->A1->List AV}{E:Nat->A0->A1->Option Ans}{r:A0->A1->Ans}{c:A0->A1->Bool}(law:∀a0 a1,zD big (av a0 a1)->c a0 a1=true->∃N,E N a0 a1=some (r a0 a1))(nf:∀N a0 a1,evalFn C tms N 12 f (av a0 a1)=E N a0 a1){a0:A0}{a1:A1}(hc:c a0 a1=true)(hb:zD big (av a0 a1)):∃tms N,evalFn C tms N 12 f (av a0 a1)=some (r a0 a1) :=
 (law _ _ hb hc).elim fun N e=>⟨tms,N,(nf N _ _).trans e⟩
theorem zd1 {A0 A1 A2:Type}{C:Cfg}{tms:FuncId->Nat->Option Tmpl}{f:FuncId}{av:A0->A1->A2->List AV}{E:Nat->A0->A1->A2->Option Ans}{r:A0->A1->A2->Ans}{c:A0->A1->A2->Bool}(law:∀a0 a1 a2,zD big (av a0 a1 a2)->c a0 a1 a2=true->∃N,E N a0 a1 a2=some (r a0 a1 a2))(nf:∀N a0 a1 a2,evalFn C tms N 12 f (av a0 a1 a2)=E N a0 a1 a2){a0:A0}{a1:A1}{a2:A2}(hc:c a0 a1 a2=true)(hb:zD big (av a0 a1 a2)):∃tms N,evalFn C tms N 12 f (av a0 a1 a2)=some (r a0 a1 a2) :=
 (law _ _ _ hb hc).elim fun N e=>⟨tms,N,(nf N _ _ _).trans e⟩
theorem ztd {A0 A1 A2 A3:Type}{C:Cfg}{tms:FuncId->Nat->Option Tmpl}{f:FuncId}{av:A0->A1->A2->A3->List AV}{E:Nat->A0->A1->A2->A3->Option Ans}{r:A0->A1->A2->A3->Ans}{c:A0->A1->A2->A3->Bool}(law:∀a0 a1 a2 a3,zD big (av a0 a1 a2 a3)->c a0 a1 a2 a3=true->∃N,E N a0 a1 a2 a3=some (r a0 a1 a2 a3))(nf:∀N a0 a1 a2 a3,evalFn C tms N 12 f (av a0 a1 a2 a3)=E N a0 a1 a2 a3){a0:A0}{a1:A1}{a2:A2}{a3:A3}(hc:c a0 a1 a2 a3=true)(hb:zD big (av a0 a1 a2 a3)):∃tms N,evalFn C tms N 12 f (av a0 a1 a2 a3)=some (r a0 a1 a2 a3) :=
 (law _ _ _ _ hb hc).elim fun N e=>⟨tms,N,(nf N _ _ _ _).trans e⟩
noncomputable def zOO (f:FuncId):Bool :=
 match Tryz.prog.funcs[f]? with
 | some fn=>fn.body.isSome && !(fn.name == "runtime.NumGoroutine")
 | none=>false
theorem zC {f:FuncId}(h:zOO f=true):FnOk Tryz.prog f:=by
 unfold zOO at h;split at h
 ·rename_i fn hf;simp only [Bool.and_eq_true,Bool.not_eq_true'] at h;obtain ⟨b,hb⟩:=Option.isSome_iff_exists.1 h.1;exact ⟨fn,b,hf,hb,h.2⟩
 ·cases h
theorem cT {α:Type}(x y:α):(cond true x y)=x:=by simp
theorem cF {α:Type}(x y:α):(cond false x y)=y:=by simp
theorem zo4:big=140737488355328:=rfl
theorem zNh {x:Int}(h1 : -9223372036854775808<=x)(h2:x<=9223372036854775807):IntKind.i64.wrap x=x:=by
 simp only [IntKind.wrap,IntKind.signed,IntKind.bits];simp;omega
theorem zd0 {x y:Int}(h1 : -9223372036854775808<=x+y)(h2:x+y<=9223372036854775807):zy .i64 x y=x+y:=zNh h1 h2
theorem zx1 {x y:Int}(h1 : -9223372036854775808<=x-y)(h2:x-y<=9223372036854775807):wsub .i64 x y=x-y:=zNh h1 h2
theorem zbt {i n:Nat}(h:i<n)(hn:n<=big):zy .i64 (i:Int) 1=((i+1:Nat):Int):=by
 rw [zo4] at hn;rw [zd0 (by omega) (by omega)]
 omega
section
variable {α:Type}
theorem zbr {l:List α}{i:Nat}(h:i<l.length):ilt (i:Int) (ln l)=true:=by
 unfold ilt ln;exact decide_eq_true (by omega)
theorem zbe {l:List α}:ilt ((l.length:Nat):Int) (ln l)=false:=by
 unfold ilt ln;exact decide_eq_false (by omega)
theorem zbn {l:List α}{i:Nat}(h:i<l.length):inb (i:Int) (ln l)=true:=by
 unfold inb ln;exact decide_eq_true (by omega)
theorem zbx {l:List α}{i:Nat}(h:i<l.length)(d:α):ix l (i:Int) d=l[i]:=by
 unfold ix;simp [List.getD,List.getElem?_eq_getElem h]
theorem zfi {l:List α}(h:l.length<=2147483648):few (ln l)=true:=by
 unfold few ln;exact decide_eq_true (by omega)
theorem zqh (x:Int):ieq x x=true:=by simp [ieq]
theorem zbF (x:Int):ine x x=false:=by simp [ine]
theorem zb5 (x:Bool):zeo x x=true:=by simp [zeo]
end
theorem zch {σ ρ:Type}(n:Nat)(F:(σ->Option ρ)->σ->Option ρ)(s:σ):iter (n+1) F s=F (iter n F) s:=rfl
def goL {α τ ρ:Type}(body:Nat->α->τ->(τ->Option ρ)->Option ρ)(K:τ->Option ρ):List α->Nat->τ->Option ρ
 | [],_,t=>K t
 | x :: l,i,t=>body i x t (goL body K l (i+1))
theorem zbI {α τ ρ σ:Type}(l:List α)(st:Nat->τ->σ)(F:(σ->Option ρ)->σ->Option ρ)(body:Nat->α->τ->(τ->Option ρ)->Option ρ)(K:τ->Option ρ)(hstep:∀(i:Nat) (hi:i<l.length) (t:τ) (rec:σ->Option ρ),F rec (st i t)=body i l[i] t (fun t'=>rec (st (i+1) t')))(hend:∀(t:τ) (rec:σ->Option ρ),F rec (st l.length t)=K t) :
 ∀(N:Nat) (t:τ),l.length<N->iter N F (st 0 t)=goL body K l 0 t:=by
 have key:∀(m i N:Nat) (t:τ),l.length-i=m->i<=l.length->m<N->iter N F (st i t)=goL body K (l.drop i) i t:=by
  intro m
  induction m with
  | zero =>
   intro i N t hm hi hN;have:i=l.length:=by omega
   subst this;obtain ⟨n,rfl⟩:∃n,N=n+1:=⟨N-1,by omega⟩
   rw [zch,hend,List.drop_length];rfl
  | succ m ih =>
   intro i N t hm hi hN;obtain ⟨n,rfl⟩:∃n,N=n+1:=⟨N-1,by omega⟩
   have hlt:i<l.length:=by omega
   rw [zch,hstep i hlt,List.drop_eq_getElem_cons hlt];simp only [goL]
   congr 1
   funext t'
   exact ih (i+1) n t' (by omega) (by omega) (by omega)
 intro N t hN;have:=key l.length 0 N t (by omega) (Nat.zero_le _) hN
 simpa using this
theorem zx0 {α ρ:Type}(l:List α)(d:α)(c:α->Bool)(f:α->α)(K:List α->Option ρ)(hl:l.length<=big)(hf:∀x∈l,c x=true/\f x=x){N:Nat}(hN:l.length<N) :
 iter N (fun r (s:Int×List α×List α×Unit)=>(bif (ilt s.1 (ln s.2.1)) then (bif (inb s.1 (ln s.2.1)) then (bif (c (ix s.2.1 s.1 d)) then (bif (inb s.1 (ln s.2.2.1)) then
  (r ((zy .i64 s.1 1),(s.2.1,((up s.2.2.1 s.1 (f (ix s.2.1 s.1 d))),())))) else none) else none) else none) else K s.2.2.1)) (0,(l,((rp (ln l) d),())))=K l:=by
 have key:∀(m i N:Nat),l.length-i=m->i<=l.length->m<N->iter N (fun r (s:Int×List α×List α×Unit)=>(bif (ilt s.1 (ln s.2.1)) then (bif (inb s.1 (ln s.2.1)) then (bif (c (ix s.2.1 s.1 d)) then (bif (inb s.1 (ln s.2.2.1)) then
  (r ((zy .i64 s.1 1),(s.2.1,((up s.2.2.1 s.1 (f (ix s.2.1 s.1 d))),())))) else none) else none) else none) else K s.2.2.1)) ((i:Int),(l,(l.take i++List.replicate (l.length-i) d,())))=K l:=by
  intro m
  induction m with
  | zero =>
   intro i N hm hi hN;have:i=l.length:=by omega
   subst this;obtain ⟨n,rfl⟩:∃n,N=n+1:=⟨N-1,by omega⟩
   rw [zch];simp only [zbe,cF];simp
  | succ m ih =>
   intro i N hm hi hN;obtain ⟨n,rfl⟩:∃n,N=n+1:=⟨N-1,by omega⟩
   have hlt:i<l.length:=by omega
   have hlen:(l.take i++List.replicate (l.length-i) d).length=l.length:=by simp;omega
   obtain ⟨h1,h2⟩:=hf l[i] (List.getElem_mem hlt);have hup:up (l.take i++List.replicate (l.length-i) d) (i:Int) l[i]=l.take (i+1)++List.replicate (l.length-(i+1)) d:=by
    unfold up;apply List.ext_getElem?;intro k;have e:(i:Int).toNat=i:=by omega
    rw [e,List.getElem?_set]
    by_cases hk:i=k
    ·subst hk;rw [if_pos rfl,if_pos (by omega),List.getElem?_append_left (by simp;omega),List.getElem?_take,if_pos (by omega),List.getElem?_eq_getElem hlt]
    ·rw [if_neg hk]
     by_cases hki:k<i
     ·rw [List.getElem?_append_left (by simp;omega),List.getElem?_append_left (by simp;omega),List.getElem?_take,List.getElem?_take,if_pos hki,if_pos (by omega)]
     ·have e1:(l.take i).length=i:=by simp;omega
      have e2:(l.take (i+1)).length=i+1:=by simp;omega
      rw [List.getElem?_append_right (by omega),List.getElem?_append_right (by omega),List.getElem?_replicate,List.getElem?_replicate,e1,e2]
      by_cases hkl:k<l.length
      ·rw [if_pos (by omega),if_pos (by omega)]
      ·rw [if_neg (by omega),if_neg (by omega)]
   rw [zch];simp only [zbr hlt,zbn hlt,zbx hlt,h1,h2,cT,zbn (l:=l.take i++List.replicate (l.length-i) d) (i:=i) (by omega),zbt hlt hl,hup]
   exact ih (i+1) n (by omega) (by omega) (by omega)
 have:=key l.length 0 N (by omega) (Nat.zero_le _) hN
 have e:rp (ln l) d=List.replicate l.length d:=by simp [rp,ln]
 rw [e];simpa using this
theorem zgo {α ρ:Type}(l:List α)(d:α)(F:(Int×List α×List α×Unit->Option ρ)->Int×List α×List α×Unit->Option ρ)(k:Option ρ)(hl:l.length<=big)(hstep:∀(i:Nat) (hi:i<l.length) rec,F rec ((i:Int),l,l,())=rec (zy .i64 (i:Int) 1,l,l,()))(hend:∀rec,F rec ((l.length:Int),l,l,())=k){N:Nat}(hN:l.length<N) :
 iter N F (0,(l,(l,())))=k:=by
 have key:∀(m i N:Nat),l.length-i=m->i<=l.length->m<N->iter N F ((i:Int),(l,(l,())))=k:=by
  intro m
  induction m with
  | zero =>
   intro i N hm hi hN;have:i=l.length:=by omega
   subst this;obtain ⟨n,rfl⟩:∃n,N=n+1:=⟨N-1,by omega⟩
   rw [zch,hend]
  | succ m ih =>
   intro i N hm hi hN;obtain ⟨n,rfl⟩:∃n,N=n+1:=⟨N-1,by omega⟩
   have hlt:i<l.length:=by omega
   rw [zch,hstep i hlt,zbt hlt hl];exact ih (i+1) n (by omega) (by omega) (by omega)
 exact key l.length 0 N (by omega) (Nat.zero_le _) hN
def sm:Nat:=1048576
def szL {α:Type}(l:List α)(n:Int):Int:=if n-l.length<0 then -1 else n-l.length
theorem zCG {α:Type}{l:List α}{n:Int}(hl:l.length<=big)(h0:0<=n)(h1:n<=1048576):wsub .i64 n (ln l)=n-l.length:=by
 rw [zo4] at hl;exact zx1 (by simp only [ln];omega) (by simp only [ln];omega)
theorem zhV:pc True=true:=zbb trivial
theorem zcP {n:Nat}(h:n<=sm):n<=big/\n<=2147483648:=by
 unfold sm at h;rw [zo4];omega
def hasB (i n:Int):Bool:=decide (0<=i/\i<n)
theorem has_eq (i n:Int):(ige i 0&&ilt i n)=hasB i n:=by
 unfold ige ilt hasB
 by_cases h1:0<=i<;>by_cases h2:i<n<;>simp [h1,h2]
theorem zM2 {i n:Int}(h:hasB i n=true):inb i n=true:=h
theorem zC3 {i:Int}{n:Nat}(h:hasB i n=true):∃k:Nat,i=k/\k<n:=by
 have:0<=i/\i<n:=of_decide_eq_true h;exact ⟨i.toNat,by omega,by omega⟩
theorem zBE {α:Type}{l:List α}{i:Int}(h:hasB i (ln l)=true)(d:α):ix l i d∈l:=by
 obtain ⟨k,rfl,hk⟩:=zC3 (n:=l.length) h;rw [zbx hk];exact List.getElem_mem hk
theorem zAm {α:Type}(l:List α):ap [] l=l:=rfl
theorem ziU {α ρ:Type}(c:α->Bool)(f:α->α)(K:List α->Option ρ):∀(l:List α) (i:Nat) (acc:List α),(∀x∈l,c x=true/\f x=x)->acc.length+l.length<=2147483648 ->
 goL (fun _ x acc k=>bif c x then (cond (few (ln (ap acc [f x]))) (k (ap acc [f x])) none) else none) K l i acc=K (acc++l)
 | [],i,acc,_,_=>by simp [goL]
 | x :: l,i,acc,h,hn=>by
  obtain ⟨h1,h2⟩:=h x (by simp)
  simp only [List.length_cons] at hn;simp only [goL,h1,h2,cT];rw [zfi (by simp [ap];omega),cT,ziU c f K l (i+1) _ (fun y hy=>h y (by simp [hy])) (by simp [ap];omega)]
  simp [ap]
def zOA (h:Host):Prop:=∀c∈zRk h,CVB sm c
theorem zOA.mem {h:Host}(hs:zOA h):CVB sm (.s (.sl .int) h.Memory):=hs _ (by simp [zRk])
theorem zAE {t:Ty}{l:List t.den}(h:CVB sm (.s t l)):few (ln l)=true:=zfi (zcP h.len).2
def NN:Nat:=big+1
theorem zb7 {n:Nat}(h:n<=big):n<NN:=Nat.lt_succ_of_le h
theorem zfj {α ρ:Type}(p:α->Bool)(r:Option ρ)(K:Unit->Option ρ):∀(l:List α) (i:Nat),goL (fun _ x (_:Unit) k=>bif p x then k () else r) K l i ()=bif l.all p then K () else r
 | [],_=>rfl
 | x :: l,i=>by
  simp only [goL,List.all_cons];cases p x
  ·rfl
  ·simp only [cT,Bool.true_and];exact zfj p r K l (i+1)
theorem zNJ {n:Nat}(hn:n<=big)(i:Int):(ige i 0&&ile i (wsub .i64 (n:Int) 1))=hasB i n:=by
 rw [zo4] at hn;rw [zx1 (by omega) (by omega)]
 unfold ige ile hasB
 by_cases h1:0<=i<;>by_cases h2:i<n
 ·rw [decide_eq_true (p:=i≥0) (by omega),decide_eq_true (p:=i<=(n:Int)-1) (by omega),decide_eq_true (p:=0<=i/\i<(n:Int)) ⟨h1,h2⟩];rfl
 ·rw [decide_eq_false (p:=i<=(n:Int)-1) (by omega),decide_eq_false (p:=0<=i/\i<(n:Int)) (by omega)];simp
 ·rw [decide_eq_false (p:=i≥0) (by omega),decide_eq_false (p:=0<=i/\i<(n:Int)) (by omega)];simp
 ·rw [decide_eq_false (p:=i≥0) (by omega),decide_eq_false (p:=0<=i/\i<(n:Int)) (by omega)];simp
section
variable {α:Type}
theorem zTm {l:List α}{i:Nat}(h:i<l.length)(x d:α):ix (up l (i:Int) x) (i:Int) d=x:=by
 unfold ix up;have e:(i:Int).toNat=i:=by omega
 rw [e];simp [List.getD,h]
theorem zTz (l:List α)(i:Int)(x y:α):up (up l i x) i y=up l i y:=by
 unfold up;simp
theorem zSR {l:List α}{i k:Nat}(h:i<k)(x:α):(up l (i:Int) x)[k]?=l[k]?:=by
 unfold up;have e:(i:Int).toNat=i:=by omega
 rw [e,List.getElem?_set,if_neg (by omega)]
end
def thn (n:Int)(k:Int->Int):Int:=if n<0 then -1 else k n
def zv5 {α:Type}(f:α->Int->Int):List α->Int->Int
 | [],n=>n
 | x :: l,n=>thn (f x n) (zv5 f l)
def zv6 {α:Type}(f:α->Int->Int)(l:List α)(n:Int):Int:=thn (n-l.length) (zv5 f l)
def SzP {α:Type}(sm':α->Prop)(f:α->Int->Int):Prop:=∀x n,0<=n->n<=1048576->f x n<=n/\(0<=f x n->sm' x)
theorem zSn {P Q:Prop}{f g:Int->Int}(hf:∀n,0<=n->n<=1048576->f n<=n/\(0<=f n->P))(hg:∀n,0<=n->n<=1048576->g n<=n/\(0<=g n->Q)) :
 ∀n,0<=n->n<=1048576->thn (f n) g<=n/\(0<=thn (f n) g->P/\Q):=by
 intro n h0 h1;obtain ⟨a,b⟩:=hf n h0 h1;unfold thn;split
 ·exact ⟨by omega,fun h=>by omega⟩
 ·obtain ⟨c,d⟩:=hg (f n) (by omega) (by omega)
  exact ⟨by omega,fun h=>⟨b (by omega),d h⟩⟩
theorem zKK {α:Type}(l:List α):∀n,0<=n->n<=1048576->szL l n<=n/\(0<=szL l n->l.length<=sm):=by
 intro n h0 h1;unfold szL sm;split
 ·exact ⟨by omega,fun h=>by omega⟩
 ·exact ⟨by omega,fun h=>by omega⟩
theorem zPt {α:Type}{S:α->Prop}{f:α->Int->Int}(hf:SzP S f):∀(l:List α) (n:Int),0<=n->n<=1048576->zv5 f l n<=n/\(0<=zv5 f l n->∀x∈l,S x)
 | [],n,h0,h1=>⟨Int.le_refl _,fun _ x h=>by cases h⟩
 | x :: l,n,h0,h1=>by
  obtain ⟨a,b⟩:=zSn (hf x) (zPt hf l) n h0 h1;refine ⟨a,fun h y hy=>?_⟩;obtain ⟨c,d⟩:=b h;rcases List.mem_cons.1 hy with rfl|hy
  ·exact c
  ·exact d y hy
theorem zKL {α:Type}{S:α->Prop}{f:α->Int->Int}(hf:SzP S f)(l:List α):∀n,0<=n->n<=1048576->zv6 f l n<=n/\(0<=zv6 f l n->l.length<=sm/\∀x∈l,S x):=by
 intro n h0 h1;unfold zv6 thn;split
 ·exact ⟨by omega,fun h=>by omega⟩
 ·obtain ⟨a,b⟩:=zPt hf l (n-l.length) (by omega) (by omega)
  exact ⟨by omega,fun h=>⟨by unfold sm;omega,b h⟩⟩
theorem zQe {t:Ty}{l:List t.den}(hf:t.flat=true)(h:l.length<=sm):CVB sm (.s t l):=by
 refine .s t l h (fun x _ c hc=>?_);obtain ⟨j,hj⟩:=List.mem_iff_getElem?.1 hc;have:=zmI hf hj;cases c with
 | i k n=>exact .i k n
 | b x=>exact .b x
 | s t l=>cases this
theorem zzJ (n:Int):ilt n 0=decide (n<0):=rfl
theorem zNe {α:Type}(l:List α)(d:α)(c:α->Int->Bool)(f:α->Int->Int){S:α->Prop}(hf:SzP S f)(hc:∀x n,0<=n->n<=1048576->c x n=true)(hl:l.length<=big)(n0:Int)(h0:0<=n0)(h1:n0<=1048576){N:Nat}(hN:l.length<N) :
 iter N (fun r (s:Int×Int×List α×Unit)=>(bif (ilt s.2.1 (ln s.2.2.1)) then (bif (inb s.2.1 (ln s.2.2.1)) then (bif (c (ix s.2.2.1 s.2.1 d) s.1) then (bif (ilt (f (ix s.2.2.1 s.2.1 d) s.1) 0) then (some [AV.one (.i .i64 (-1))])
  else (r ((f (ix s.2.2.1 s.2.1 d) s.1),((zy .i64 s.2.1 1),(s.2.2.1,()))))) else none) else none) else (some [.one (.i .i64 s.1)]))) (n0,(0,(l,())))=some [.one (.i .i64 (zv5 f l n0))]:=by
 refine (zbI l (fun i n=>(n,((i:Int),(l,())))) _ (fun _ x n k=>bif c x n then (cond (ilt (f x n) 0) (some [AV.one (.i .i64 (-1))]) (k (f x n))) else none) (fun n=>some [AV.one (.i .i64 n)])
  (fun i hi n rec=>?_) (fun n rec=>?_) _ n0 hN).trans ?_
 ·simp only [zbr hi,zbn hi,zbx hi,cT,zbt hi hl]
 ·simp only [zbe,cF]
 ·clear hl hN
  revert n0
  generalize 0=i
  induction l generalizing i with
  | nil=>intro n h0 h1;rfl
  | cons x l ih =>
   intro n h0 h1;have:=hf x n h0 h1;simp only [goL,zv5,hc x n h0 h1,cT,thn,zzJ]
   by_cases hneg:f x n<0
   ·simp [hneg]
   ·simp only [hneg,decide_false,cF,if_false];exact ih (i+1) (f x n) (by omega) (by omega)
def zoK (_:List Ins)(n:Int):Bool:=pc (0<=n/\n<=1048576)
def zd4 (l:List Ins)(n:Int):Int:=szL l n
def zqY:List AV->Option (Bool×List AV)
 | [.one (.s .ins b),.one (.i .i64 c)]=>some ((zoK b c),[.one (.i .i64 (zd4 b c))])
 | _=>none
def zu8 (N:Nat)(a0:List Ins)(a1:Int):Option Ans :=
 (cond (ilt (wsub .i64 a1 (ln a0)) 0) (some [(.one (.i .i64 (-1)))]) (some [(.one (.i .i64 (wsub .i64 a1 (ln a0))))]))
theorem zMc (N:Nat)(a0:List Ins)(a1:Int):evalFn (cQ zyU zcu zF zG) (zB []) N 12 39 [.one (.s .ins a0),.one (.i .i64 a1)]=zu8 N a0 a1:=by kernel_rfl
theorem zJi (a0:List Ins)(a1:Int)(hb:zD big [.one (.s .ins a0),.one (.i .i64 a1)])(hc:(zoK a0 a1)=true):∃N,zu8 N a0 a1=some [.one (.i .i64 (zd4 a0 a1))]:=by
 obtain ⟨h0,h1⟩:=zI.1 hc;have hl:=((zbw hb).1 _ (List.mem_singleton.2 rfl)).len;refine ⟨0,?_⟩;simp only [zu8,zCG hl h0 h1,zd4,szL,ilt]
 by_cases h:a1-a0.length<0<;>simp [h]
theorem zDx:Holds Tryz.prog 39 zqY:=zn zo5 zbA zq zu (zC (by kernel_rfl)) fun avs rs hb h=>by
 unfold zqY at h;split at h
 ·obtain ⟨hc,rfl⟩:=zi h;exact (fin2 zJi zMc hc hb :)
 ·cases h
theorem zNK (l:List Ins):∀n,0<=n->n<=1048576->zd4 l n<=n/\(0<=zd4 l n->CVB sm (.s .ins l)):=fun n h0 h1=>⟨(zKK l n h0 h1).1,fun h=>zQe (by rfl) ((zKK l n h0 h1).2 h)⟩
def zSF:zbu:=[(39,zqY)]++zyU
theorem zRM:zbE zSF:=zl zDx zo5
def zSG:zbu:=zSF
theorem zRN:∀f run,zx zSG f=some run->Holds Tryz.prog f run:=zRM
def zSH:zbu:=zSG
theorem zRO:∀f run,zx zSH f=some run->Holds Tryz.prog f run:=zRN
def zSI:zbu:=zSH
theorem zRP:∀f run,zx zSI f=some run->Holds Tryz.prog f run:=zRO
def zSJ:zbu:=zSI
theorem zRQ:∀f run,zx zSJ f=some run->Holds Tryz.prog f run:=zRP
def zPR:zbu:=zSJ
theorem zMS:∀f run,zx zPR f=some run->Holds Tryz.prog f run:=zRQ
def zr1 (_:Ins):Bool:=true
def zxQ (x:Ins):Ins:=x
def ztD:List AV->Option (Bool×List AV)
 | [.agg [.i .i64 b,.i .i64 c]]=>some ((zr1 (⟨b,c⟩:Ins)),[.agg (Ty.cells .ins (zxQ (⟨b,c⟩:Ins)))])
 | _=>none
def zFp (N:Nat)(a0:Ins):Option Ans :=
 (some [(.agg [(.i .i64 a0.Op),(.i .i64 a0.X)])])
theorem zN4 (N:Nat)(a0:Ins):evalFn (cQ zPR zcu zF zG) (zB []) N 12 109 [.agg (Ty.cells .ins a0)]=zFp N a0:=by kernel_rfl
theorem zLx (a0:Ins)(hb:zD big [.agg (Ty.cells .ins a0)])(hc:(zr1 a0)=true):∃N,zFp N a0=some [.agg (Ty.cells .ins (zxQ a0))]:=by
 exact ⟨0,rfl⟩
theorem zF2:Holds Tryz.prog 109 ztD:=zn zMS zbA zq zu (zC (by kernel_rfl)) fun avs rs hb h=>by
 unfold ztD at h;split at h
 ·obtain ⟨hc,rfl⟩:=zi h;exact (fin1 zLx zN4 hc hb :)
 ·cases h
def zPS:zbu:=[(109,ztD)]++zPR
theorem zMT:zbE zPS:=zl zF2 zMS
def zoL (l:List Ins):Bool:=pc (CVB sm (.s .ins l))
def zvS (l:List Ins):List Ins:=l
def zq0:List AV->Option (Bool×List AV)
 | [.one (.s .ins b)]=>some ((zoL b),[.one (.s .ins (zvS b))])
 | _=>none
def zva (N:Nat)(a0:List Ins):Option Ans :=
 (cond (cond (few (ln a0)) (ieq (ln a0) (ln a0)) false) (iter (σ:=(Int×((List Ins)×((List Ins)×Unit)))) N (fun r2 s3=>(cond (ilt s3.1 (ln s3.2.1)) (cond (inb s3.1 (ln s3.2.1)) (cond (zr1 (ix s3.2.1 s3.1 zdK)) (cond (inb s3.1 (ln s3.2.2.1)) (share (up s3.2.2.1 s3.1 (zxQ (ix s3.2.1 s3.1 zdK))) (fun x4=>(r2 ((zy .i64 s3.1 1),(s3.2.1,(x4,())))))) none) none) none) (some [(.one (.s .ins s3.2.2.1))]))) (0,(a0,((rp (ln a0) zdK),())))) none)
def zKW:FuncId->Nat->Option Tmpl:=zB [(59,0,{ n:=23,tm:=[(0,.sl 0 []),(3,.sl 1 []),(4,.i .i64)],lo:=[],ro:=[(0,.ins,false),(1,.ins,true)] })]
theorem zMe (N:Nat)(a0:List Ins):evalFn (cQ zPS zcu zF zG) zKW N 12 59 [.one (.s .ins a0)]=zva N a0:=by kernel_rfl
theorem zJk (a0:List Ins)(hb:zD big [.one (.s .ins a0)])(hc:(zoL a0)=true):∃N,zva N a0=some [.one (.s .ins (zvS a0))]:=by
 have hs:=zI.1 hc;have hl:=zcP hs.len;refine ⟨a0.length+1,?_⟩;unfold zva;rw [zfi hl.2,zqh];exact zx0 a0 _ zr1 zxQ (fun l=>some [AV.one (.s .ins l)]) hl.1 (fun x hx=>⟨by first|rfl|exact zbb (hs.inv.2 x hx)|exact zbb (hs.inv.2 x hx _ (List.mem_singleton.2 rfl)),rfl⟩) (Nat.lt_succ_self _)
theorem zDz:Holds Tryz.prog 59 zq0:=zn zMT zbA zq zu (zC (by kernel_rfl)) fun avs rs hb h=>by
 unfold zq0 at h;split at h
 ·obtain ⟨hc,rfl⟩:=zi h;exact (fin1 zJk zMe hc hb :)
 ·cases h
def zQT:zbu:=[(59,zq0)]++zPS
theorem zPI:zbE zQT:=zl zDz zMT
def zQU:zbu:=zQT
theorem zPJ:∀f run,zx zQU f=some run->Holds Tryz.prog f run:=zPI
def zQV:zbu:=zQU
theorem zPK:∀f run,zx zQV f=some run->Holds Tryz.prog f run:=zPJ
def zQW:zbu:=zQV
theorem zPL:∀f run,zx zQW f=some run->Holds Tryz.prog f run:=zPK
def zQX:zbu:=zQW
theorem zPM:∀f run,zx zQX f=some run->Holds Tryz.prog f run:=zPL
def zvz:zbu:=zQX
theorem zk7:∀f run,zx zvz f=some run->Holds Tryz.prog f run:=zPM
def zoH (x y:Slot):Bool:=pc (x=y)
def zql (_ _:Slot):Bool:=true
def zqW:List AV->Option (Bool×List AV)
 | [.agg [.i .i64 c,.i .i64 d],.agg [.i .i64 e,.i .i64 f]]=>some ((zoH (⟨c,d⟩:Slot) (⟨e,f⟩:Slot)),[.one (.b (zql (⟨c,d⟩:Slot) (⟨e,f⟩:Slot)))])
 | _=>none
def zu5 (N:Nat)(a0:Slot)(a1:Slot):Option Ans :=
 (cond (ine a0.Page a1.Page) (some [(.one (.b false))]) (cond (ine a0.Rights a1.Rights) (some [(.one (.b false))]) (some [(.one (.b true))])))
theorem zL9 (N:Nat)(a0:Slot)(a1:Slot):evalFn (cQ zvz zcu zF zG) (zB []) N 12 215 [.agg (Ty.cells .slot a0),.agg (Ty.cells .slot a1)]=zu5 N a0 a1:=by kernel_rfl
theorem zJf (a0:Slot)(a1:Slot)(hb:zD big [.agg (Ty.cells .slot a0),.agg (Ty.cells .slot a1)])(hc:(zoH a0 a1)=true):∃N,zu5 N a0 a1=some [.one (.b (zql a0 a1))]:=by
 have:=zI.1 hc;subst this;refine ⟨0,?_⟩;simp only [zu5, zhV,zbF,zb5,cT,cF,Bool.not_true,zql]
theorem zDv:Holds Tryz.prog 215 zqW:=zn zk7 zbA zq zu (zC (by kernel_rfl)) fun avs rs hb h=>by
 unfold zqW at h;split at h
 ·obtain ⟨hc,rfl⟩:=zi h;exact (fin2 zJf zL9 hc hb :)
 ·cases h
def zrY (x y:Ins):Bool:=pc (x=y)
def zuo (_ _:Ins):Bool:=true
def ztB:List AV->Option (Bool×List AV)
 | [.agg [.i .i64 c,.i .i64 d],.agg [.i .i64 e,.i .i64 f]]=>some ((zrY (⟨c,d⟩:Ins) (⟨e,f⟩:Ins)),[.one (.b (zuo (⟨c,d⟩:Ins) (⟨e,f⟩:Ins)))])
 | _=>none
def zww (N:Nat)(a0:Ins)(a1:Ins):Option Ans :=
 (cond (ine a0.Op a1.Op) (some [(.one (.b false))]) (cond (ine a0.X a1.X) (some [(.one (.b false))]) (some [(.one (.b true))])))
theorem zN2 (N:Nat)(a0:Ins)(a1:Ins):evalFn (cQ zvz zcu zF zG) (zB []) N 12 131 [.agg (Ty.cells .ins a0),.agg (Ty.cells .ins a1)]=zww N a0 a1:=by kernel_rfl
theorem zLv (a0:Ins)(a1:Ins)(hb:zD big [.agg (Ty.cells .ins a0),.agg (Ty.cells .ins a1)])(hc:(zrY a0 a1)=true):∃N,zww N a0 a1=some [.one (.b (zuo a0 a1))]:=by
 have:=zI.1 hc;subst this;refine ⟨0,?_⟩;simp only [zww, zhV,zbF,zb5,cT,cF,Bool.not_true,zuo]
theorem zF0:Holds Tryz.prog 131 ztB:=zn zk7 zbA zq zu (zC (by kernel_rfl)) fun avs rs hb h=>by
 unfold ztB at h;split at h
 ·obtain ⟨hc,rfl⟩:=zi h;exact (fin2 zLv zN2 hc hb :)
 ·cases h
def zrX (x y:Ctl):Bool:=pc (x=y)
def zun (_ _:Ctl):Bool:=true
def ztA:List AV->Option (Bool×List AV)
 | [.agg [.i .i64 c,.i .i64 d,.b e],.agg [.i .i64 f,.i .i64 g,.b h]]=>some ((zrX (⟨c,d,e⟩:Ctl) (⟨f,g,h⟩:Ctl)),[.one (.b (zun (⟨c,d,e⟩:Ctl) (⟨f,g,h⟩:Ctl)))])
 | _=>none
def zwv (N:Nat)(a0:Ctl)(a1:Ctl):Option Ans :=
 (cond (ine a0.Traps a1.Traps) (some [(.one (.b false))]) (cond (ine a0.Post a1.Post) (some [(.one (.b false))]) (cond (cond (zeo a0.Open a1.Open) false true) (some [(.one (.b false))]) (some [(.one (.b true))]))))
theorem zN1 (N:Nat)(a0:Ctl)(a1:Ctl):evalFn (cQ zvz zcu zF zG) (zB []) N 12 195 [.agg (zeb a0),.agg (zeb a1)]=zwv N a0 a1:=by kernel_rfl
theorem zLu (a0:Ctl)(a1:Ctl)(hb:zD big [.agg (zeb a0),.agg (zeb a1)])(hc:(zrX a0 a1)=true):∃N,zwv N a0 a1=some [.one (.b (zun a0 a1))]:=by
 have:=zI.1 hc;subst this;refine ⟨0,?_⟩;simp only [zwv, zhV,zbF,zb5,cT,cF,Bool.not_true,zun]
theorem zFZ:Holds Tryz.prog 195 ztA:=zn zk7 zbA zq zu (zC (by kernel_rfl)) fun avs rs hb h=>by
 unfold ztA at h;split at h
 ·obtain ⟨hc,rfl⟩:=zi h;exact (fin2 zLu zN1 hc hb :)
 ·cases h
def zoG (x y:GExit):Bool:=pc (x=y)
def zqk (_ _:GExit):Bool:=true
def zqT:List AV->Option (Bool×List AV)
 | [.agg [.i .i64 c,.i .i64 d,.b e,.i .i64 f],.agg [.i .i64 g,.i .i64 h,.b j,.i .i64 k]]=>some ((zoG (⟨c,d,e,f⟩:GExit) (⟨g,h,j,k⟩:GExit)),[.one (.b (zqk (⟨c,d,e,f⟩:GExit) (⟨g,h,j,k⟩:GExit)))])
 | _=>none
def zu1 (N:Nat)(a0:GExit)(a1:GExit):Option Ans :=
 (cond (ine a0.Kind a1.Kind) (some [(.one (.b false))]) (cond (ine a0.Page a1.Page) (some [(.one (.b false))]) (cond (cond (zeo a0.Write a1.Write) false true) (some [(.one (.b false))]) (cond (ine a0.N a1.N) (some [(.one (.b false))]) (some [(.one (.b true))])))))
theorem zL6 (N:Nat)(a0:GExit)(a1:GExit):evalFn (cQ zvz zcu zF zG) (zB []) N 12 196 [.agg (zcY a0),.agg (zcY a1)]=zu1 N a0 a1:=by kernel_rfl
theorem zJc (a0:GExit)(a1:GExit)(hb:zD big [.agg (zcY a0),.agg (zcY a1)])(hc:(zoG a0 a1)=true):∃N,zu1 N a0 a1=some [.one (.b (zqk a0 a1))]:=by
 have:=zI.1 hc;subst this;refine ⟨0,?_⟩;simp only [zu1, zhV,zbF,zb5,cT,cF,Bool.not_true,zqk]
theorem zDs:Holds Tryz.prog 196 zqT:=zn zk7 zbA zq zu (zC (by kernel_rfl)) fun avs rs hb h=>by
 unfold zqT at h;split at h
 ·obtain ⟨hc,rfl⟩:=zi h;exact (fin2 zJc zL6 hc hb :)
 ·cases h
def zeS (x y:List Int):Bool:=pc (x=y)
def zfS (_ _:List Int):Bool:=true
def zqV:List AV->Option (Bool×List AV)
 | [.one (.s .int c),.one (.s .int d)]=>some ((zeS c d),[.one (.b (zfS c d))])
 | _=>none
def zu4 (N:Nat)(a0 a1:List Int):Option Ans :=
 (cond (ine (ln a0) (ln a1)) (some [(.one (.b false))]) (iter (σ:=(Int×((List Int)×((List Int)×Unit)))) N (fun r3 s4=>(cond (ilt s4.1 (ln s4.2.1)) (cond (inb s4.1 (ln s4.2.1)) (cond (inb s4.1 (ln s4.2.2.1)) (cond (ine (ix s4.2.1 s4.1 0) (ix s4.2.2.1 s4.1 0)) (some [(.one (.b false))]) (r3 ((zy .i64 s4.1 1),(s4.2.1,(s4.2.2.1,()))))) none) none) (some [(.one (.b true))]))) (0,(a0,(a1,())))))
def zKU:FuncId->Nat->Option Tmpl:=zB [(70,0,{ n:=26,tm:=[(0,.sl 0 []),(1,.sl 1 []),(5,.i .i64)],lo:=[],ro:=[(0,.int,false),(1,.int,false)] })]
theorem zL8 (N:Nat)(a0 a1:List Int):evalFn (cQ zvz zcu zF zG) zKU N 12 70 [.one (.s .int a0),.one (.s .int a1)]=zu4 N a0 a1:=by kernel_rfl
theorem zJe (a0 a1:List Int)(hb:zD big [.one (.s .int a0),.one (.s .int a1)])(hc:(zeS a0 a1)=true):∃N,zu4 N a0 a1=some [.one (.b (zfS a0 a1))]:=by
 have:=zI.1 hc;subst this;have hl:=((zbw hb).1 _ (List.mem_singleton.2 rfl)).len;refine ⟨a0.length+1,?_⟩;unfold zu4;rw [zbF];refine zgo a0 zTB _ _ hl (fun i hi rec=>?_) (fun rec=>?_) (Nat.lt_succ_self _)
 ·simp only [zbr hi,zbn hi,zbx hi,zhV,zbF,zb5,cT,cF,Bool.not_true]
 ·simp only [zbe,cF,zfS]
theorem zDu:Holds Tryz.prog 70 zqV:=zn zk7 zbA zq zu (zC (by kernel_rfl)) fun avs rs hb h=>by
 unfold zqV at h;split at h
 ·obtain ⟨hc,rfl⟩:=zi h;exact (fin2 zJe zL8 hc hb :)
 ·cases h
def zAu:zbu:=[(215,zqW),(131,ztB),(195,ztA),(196,zqT),(70,zqV)]++zvz
theorem zvA:zbE zAu:=zl zDv (zl zF0 (zl zFZ (zl zDs (zl zDu zk7))))
def zih (x y:List Slot):Bool:=pc (x=y)
def zjx (_ _:List Slot):Bool:=true
def znS:List AV->Option (Bool×List AV)
 | [.one (.s .slot c),.one (.s .slot d)]=>some ((zih c d),[.one (.b (zjx c d))])
 | _=>none
def zsD (N:Nat)(a0 a1:List Slot):Option Ans :=
 (cond (ine (ln a0) (ln a1)) (some [(.one (.b false))]) (iter (σ:=(Int×((List Slot)×((List Slot)×Unit)))) N (fun r3 s4=>(cond (ilt s4.1 (ln s4.2.1)) (cond (inb s4.1 (ln s4.2.1)) (cond (inb s4.1 (ln s4.2.2.1)) (cond (zoH (ix s4.2.1 s4.1 zdl) (ix s4.2.2.1 s4.1 zdl)) (cond (cond (zql (ix s4.2.1 s4.1 zdl) (ix s4.2.2.1 s4.1 zdl)) false true) (some [(.one (.b false))]) (r3 ((zy .i64 s4.1 1),(s4.2.1,(s4.2.2.1,()))))) none) none) none) (some [(.one (.b true))]))) (0,(a0,(a1,())))))
def zHS:FuncId->Nat->Option Tmpl:=zB [(194,0,{ n:=27,tm:=[(0,.sl 0 []),(1,.sl 1 []),(5,.i .i64)],lo:=[],ro:=[(0,.slot,false),(1,.slot,false)] })]
theorem zJ6 (N:Nat)(a0 a1:List Slot):evalFn (cQ zAu zcu zF zG) zHS N 12 194 [.one (.s .slot a0),.one (.s .slot a1)]=zsD N a0 a1:=by kernel_rfl
theorem zGD (a0 a1:List Slot)(hb:zD big [.one (.s .slot a0),.one (.s .slot a1)])(hc:(zih a0 a1)=true):∃N,zsD N a0 a1=some [.one (.b (zjx a0 a1))]:=by
 have:=zI.1 hc;subst this;have hl:=((zbw hb).1 _ (List.mem_singleton.2 rfl)).len;refine ⟨a0.length+1,?_⟩;unfold zsD;rw [zbF];refine zgo a0 zdl _ _ hl (fun i hi rec=>?_) (fun rec=>?_) (Nat.lt_succ_self _)
 ·simp only [zbr hi,zbn hi,zbx hi,zoH,zql,zhV,zbF,zb5,cT,cF,Bool.not_true]
 ·simp only [zbe,cF,zjx]
theorem zBf:Holds Tryz.prog 194 znS:=zn zvA zbA zq zu (zC (by kernel_rfl)) fun avs rs hb h=>by
 unfold znS at h;split at h
 ·obtain ⟨hc,rfl⟩:=zi h;exact (fin2 zGD zJ6 hc hb :)
 ·cases h
def zhs (x y:List Ins):Bool:=pc (x=y)
def zi0 (_ _:List Ins):Bool:=true
def zqU:List AV->Option (Bool×List AV)
 | [.one (.s .ins c),.one (.s .ins d)]=>some ((zhs c d),[.one (.b (zi0 c d))])
 | _=>none
def zu3 (N:Nat)(a0 a1:List Ins):Option Ans :=
 (cond (ine (ln a0) (ln a1)) (some [(.one (.b false))]) (iter (σ:=(Int×((List Ins)×((List Ins)×Unit)))) N (fun r3 s4=>(cond (ilt s4.1 (ln s4.2.1)) (cond (inb s4.1 (ln s4.2.1)) (cond (inb s4.1 (ln s4.2.2.1)) (cond (zrY (ix s4.2.1 s4.1 zdK) (ix s4.2.2.1 s4.1 zdK)) (cond (cond (zuo (ix s4.2.1 s4.1 zdK) (ix s4.2.2.1 s4.1 zdK)) false true) (some [(.one (.b false))]) (r3 ((zy .i64 s4.1 1),(s4.2.1,(s4.2.2.1,()))))) none) none) none) (some [(.one (.b true))]))) (0,(a0,(a1,())))))
def zKT:FuncId->Nat->Option Tmpl:=zB [(71,0,{ n:=27,tm:=[(0,.sl 0 []),(1,.sl 1 []),(5,.i .i64)],lo:=[],ro:=[(0,.ins,false),(1,.ins,false)] })]
theorem zL7 (N:Nat)(a0 a1:List Ins):evalFn (cQ zAu zcu zF zG) zKT N 12 71 [.one (.s .ins a0),.one (.s .ins a1)]=zu3 N a0 a1:=by kernel_rfl
theorem zJd (a0 a1:List Ins)(hb:zD big [.one (.s .ins a0),.one (.s .ins a1)])(hc:(zhs a0 a1)=true):∃N,zu3 N a0 a1=some [.one (.b (zi0 a0 a1))]:=by
 have:=zI.1 hc;subst this;have hl:=((zbw hb).1 _ (List.mem_singleton.2 rfl)).len;refine ⟨a0.length+1,?_⟩;unfold zu3;rw [zbF];refine zgo a0 zdK _ _ hl (fun i hi rec=>?_) (fun rec=>?_) (Nat.lt_succ_self _)
 ·simp only [zbr hi,zbn hi,zbx hi,zrY,zuo,zhV,zbF,zb5,cT,cF,Bool.not_true]
 ·simp only [zbe,cF,zi0]
theorem zDt:Holds Tryz.prog 71 zqU:=zn zvA zbA zq zu (zC (by kernel_rfl)) fun avs rs hb h=>by
 unfold zqU at h;split at h
 ·obtain ⟨hc,rfl⟩:=zi h;exact (fin2 zJd zL7 hc hb :)
 ·cases h
def zmp (x y:List (List Int)):Bool:=pc (x=y)
def zmS (_ _:List (List Int)):Bool:=true
def znR:List AV->Option (Bool×List AV)
 | [.one (.s (.sl .int) c),.one (.s (.sl .int) d)]=>some ((zmp c d),[.one (.b (zmS c d))])
 | _=>none
def zsC (N:Nat)(a0:List (List Int))(a1:List (List Int)):Option Ans :=
 (cond (ine (ln a0) (ln a1)) (some [(.one (.b false))]) (iter (σ:=(Int×((List (List Int))×((List (List Int))×Unit)))) N (fun r3 s4=>(cond (ilt s4.1 (ln s4.2.1)) (cond (inb s4.1 (ln s4.2.1)) (cond (inb s4.1 (ln s4.2.2.1)) (cond (zeS (ix s4.2.1 s4.1 []) (ix s4.2.2.1 s4.1 [])) (cond (cond (zfS (ix s4.2.1 s4.1 []) (ix s4.2.2.1 s4.1 [])) false true) (some [(.one (.b false))]) (r3 ((zy .i64 s4.1 1),(s4.2.1,(s4.2.2.1,()))))) none) none) none) (some [(.one (.b true))]))) (0,(a0,(a1,())))))
def zHR:FuncId->Nat->Option Tmpl:=zB [(68,0,{ n:=27,tm:=[(0,.sl 0 []),(1,.sl 1 []),(5,.i .i64)],lo:=[],ro:=[(0,(.sl .int),false),(1,(.sl .int),false)] })]
theorem zJ5 (N:Nat)(a0:List (List Int))(a1:List (List Int)):evalFn (cQ zAu zcu zF zG) zHR N 12 68 [.one (.s (.sl .int) a0),.one (.s (.sl .int) a1)]=zsC N a0 a1:=by kernel_rfl
theorem zGC (a0:List (List Int))(a1:List (List Int))(hb:zD big [.one (.s (.sl .int) a0),.one (.s (.sl .int) a1)])(hc:(zmp a0 a1)=true):∃N,zsC N a0 a1=some [.one (.b (zmS a0 a1))]:=by
 have:=zI.1 hc;subst this;have hl:=((zbw hb).1 _ (List.mem_singleton.2 rfl)).len;refine ⟨a0.length+1,?_⟩;unfold zsC;rw [zbF];refine zgo a0 (Ty.dflt (.sl .int)) _ _ hl (fun i hi rec=>?_) (fun rec=>?_) (Nat.lt_succ_self _)
 ·simp only [zbr hi,zbn hi,zbx hi,zeS,zfS,zhV,zbF,zb5,cT,cF,Bool.not_true]
 ·simp only [zbe,cF,zmS]
theorem zBe:Holds Tryz.prog 68 znR:=zn zvA zbA zq zu (zC (by kernel_rfl)) fun avs rs hb h=>by
 unfold znR at h;split at h
 ·obtain ⟨hc,rfl⟩:=zi h;exact (fin2 zGC zJ5 hc hb :)
 ·cases h
def zNn:zbu:=[(194,znS),(71,zqU),(68,znR)]++zAu
theorem zIs:zbE zNn:=zl zBf (zl zDt (zl zBe zvA))
def zmn (x y:Guest):Bool:=pc (x=y)
def zmQ (_ _:Guest):Bool:=true
def znP:List AV->Option (Bool×List AV)
 | [.agg [.s .ins c,.i .i64 d,.i .i64 e,.s .slot f,.s .slot g,.i .i64 h,.i .i64 j,.b k,.i .i64 l,.i .i64 m,.i .i64 n,.b o,.i .i64 p,.b q,.s .int r],.agg [.s .ins t,.i .i64 u,.i .i64 v,.s .slot w,.s .slot x,.i .i64 y,.i .i64 z,.b ab,.i .i64 ac,.i .i64 ad,.i .i64 ae,.b af,.i .i64 ag,.b ah,.s .int ai]]=>some ((zmn (⟨c,d,e,f,g,⟨h,j,k⟩,l,⟨m,n,o,p⟩,q,r⟩:Guest) (⟨t,u,v,w,x,⟨y,z,ab⟩,ac,⟨ad,ae,af,ag⟩,ah,ai⟩:Guest)),[.one (.b (zmQ (⟨c,d,e,f,g,⟨h,j,k⟩,l,⟨m,n,o,p⟩,q,r⟩:Guest) (⟨t,u,v,w,x,⟨y,z,ab⟩,ac,⟨ad,ae,af,ag⟩,ah,ai⟩:Guest)))])
 | _=>none
def zsA (N:Nat)(a0 a1:Guest):Option Ans :=
 (cond (zhs a0.Prog a1.Prog) (cond (cond (zi0 a0.Prog a1.Prog) false true) (some [(.one (.b false))]) (cond (ine a0.A a1.A) (some [(.one (.b false))]) (cond (ine a0.Pc a1.Pc) (some [(.one (.b false))]) (cond (zih a0.Written a1.Written) (cond (cond (zjx a0.Written a1.Written) false true) (some [(.one (.b false))]) (cond (zih a0.Live a1.Live) (cond (cond (zjx a0.Live a1.Live) false true) (some [(.one (.b false))]) (cond (zrX a0.Ctl a1.Ctl) (cond (cond (zun a0.Ctl a1.Ctl) false true) (some [(.one (.b false))]) (cond (ine a0.Pending a1.Pending) (some [(.one (.b false))]) (cond (zoG a0.Exit a1.Exit) (cond (cond (zqk a0.Exit a1.Exit) false true) (some [(.one (.b false))]) (cond (cond (zeo a0.Halted a1.Halted) false true) (some [(.one (.b false))]) (cond (zeS a0.Seen a1.Seen) (cond (cond (zfS a0.Seen a1.Seen) false true) (some [(.one (.b false))]) (some [(.one (.b true))])) none))) none))) none)) none)) none)))) none)
theorem zJ3 (N:Nat)(a0 a1:Guest):evalFn (cQ zNn zcu zF zG) (zB []) N 12 130 [.agg (Ty.cells .guest a0),.agg (Ty.cells .guest a1)]=zsA N a0 a1:=by kernel_rfl
theorem zGA (a0 a1:Guest)(hb:zD big [.agg (Ty.cells .guest a0),.agg (Ty.cells .guest a1)])(hc:(zmn a0 a1)=true):∃N,zsA N a0 a1=some [.one (.b (zmQ a0 a1))]:=by
 have:=zI.1 hc;subst this;refine ⟨0,?_⟩;simp only [zsA,zhs,zih,zrX,zoG,zeS,zi0,zjx,zun,zqk,zfS,zhV,zbF,zb5,cT,cF,Bool.not_true,zmQ]
theorem zBc:Holds Tryz.prog 130 znP:=zn zIs zbA zq zu (zC (by kernel_rfl)) fun avs rs hb h=>by
 unfold znP at h;split at h
 ·obtain ⟨hc,rfl⟩:=zi h;exact (fin2 zGA zJ3 hc hb :)
 ·cases h
def zNo:zbu:=[(130,znP)]++zNn
theorem zIt:zbE zNo:=zl zBc zIs
def zj9 (x y:List Guest):Bool:=pc (x=y)
def zj8 (_ _:List Guest):Bool:=true
def zlD:List AV->Option (Bool×List AV)
 | [.one (.s .guest c),.one (.s .guest d)]=>some ((zj9 c d),[.one (.b (zj8 c d))])
 | _=>none
def zpx (N:Nat)(a0 a1:List Guest):Option Ans :=
 (cond (ine (ln a0) (ln a1)) (some [(.one (.b false))]) (iter (σ:=(Int×((List Guest)×((List Guest)×Unit)))) N (fun r3 s4=>(cond (ilt s4.1 (ln s4.2.1)) (cond (inb s4.1 (ln s4.2.1)) (cond (inb s4.1 (ln s4.2.2.1)) (cond (zmn (ix s4.2.1 s4.1 zo) (ix s4.2.2.1 s4.1 zo)) (cond (cond (zmQ (ix s4.2.1 s4.1 zo) (ix s4.2.2.1 s4.1 zo)) false true) (some [(.one (.b false))]) (r3 ((zy .i64 s4.1 1),(s4.2.1,(s4.2.2.1,()))))) none) none) none) (some [(.one (.b true))]))) (0,(a0,(a1,())))))
def zFb:FuncId->Nat->Option Tmpl:=zB [(69,0,{ n:=27,tm:=[(0,.sl 0 []),(1,.sl 1 []),(5,.i .i64)],lo:=[],ro:=[(0,.guest,false),(1,.guest,false)] })]
theorem zHm (N:Nat)(a0 a1:List Guest):evalFn (cQ zNo zcu zF zG) zFb N 12 69 [.one (.s .guest a0),.one (.s .guest a1)]=zpx N a0 a1:=by kernel_rfl
theorem zEe (a0 a1:List Guest)(hb:zD big [.one (.s .guest a0),.one (.s .guest a1)])(hc:(zj9 a0 a1)=true):∃N,zpx N a0 a1=some [.one (.b (zj8 a0 a1))]:=by
 have:=zI.1 hc;subst this;have hl:=((zbw hb).1 _ (List.mem_singleton.2 rfl)).len;refine ⟨a0.length+1,?_⟩;unfold zpx;rw [zbF];refine zgo a0 zo _ _ hl (fun i hi rec=>?_) (fun rec=>?_) (Nat.lt_succ_self _)
 ·simp only [zbr hi,zbn hi,zbx hi,zmn,zmQ,zhV,zbF,zb5,cT,cF,Bool.not_true]
 ·simp only [zbe,cF,zj8]
theorem zzj:Holds Tryz.prog 69 zlD:=zn zIt zbA zq zu (zC (by kernel_rfl)) fun avs rs hb h=>by
 unfold zlD at h;split at h
 ·obtain ⟨hc,rfl⟩:=zi h;exact (fin2 zEe zHm hc hb :)
 ·cases h
def zQY:zbu:=[(69,zlD)]++zNo
theorem zPN:zbE zQY:=zl zzj zIt
def zQZ:zbu:=zQY
theorem zPO:∀f run,zx zQZ f=some run->Holds Tryz.prog f run:=zPN
def zQ0:zbu:=zQZ
theorem zPP:∀f run,zx zQ0 f=some run->Holds Tryz.prog f run:=zPO
def zQ1:zbu:=zQ0
theorem zPQ:∀f run,zx zQ1 f=some run->Holds Tryz.prog f run:=zPP
def zCY:zbu:=zQ1
theorem zt9:∀f run,zx zCY f=some run->Holds Tryz.prog f run:=zPQ
def zN (_ _ _:Int):Bool:=true
def zT (x a b:Int):Bool:=ige x a&&ile x b
def ztM:List AV->Option (Bool×List AV)
 | [.one (.i .i64 c),.one (.i .i64 d),.one (.i .i64 e)]=>some ((zN c d e),[.one (.b (zT c d e))])
 | _=>none
def zwH (N:Nat)(a0 a1 a2:Int):Option Ans :=
 (cond (ige a0 a1) (some [(.one (.b (ile a0 a2)))]) (some [(.one (.b false))]))
theorem zOd (N:Nat)(a0 a1 a2:Int):evalFn (cQ zCY zcu zF zG) (zB []) N 12 45 [.one (.i .i64 a0),.one (.i .i64 a1),.one (.i .i64 a2)]=zwH N a0 a1 a2:=by kernel_rfl
theorem zLG (a0 a1 a2:Int)(hb:zD big [.one (.i .i64 a0),.one (.i .i64 a1),.one (.i .i64 a2)])(hc:(zN a0 a1 a2)=true):∃N,zwH N a0 a1 a2=some [.one (.b (zT a0 a1 a2))]:=by
 refine ⟨0,?_⟩;unfold zwH zT;cases ige a0 a1<;>rfl
theorem zGb:Holds Tryz.prog 45 ztM:=zn zt9 zbA zq zu (zC (by kernel_rfl)) fun avs rs hb h=>by
 unfold ztM at h;split at h
 ·obtain ⟨hc,rfl⟩:=zi h;exact (zd1 zLG zOd hc hb :)
 ·cases h
def zcF (_ _:Int):Bool:=true
@[reducible] def zda (i n:Int):Bool:=hasB i n
def zxr:List AV->Option (Bool×List AV)
 | [.one (.i .i64 c),.one (.i .i64 d)]=>some ((zcF c d),[.one (.b (zda c d))])
 | _=>none
def zCU (N:Nat)(a0 a1:Int):Option Ans :=
 (cond (ige a0 0) (some [(.one (.b (ilt a0 a1)))]) (some [(.one (.b false))]))
theorem zQs (N:Nat)(a0 a1:Int):evalFn (cQ zCY zcu zF zG) (zB []) N 12 65 [.one (.i .i64 a0),.one (.i .i64 a1)]=zCU N a0 a1:=by kernel_rfl
theorem zO0 (a0 a1:Int)(hb:zD big [.one (.i .i64 a0),.one (.i .i64 a1)])(hc:(zcF a0 a1)=true):∃N,zCU N a0 a1=some [.one (.b (zda a0 a1))]:=by
 refine ⟨0,?_⟩;unfold zCU zda;rw [<- has_eq];cases ige a0 0<;>rfl
theorem zLh:Holds Tryz.prog 65 zxr:=zn zt9 zbA zq zu (zC (by kernel_rfl)) fun avs rs hb h=>by
 unfold zxr at h;split at h
 ·obtain ⟨hc,rfl⟩:=zi h;exact (fin2 zO0 zQs hc hb :)
 ·cases h
theorem zFz {n:Nat}(hn:n<=big)(i:Int):zT i 0 (wsub .i64 (n:Int) 1)=hasB i n:=by
 rw [zo4] at hn;rw [zx1 (by omega) (by omega)]
 unfold zT ige ile hasB
 by_cases h1:0<=i<;>by_cases h2:i<n
 ·rw [decide_eq_true (p:=i≥0) (by omega),decide_eq_true (p:=i<=(n:Int)-1) (by omega),decide_eq_true (p:=0<=i/\i<(n:Int)) ⟨h1,h2⟩];rfl
 ·rw [decide_eq_false (p:=i<=(n:Int)-1) (by omega),decide_eq_false (p:=0<=i/\i<(n:Int)) (by omega)];simp
 ·rw [decide_eq_false (p:=i≥0) (by omega),decide_eq_false (p:=0<=i/\i<(n:Int)) (by omega)];simp
 ·rw [decide_eq_false (p:=i≥0) (by omega),decide_eq_false (p:=0<=i/\i<(n:Int)) (by omega)];simp
def ziz (l:List (List Int)):Bool:=pc (CVB sm (.s (.sl .int) l))
@[reducible] def zel (l:List (List Int)):List (List Int):=l
def zod:List AV->Option (Bool×List AV)
 | [.one (.s (.sl .int) b)]=>some ((ziz b),[.one (.s (.sl .int) (zel b))])
 | _=>none
def zs3 (N:Nat)(a0:List (List Int)):Option Ans :=
 (iter (σ:=(Int×((List (List Int))×((List (List Int))×Unit)))) N (fun r2 s3=>(cond (ilt s3.1 (ln s3.2.1)) (cond (inb s3.1 (ln s3.2.1)) (cond (few (ln (ap [] (ix s3.2.1 s3.1 [])))) (cond (few (ln (ap s3.2.2.1 [(ap [] (ix s3.2.1 s3.1 []))]))) (r2 ((zy .i64 s3.1 1),(s3.2.1,((ap s3.2.2.1 [(ap [] (ix s3.2.1 s3.1 []))]),())))) none) none) none) (some [(.one (.s (.sl .int) s3.2.2.1))]))) (0,(a0,([],()))))
def zHY:FuncId->Nat->Option Tmpl:=zB [(133,0,{ n:=22,tm:=[(0,.sl 0 []),(3,.sl 1 []),(4,.i .i64)],lo:=[],ro:=[(0,(.sl .int),false),(1,(.sl .int),true)] })]
theorem zKs (N:Nat)(a0:List (List Int)):evalFn (cQ zCY zcu zF zG) zHY N 12 133 [.one (.s (.sl .int) a0)]=zs3 N a0:=by kernel_rfl
theorem zGZ (a0:List (List Int))(hb:zD big [.one (.s (.sl .int) a0)])(hc:(ziz a0)=true):∃N,zs3 N a0=some [.one (.s (.sl .int) (zel a0))]:=by
 have hs:=zI.1 hc;have hl:=zcP hs.len;refine ⟨a0.length+1,?_⟩;unfold zs3;refine (zbI a0 (fun i acc=>((i:Int),(a0,(acc,())))) _ (fun _ x acc k=>bif few (ln x) then (cond (few (ln (ap acc [x]))) (k (ap acc [x])) none) else none) (fun acc=>some [AV.one (.s (.sl .int) acc)])
  (fun i hi t rec=>?_) (fun t rec=>?_) _ [] (Nat.lt_succ_self _)).trans ((ziU (fun x=>few (ln x)) (fun x=>x) _ a0 0 [] (fun x hx=>⟨zfi (zcP (hs.inv.2 x hx _ (List.mem_singleton.2 rfl)).len).2,rfl⟩) (by simpa using hl.2)))
 ·simp only [zbr hi,zbn hi,zbx hi,cT,zbt hi hl.1,zAm]
 ·simp only [zbe,cF]
theorem zBA:Holds Tryz.prog 133 zod:=zn zt9 zbA zq zu (zC (by kernel_rfl)) fun avs rs hb h=>by
 unfold zod at h;split at h
 ·obtain ⟨hc,rfl⟩:=zi h;exact (fin1 zGZ zKs hc hb :)
 ·cases h
def zcn (g:Guest):Bool:=pc (∀c∈Ty.cells .guest g,CVB sm c)
@[reducible] def zbQ (g:Guest):Guest:=g
def zoe:List AV->Option (Bool×List AV)
 | [.agg [.s .ins c,.i .i64 d,.i .i64 e,.s .slot f,.s .slot g,.i .i64 h,.i .i64 j,.b k,.i .i64 l,.i .i64 m,.i .i64 n,.b o,.i .i64 p,.b q,.s .int r]]=>some ((zcn (⟨c,d,e,f,g,⟨h,j,k⟩,l,⟨m,n,o,p⟩,q,r⟩:Guest)),[.agg (Ty.cells .guest (zbQ (⟨c,d,e,f,g,⟨h,j,k⟩,l,⟨m,n,o,p⟩,q,r⟩:Guest)))])
 | _=>none
def zs4 (N:Nat)(a0:Guest):Option Ans :=
 (cond (few (ln (ap [] a0.Prog))) (cond (few (ln (ap [] a0.Written))) (cond (few (ln (ap [] a0.Live))) (cond (few (ln (ap [] a0.Seen))) (some [(.agg [(.s .ins (ap [] a0.Prog)),(.i .i64 a0.A),(.i .i64 a0.Pc),(.s .slot (ap [] a0.Written)),(.s .slot (ap [] a0.Live)),(.i .i64 a0.Ctl.Traps),(.i .i64 a0.Ctl.Post),(.b a0.Ctl.Open),(.i .i64 a0.Pending),(.i .i64 a0.Exit.Kind),(.i .i64 a0.Exit.Page),(.b a0.Exit.Write),(.i .i64 a0.Exit.N),(.b a0.Halted),(.s .int (ap [] a0.Seen))])]) none) none) none) none)
theorem zKt (N:Nat)(a0:Guest):evalFn (cQ zCY zcu zF zG) (zB []) N 12 135 [.agg (Ty.cells .guest a0)]=zs4 N a0:=by kernel_rfl
theorem zG0 (a0:Guest)(hb:zD big [.agg (Ty.cells .guest a0)])(hc:(zcn a0)=true):∃N,zs4 N a0=some [.agg (Ty.cells .guest (zbQ a0))]:=by
 have h:=zI.1 hc;have h1:=zAE (h (.s .ins a0.Prog) (by simp [Ty.cells]))
 have h2:=zAE (h (.s .slot a0.Written) (by simp [Ty.cells]))
 have h3:=zAE (h (.s .slot a0.Live) (by simp [Ty.cells]))
 have h4:=zAE (h (.s .int a0.Seen) (by simp [Ty.cells]))
 refine ⟨0,?_⟩;simp only [zs4,zAm,h1,h2,h3,h4,cT];rfl
theorem zBB:Holds Tryz.prog 135 zoe:=zn zt9 zbA zq zu (zC (by kernel_rfl)) fun avs rs hb h=>by
 unfold zoe at h;split at h
 ·obtain ⟨hc,rfl⟩:=zi h;exact (fin1 zG0 zKt hc hb :)
 ·cases h
def zNp:zbu:=[(45,ztM),(65,zxr),(133,zod),(135,zoe)]++zCY
theorem zIu:zbE zNp:=zl zGb (zl zLh (zl zBA (zl zBB zt9)))
def ziS (l:List Guest):Bool:=pc (CVB sm (.s .guest l))
@[reducible] def zmC (l:List Guest):List Guest:=l
def zkE:List AV->Option (Bool×List AV)
 | [.one (.s .guest b)]=>some ((ziS b),[.one (.s .guest (zmC b))])
 | _=>none
def znl (N:Nat)(a0:List Guest):Option Ans :=
 (iter (σ:=(Int×((List Guest)×((List Guest)×Unit)))) N (fun r2 s3=>(cond (ilt s3.1 (ln s3.2.1)) (cond (inb s3.1 (ln s3.2.1)) (cond (zcn (ix s3.2.1 s3.1 zo)) (cond (few (ln (ap s3.2.2.1 [(zbQ (ix s3.2.1 s3.1 zo))]))) (r2 ((zy .i64 s3.1 1),(s3.2.1,((ap s3.2.2.1 [(zbQ (ix s3.2.1 s3.1 zo))]),())))) none) none) none) (some [(.one (.s .guest s3.2.2.1))]))) (0,(a0,([],()))))
def zCR:FuncId->Nat->Option Tmpl:=zB [(134,0,{ n:=21,tm:=[(0,.sl 0 []),(3,.sl 1 []),(4,.i .i64)],lo:=[],ro:=[(0,.guest,false),(1,.guest,true)] })]
theorem zE2 (N:Nat)(a0:List Guest):evalFn (cQ zNp zcu zF zG) zCR N 12 134 [.one (.s .guest a0)]=znl N a0:=by kernel_rfl
theorem zB2 (a0:List Guest)(hb:zD big [.one (.s .guest a0)])(hc:(ziS a0)=true):∃N,znl N a0=some [.one (.s .guest (zmC a0))]:=by
 have hs:=zI.1 hc;have hl:=zcP hs.len;refine ⟨a0.length+1,?_⟩;unfold znl;refine (zbI a0 (fun i acc=>((i:Int),(a0,(acc,())))) _ (fun _ x acc k=>bif zcn x then (cond (few (ln (ap acc [zbQ x]))) (k (ap acc [zbQ x])) none) else none) (fun acc=>some [AV.one (.s .guest acc)])
  (fun i hi t rec=>?_) (fun t rec=>?_) _ [] (Nat.lt_succ_self _)).trans ((ziU zcn zbQ _ a0 0 [] (fun x hx=>⟨zbb (hs.inv.2 x hx),rfl⟩) (by simpa using hl.2)))
 ·simp only [zbr hi,zbn hi,zbx hi,cT,zbt hi hl.1]
 ·simp only [zbe,cF]
theorem zym:Holds Tryz.prog 134 zkE:=zn zIu zbA zq zu (zC (by kernel_rfl)) fun avs rs hb h=>by
 unfold zkE at h;split at h
 ·obtain ⟨hc,rfl⟩:=zi h;exact (fin1 zB2 zE2 hc hb :)
 ·cases h
def zQ2:zbu:=[(134,zkE)]++zNp
theorem zPT:zbE zQ2:=zl zym zIu
def zQ3:zbu:=zQ2
theorem zPU:∀f run,zx zQ3 f=some run->Holds Tryz.prog f run:=zPT
def zQ4:zbu:=zQ3
theorem zPV:∀f run,zx zQ4 f=some run->Holds Tryz.prog f run:=zPU
def zQ5:zbu:=zQ4
theorem zPW:∀f run,zx zQ5 f=some run->Holds Tryz.prog f run:=zPV
def zyY:zbu:=zQ5
theorem zo6:∀f run,zx zyY f=some run->Holds Tryz.prog f run:=zPW
def noSlot:Slot:=⟨-1,0⟩
def zhJ:Bool:=true
@[reducible] def zfY:Slot:=noSlot
def zq9:List AV->Option (Bool×List AV)
 | []=>some (zhJ,[.agg (Ty.cells .slot zfY)])
 | _=>none
def zAi (N:Nat)  : Option Ans :=
 (some [(.agg [(.i .i64 (-1)),(.i .i64 0)])])
theorem zMn (N:Nat)  : evalFn (cQ zyY zcu zF zG) (zB []) N 12 132 []=zAi N:=by kernel_rfl
theorem zJt  (hb:zD big []) (hc:zhJ=true):∃N,zAi N  = some [.agg (Ty.cells .slot zfY)]:=by
 exact ⟨0,rfl⟩
theorem zDI:Holds Tryz.prog 132 zq9:=zn zo6 zbA zq zu (zC (by kernel_rfl)) fun avs rs hb h=>by
 unfold zq9 at h;split at h
 ·obtain ⟨hc,rfl⟩:=zi h;exact (fin0 zJt zMn hc hb :)
 ·cases h
def zjZ:Bool:=true
@[reducible] def ziW:Slot:=noSlot
def zqF:List AV->Option (Bool×List AV)
 | []=>some (zjZ,[.agg (Ty.cells .slot ziW)])
 | _=>none
def zAg (N:Nat)  : Option Ans :=
 (some [(.agg [(.i .i64 (-1)),(.i .i64 0)])])
theorem zLS (N:Nat)  : evalFn (cQ zyY zcu zF zG) (zB []) N 12 151 []=zAg N:=by kernel_rfl
theorem zIY  (hb:zD big []) (hc:zjZ=true):∃N,zAg N  = some [.agg (Ty.cells .slot ziW)]:=by
 exact ⟨0,rfl⟩
theorem zDe:Holds Tryz.prog 151 zqF:=zn zo6 zbA zq zu (zC (by kernel_rfl)) fun avs rs hb h=>by
 unfold zqF at h;split at h
 ·obtain ⟨hc,rfl⟩:=zi h;exact (fin0 zIY zLS hc hb :)
 ·cases h
def zQ (_ _ _:Int):Bool:=true
def zX (x a b:Int):Bool:=ige x a&&ile x b
def zqQ:List AV->Option (Bool×List AV)
 | [.one (.i .i64 c),.one (.i .i64 d),.one (.i .i64 e)]=>some ((zQ c d e),[.one (.b (zX c d e))])
 | _=>none
def zuY (N:Nat)(a0 a1 a2:Int):Option Ans :=
 (cond (ige a0 a1) (some [(.one (.b (ile a0 a2)))]) (some [(.one (.b false))]))
theorem zL3 (N:Nat)(a0 a1 a2:Int):evalFn (cQ zyY zcu zF zG) (zB []) N 12 113 [.one (.i .i64 a0),.one (.i .i64 a1),.one (.i .i64 a2)]=zuY N a0 a1 a2:=by kernel_rfl
theorem zI9 (a0 a1 a2:Int)(hb:zD big [.one (.i .i64 a0),.one (.i .i64 a1),.one (.i .i64 a2)])(hc:(zQ a0 a1 a2)=true):∃N,zuY N a0 a1 a2=some [.one (.b (zX a0 a1 a2))]:=by
 refine ⟨0,?_⟩;unfold zuY zX;cases ige a0 a1<;>rfl
theorem zDp:Holds Tryz.prog 113 zqQ:=zn zo6 zbA zq zu (zC (by kernel_rfl)) fun avs rs hb h=>by
 unfold zqQ at h;split at h
 ·obtain ⟨hc,rfl⟩:=zi h;exact (zd1 zI9 zL3 hc hb :)
 ·cases h
def zH2:zbu:=[(132,zq9),(151,zqF),(113,zqQ)]++zyY
theorem zyV:zbE zH2:=zl zDI (zl zDe (zl zDp zo6))
def zez (r:Int):Bool:=ige r 0&&ile r 3
def zkM (_:Int):Bool:=true
@[reducible] def zhL (r:Int):Bool:=zez r
def zlS:List AV->Option (Bool×List AV)
 | [.one (.i .i64 c)]=>some ((zkM c),[.one (.b (zhL c))])
 | _=>none
def zwF (N:Nat)(a0:Int):Option Ans :=
 (cond (zN a0 0 3) (some [(.one (.b (zT a0 0 3)))]) none)
theorem zHF (N:Nat)(a0:Int):evalFn (cQ zH2 zcu zF zG) (zB []) N 12 201 [.one (.i .i64 a0)]=zwF N a0:=by kernel_rfl
theorem zEx (a0:Int)(hb:zD big [.one (.i .i64 a0)])(hc:(zkM a0)=true):∃N,zwF N a0=some [.one (.b (zhL a0))]:=by
 exact ⟨0,rfl⟩
theorem zzC:Holds Tryz.prog 201 zlS:=zn zyV zbA zq zu (zC (by kernel_rfl)) fun avs rs hb h=>by
 unfold zlS at h;split at h
 ·obtain ⟨hc,rfl⟩:=zi h;exact (fin1 zEx zHF hc hb :)
 ·cases h
def zj0 (_:Int):Bool:=true
@[reducible] def zhn (r:Int):Bool:=zez r
def zlv:List AV->Option (Bool×List AV)
 | [.one (.i .i64 c)]=>some ((zj0 c),[.one (.b (zhn c))])
 | _=>none
def zwr (N:Nat)(a0:Int):Option Ans :=
 (cond (zQ a0 0 3) (some [(.one (.b (zX a0 0 3)))]) none)
theorem zHf (N:Nat)(a0:Int):evalFn (cQ zH2 zcu zF zG) (zB []) N 12 223 [.one (.i .i64 a0)]=zwr N a0:=by kernel_rfl
theorem zD7 (a0:Int)(hb:zD big [.one (.i .i64 a0)])(hc:(zj0 a0)=true):∃N,zwr N a0=some [.one (.b (zhn a0))]:=by
 exact ⟨0,rfl⟩
theorem zzb:Holds Tryz.prog 223 zlv:=zn zyV zbA zq zu (zC (by kernel_rfl)) fun avs rs hb h=>by
 unfold zlv at h;split at h
 ·obtain ⟨hc,rfl⟩:=zi h;exact (fin1 zD7 zHf hc hb :)
 ·cases h
def zxJ:zbu:=[(201,zlS),(223,zlv)]++zH2
theorem zpY:zbE zxJ:=zl zzC (zl zzb zyV)
def enough (a b:Int):Bool:=bif zez a then (cond (zez b) (ieq (wand .i64 a b) b) false) else false
def zvZ (_ _:Int):Bool:=true
@[reducible] def zrr (a b:Int):Bool:=enough a b
def zq4:List AV->Option (Bool×List AV)
 | [.one (.i .i64 c),.one (.i .i64 d)]=>some ((zvZ c d),[.one (.b (zrr c d))])
 | _=>none
def zve (N:Nat)(a0 a1:Int):Option Ans :=
 (cond (zkM a0) (cond (zhL a0) (cond (zkM a1) (cond (zhL a1) (some [(.one (.b (ieq (wand .i64 a0 a1) a1)))]) (some [(.one (.b false))])) none) (some [(.one (.b false))])) none)
theorem zMi (N:Nat)(a0 a1:Int):evalFn (cQ zxJ zcu zF zG) (zB []) N 12 142 [.one (.i .i64 a0),.one (.i .i64 a1)]=zve N a0 a1:=by kernel_rfl
theorem zJo (a0 a1:Int)(hb:zD big [.one (.i .i64 a0),.one (.i .i64 a1)])(hc:(zvZ a0 a1)=true):∃N,zve N a0 a1=some [.one (.b (zrr a0 a1))]:=by
 refine ⟨0,?_⟩;unfold zve zrr enough zhL;cases zez a0<;>cases zez a1<;>rfl
theorem zDD:Holds Tryz.prog 142 zq4:=zn zpY zbA zq zu (zC (by kernel_rfl)) fun avs rs hb h=>by
 unfold zq4 at h;split at h
 ·obtain ⟨hc,rfl⟩:=zi h;exact (fin2 zJo zMi hc hb :)
 ·cases h
def zvM (_ _:Int):Bool:=true
@[reducible] def zqc (a b:Int):Bool:=enough a b
def zqz:List AV->Option (Bool×List AV)
 | [.one (.i .i64 c),.one (.i .i64 d)]=>some ((zvM c d),[.one (.b (zqc c d))])
 | _=>none
def zuJ (N:Nat)(a0 a1:Int):Option Ans :=
 (cond (zj0 a0) (cond (zhn a0) (cond (zj0 a1) (cond (zhn a1) (some [(.one (.b (ieq (wand .i64 a0 a1) a1)))]) (some [(.one (.b false))])) none) (some [(.one (.b false))])) none)
theorem zLM (N:Nat)(a0 a1:Int):evalFn (cQ zxJ zcu zF zG) (zB []) N 12 209 [.one (.i .i64 a0),.one (.i .i64 a1)]=zuJ N a0 a1:=by kernel_rfl
theorem zIS (a0 a1:Int)(hb:zD big [.one (.i .i64 a0),.one (.i .i64 a1)])(hc:(zvM a0 a1)=true):∃N,zuJ N a0 a1=some [.one (.b (zqc a0 a1))]:=by
 refine ⟨0,?_⟩;unfold zuJ zqc enough zhn;cases zez a0<;>cases zez a1<;>rfl
theorem zC8:Holds Tryz.prog 209 zqz:=zn zpY zbA zq zu (zC (by kernel_rfl)) fun avs rs hb h=>by
 unfold zqz at h;split at h
 ·obtain ⟨hc,rfl⟩:=zi h;exact (fin2 zIS zLM hc hb :)
 ·cases h
def ziA (t:List Slot)(p:Int):Slot:=bif hasB p (ln t) then ix t p zdl else noSlot
def zoY (_:List Slot)(_:Int):Bool:=true
@[reducible] def zfb (t:List Slot)(p:Int):Slot:=ziA t p
def zrf:List AV->Option (Bool×List AV)
 | [.one (.s .slot b),.one (.i .i64 c)]=>some ((zoY b c),[.agg (Ty.cells .slot (zfb b c))])
 | _=>none
def zvm (N:Nat)(a0:List Slot)(a1:Int):Option Ans :=
 (cond (zN a1 0 (wsub .i64 (ln a0) 1)) (cond (cond (zT a1 0 (wsub .i64 (ln a0) 1)) false true) (cond zhJ (some [(.agg [(.i .i64 zfY.Page),(.i .i64 zfY.Rights)])]) none) (cond (inb a1 (ln a0)) (some [(.agg [(.i .i64 (ix a0 a1 zdl).Page),(.i .i64 (ix a0 a1 zdl).Rights)])]) none)) none)
theorem zMs (N:Nat)(a0:List Slot)(a1:Int):evalFn (cQ zxJ zcu zF zG) (zB []) N 12 101 [.one (.s .slot a0),.one (.i .i64 a1)]=zvm N a0 a1:=by kernel_rfl
theorem zJy (a0:List Slot)(a1:Int)(hb:zD big [.one (.s .slot a0),.one (.i .i64 a1)])(hc:(zoY a0 a1)=true):∃N,zvm N a0 a1=some [.agg (Ty.cells .slot (zfb a0 a1))]:=by
 have hl:=((zbw hb).1 _ (List.mem_singleton.2 rfl)).len;refine ⟨0,?_⟩;unfold zvm zfb ziA;have e:zT a1 0 (wsub .i64 (ln a0) 1)=hasB a1 (ln a0):=zNJ hl a1;rw [e];cases hh:hasB a1 (ln a0)
 ·rfl
 ·rw [zM2 hh];rfl
theorem zDN:Holds Tryz.prog 101 zrf:=zn zpY zbA zq zu (zC (by kernel_rfl)) fun avs rs hb h=>by
 unfold zrf at h;split at h
 ·obtain ⟨hc,rfl⟩:=zi h;exact (fin2 zJy zMs hc hb :)
 ·cases h
def zoy (_:List Slot)(_:Int):Bool:=true
@[reducible] def zet (t:List Slot)(p:Int):Slot:=ziA t p
def zqK:List AV->Option (Bool×List AV)
 | [.one (.s .slot b),.one (.i .i64 c)]=>some ((zoy b c),[.agg (Ty.cells .slot (zet b c))])
 | _=>none
def zuS (N:Nat)(a0:List Slot)(a1:Int):Option Ans :=
 (cond (zcF a1 (ln a0)) (cond (cond (zda a1 (ln a0)) false true) (cond zjZ (some [(.agg [(.i .i64 ziW.Page),(.i .i64 ziW.Rights)])]) none) (cond (inb a1 (ln a0)) (some [(.agg [(.i .i64 (ix a0 a1 zdl).Page),(.i .i64 (ix a0 a1 zdl).Rights)])]) none)) none)
theorem zLX (N:Nat)(a0:List Slot)(a1:Int):evalFn (cQ zxJ zcu zF zG) (zB []) N 12 182 [.one (.s .slot a0),.one (.i .i64 a1)]=zuS N a0 a1:=by kernel_rfl
theorem zI3 (a0:List Slot)(a1:Int)(hb:zD big [.one (.s .slot a0),.one (.i .i64 a1)])(hc:(zoy a0 a1)=true):∃N,zuS N a0 a1=some [.agg (Ty.cells .slot (zet a0 a1))]:=by
 refine ⟨0,?_⟩;unfold zuS zet ziA zda;cases hh:hasB a1 (ln a0)
 ·rfl
 ·rw [zM2 hh];rfl
theorem zDj:Holds Tryz.prog 182 zqK:=zn zpY zbA zq zu (zC (by kernel_rfl)) fun avs rs hb h=>by
 unfold zqK at h;split at h
 ·obtain ⟨hc,rfl⟩:=zi h;exact (fin2 zI3 zLX hc hb :)
 ·cases h
def zQ6:zbu:=[(142,zq4),(209,zqz),(101,zrf),(182,zqK)]++zxJ
theorem zPX:zbE zQ6:=zl zDD (zl zC8 (zl zDN (zl zDj zpY)))
def zxy (a b:Slot):Bool:=ieq a.Page b.Page&&ieq a.Rights b.Rights
def zQ7:zbu:=zQ6
theorem zPY:∀f run,zx zQ7 f=some run->Holds Tryz.prog f run:=zPX
def zQ8:zbu:=zQ7
theorem zPZ:∀f run,zx zQ8 f=some run->Holds Tryz.prog f run:=zPY
def zQ9:zbu:=zQ8
theorem zP0:∀f run,zx zQ9 f=some run->Holds Tryz.prog f run:=zPZ
def zSK:zbu:=zQ9
theorem zRR:∀f run,zx zSK f=some run->Holds Tryz.prog f run:=zP0
theorem hE (h:Host):(⟨h.Memory,h.Mons,h.Buffer,h.IoBuffer⟩:Host)=h:=rfl
def idxs {α:Type}(p:α->Bool):List α->Nat->List Int
 | [],_=>[]
 | x :: l,i=>bif p x then (i:Int) :: idxs p l (i+1) else idxs p l (i+1)
theorem zzI {α:Type}(p:α->Bool):∀(l:List α) (i:Nat),(idxs p l i).length<=l.length
 | [],_=>Nat.le_refl _
 | x :: l,i=>by
  have:=zzI p l (i+1);simp only [idxs];cases p x<;>simp<;>omega
theorem zvL {α ρ:Type}(p:α->Bool)(K:List Int->Option ρ):∀(l:List α) (i:Nat) (acc:List Int),acc.length+l.length<=2147483648 ->
 goL (fun i x acc k=>bif p x then (cond (few (ln (ap acc [(i:Int)]))) (k (ap acc [(i:Int)])) none) else k acc) K l i acc=K (acc++idxs p l i)
 | [],i,acc,_=>by simp [goL,idxs]
 | x :: l,i,acc,h=>by
  simp only [List.length_cons] at h;simp only [goL,idxs];cases p x
  ·simp only [cF];exact zvL p K l (i+1) acc (by omega)
  ·simp only [cT];rw [zfi (by simp [ap];omega),cT,zvL p K l (i+1) _ (by simp [ap];omega)]
   simp [ap]
def zRa:zbu:=zSK
theorem zP1:∀f run,zx zRa f=some run->Holds Tryz.prog f run:=zRR
def zRb:zbu:=zRa
theorem zP2:∀f run,zx zRb f=some run->Holds Tryz.prog f run:=zP1
def zNr:zbu:=zRb
theorem zIx:∀f run,zx zNr f=some run->Holds Tryz.prog f run:=zP2
def zdO (l:List Int):Bool:=pc (l.length<=2147483648)
@[reducible] def zdH (l:List Int):List Int:=l
def zlB:List AV->Option (Bool×List AV)
 | [.one (.s .int b)]=>some ((zdO b),[.one (.s .int (zdH b))])
 | _=>none
def zpv (N:Nat)(a0:List Int):Option Ans :=
 (cond (few (ln (ap [] a0))) (some [(.one (.s .int (ap [] a0)))]) none)
theorem zHk (N:Nat)(a0:List Int):evalFn (cQ zNr zcu zF zG) (zB []) N 12 129 [.one (.s .int a0)]=zpv N a0:=by kernel_rfl
theorem zEc (a0:List Int)(hb:zD big [.one (.s .int a0)])(hc:(zdO a0)=true):∃N,zpv N a0=some [.one (.s .int (zdH a0))]:=by
 refine ⟨0,?_⟩;unfold zpv;rw [zAm,zfi (zI.1 hc),cT]
theorem zzh:Holds Tryz.prog 129 zlB:=zn zIx zbA zq zu (zC (by kernel_rfl)) fun avs rs hb h=>by
 unfold zlB at h;split at h
 ·obtain ⟨hc,rfl⟩:=zi h;exact (fin1 zEc zHk hc hb :)
 ·cases h
def zRc:zbu:=[(129,zlB)]++zNr
theorem zP3:zbE zRc:=zl zzh zIx
def zRd:zbu:=zRc
theorem zP4:∀f run,zx zRd f=some run->Holds Tryz.prog f run:=zP3
def zRe:zbu:=zRd
theorem zP5:∀f run,zx zRe f=some run->Holds Tryz.prog f run:=zP4
def zRf:zbu:=zRe
theorem zP6:∀f run,zx zRf f=some run->Holds Tryz.prog f run:=zP5
def zhR:zbu:=zRf
theorem zdx:∀f run,zx zhR f=some run->Holds Tryz.prog f run:=zP6
def mkB:Int:=4611686018427387904
section
variable {α:Type}
def mcL (m:α->Int):List α->Int
 | []=>0
 | x :: l=>m x+mcL m l
def mkL (f:α->Int->α)(nx:α->Int->Int):List α->Int->List α
 | [],_=>[]
 | x :: l,k=>f x k :: mkL f nx l (nx x k)
def enL (nx:α->Int->Int):List α->Int->Int
 | [],k=>k
 | x :: l,k=>enL nx l (nx x k)
structure Mk (f:α->Int->α) (nx:α->Int->Int) (m:α->Int):Prop where
 nn:∀x,0<=m x
 nx:∀x k,nx x k=k+m x
 f2:∀x k,f (f x k) k=f x k
 m2:∀x k,m (f x k)=m x
variable {f:α->Int->α} {nx:α->Int->Int} {m:α->Int}
theorem zcz (h:∀x,0<=m x):∀l:List α,0<=mcL m l
 | []=>Int.le_refl _
 | x :: l=>by
  have h1:=h x;have h2:=zcz h l;simp only [mcL];omega
theorem zb6 (h:∀x k,nx x k=k+m x):∀(l:List α) (k:Int),enL nx l k=k+mcL m l
 | [],k=>by simp [enL,mcL]
 | x :: l,k=>by
  have h2:=zb6 h l (nx x k);simp only [enL,mcL];rw [h2,h];omega
theorem zfe (h:Mk f nx m):∀(l:List α) (k:Int),mcL m (mkL f nx l k)=mcL m l
 | [],_=>rfl
 | x :: l,k=>by simp only [mkL,mcL,zfe h l,h.m2]
theorem zoP (h:Mk f nx m):∀(l:List α) (k:Int),mkL f nx (mkL f nx l k) k=mkL f nx l k
 | [],_=>rfl
 | x :: l,k=>by
  have e:nx (f x k) k=nx x k:=by rw [h.nx,h.nx,h.m2]
  simp only [mkL,h.f2,e,zoP h l]
theorem Mk.list (h:Mk f nx m):Mk (fun l k=>mkL f nx l k) (fun l k=>enL nx l k) (fun l=>mcL m l) :=
 ⟨fun l=>zcz h.nn l,fun l k=>zb6 h.nx l k,fun l k=>zoP h l k,fun l k=>zfe h l k⟩
theorem zef {ρ:Type}(h:Mk f nx m)(F:(Int×Int×List α×Unit->Option ρ)->Int×Int×List α×Unit->Option ρ)(K:Int->List α->Option ρ)(hstep:∀(i:Nat) (L:List α) (hi:i<L.length) (k:Int) (rec:Int×Int×List α×Unit->Option ρ),0<=k->k+m L[i]<=mkB->L.length<=big->F rec (k,(i:Int),L,())=rec (nx L[i] k,((i+1:Nat):Int),L.set i (f L[i] k),()))(hend:∀(L:List α) (k:Int) (rec:Int×Int×List α×Unit->Option ρ),F rec (k,(L.length:Int),L,())=K k L) :
 ∀(l:List α) (k:Int) (N:Nat),l.length<=big->0<=k->k+mcL m l<=mkB->l.length<N->iter N F (k,0,l,())=K (enL nx l k) (mkL f nx l k):=by
 have key:∀(rest done:List α) (k:Int) (N:Nat),(done++rest).length<=big->0<=k->k+mcL m rest<=mkB->rest.length<N->iter N F (k,(done.length:Int),done++rest,())=K (enL nx rest k) (done++mkL f nx rest k):=by
  intro rest
  induction rest with
  | nil =>
   intro done k N hl h0 h1 hN;obtain ⟨n,rfl⟩:∃n,N=n+1:=⟨N-1,by simp at hN;omega⟩
   rw [zch];simp only [List.append_nil,mkL,enL];exact hend done k _
  | cons x rest ih =>
   intro done k N hl h0 h1 hN;simp only [List.length_cons] at hN;obtain ⟨n,rfl⟩:∃n,N=n+1:=⟨N-1,by omega⟩
   have hi:done.length<(done++x :: rest).length:=by simp
   have hx:(done++x :: rest)[done.length]=x:=by simp
   have hnn:=h.nn x;have hn2:=zcz h.nn rest;simp only [mcL] at h1;rw [zch,hstep done.length (done++x :: rest) hi k _ h0 (by rw [hx];omega) hl,hx]
   have e:(done++x :: rest).set done.length (f x k)=(done++[f x k])++rest:=by simp
   have e2:done.length+1=(done++[f x k]).length:=by simp
   rw [e,e2,ih (done++[f x k]) (nx x k) n (by simpa using hl) (by rw [h.nx];omega) (by rw [h.nx];omega) (by omega)]
   simp [mkL,enL]
 intro l k N hl h0 h1 hN;exact key l [] k N hl h0 h1 hN
theorem zg2 {ρ:Type}(h:Mk f nx m)(l:List α)(F:(Int×Int×List α×Unit->Option ρ)->Int×Int×List α×Unit->Option ρ)(K:Int->Option ρ)(hstep:∀(i:Nat) (hi:i<l.length) (k:Int) (rec:Int×Int×List α×Unit->Option ρ),f l[i] k=l[i]->0<=k->k+m l[i]<=mkB->F rec (k,(i:Int),l,())=rec (nx l[i] k,((i+1:Nat):Int),l,()))(hend:∀(k:Int) (rec:Int×Int×List α×Unit->Option ρ),F rec (k,(l.length:Int),l,())=K k) :
 ∀(k:Int) (N:Nat),mkL f nx l k=l->0<=k->k+mcL m l<=mkB->l.length<N->iter N F (k,0,l,())=K (enL nx l k):=by
 have key:∀(j:Nat) (i:Nat) (k:Int) (N:Nat),l.length-i=j->i<=l.length->mkL f nx (l.drop i) k=l.drop i->0<=k->k+mcL m (l.drop i)<=mkB->j<N->iter N F (k,(i:Int),l,())=K (enL nx (l.drop i) k):=by
  intro j
  induction j with
  | zero =>
   intro i k N hj hi he h0 h1 hN;have:i=l.length:=by omega
   subst this;obtain ⟨n,rfl⟩:∃n,N=n+1:=⟨N-1,by omega⟩
   rw [zch,hend,List.drop_length];rfl
  | succ j ih =>
   intro i k N hj hi he h0 h1 hN;obtain ⟨n,rfl⟩:∃n,N=n+1:=⟨N-1,by omega⟩
   have hlt:i<l.length:=by omega
   have hd:=List.drop_eq_getElem_cons hlt;rw [hd] at he h1 ⊢;simp only [mkL,List.cons.injEq] at he;simp only [mcL] at h1;have hnn:=h.nn l[i];have hn2:=zcz h.nn (l.drop (i+1));rw [zch,hstep i hlt k _ he.1 h0 (by omega)]
   simp only [enL];exact ih (i+1) (nx l[i] k) n (by omega) (by omega) he.2 (by rw [h.nx];omega) (by rw [h.nx];omega) (by omega)
 intro k N he h0 h1 hN;have:=key l.length 0 k N (by omega) (Nat.zero_le _) (by simpa using he) h0 (by simpa using h1) hN
 simpa using this
end
section
variable {α:Type}
theorem ziB (l:List α)(i:Nat)(x:α):up l (i:Int) x=l.set i x:=by simp [up]
theorem zqq (l:List α)(i:Nat)(x:α):ln (l.set i x)=ln l:=by simp [ln]
theorem zul {l:List α}{i:Nat}(h:i<l.length)(x d:α):ix (l.set i x) (i:Int) d=x:=by simp [ix,List.getD,h]
theorem set_set (l:List α)(i:Nat)(x y:α):(l.set i x).set i y=l.set i y:=List.set_set ..
end
theorem zhq:ine 3 0=true:=rfl
theorem zg1 {k:Int}(h:0<=k):ilt k 0=false:=decide_eq_false (by omega)
theorem zM3 {α:Type}{l:List α}{i:Nat}(h:i<l.length)(x:α):inb (i:Int) (ln (l.set i x))=true:=by rw [zqq];exact zbn h
def zvG (_:Int)(k:Int):Int:=k
def zgA (_:Int)(k:Int):Int:=k+1
def zqr (_:Int):Int:=1
theorem zc2:Mk zvG zgA zqr:=⟨fun _=>by unfold zqr;decide,fun _ _=>rfl,fun _ _=>rfl,fun _ _=>rfl⟩
def zvH (_:Slot)(k:Int):Slot:=⟨k,k+1⟩
def zbl (_:Slot)(k:Int):Int:=k+1+1
def zgG (_:Slot):Int:=2
theorem zdM:Mk zvH zbl zgG:=⟨fun _=>by unfold zgG;decide,fun _ k=>by unfold zbl zgG;omega,fun _ _=>rfl,fun _ _=>rfl⟩
def zC0 (_:Ins)(k:Int):Ins:=⟨k,k+1⟩
def zbX (_:Ins)(k:Int):Int:=k+1+1
def zi3 (_:Ins):Int:=2
theorem zhi:Mk zC0 zbX zi3:=⟨fun _=>by unfold zi3;decide,fun _ k=>by unfold zbX zi3;omega,fun _ _=>rfl,fun _ _=>rfl⟩
def zSP (_:GAct)(k:Int):GAct:=⟨k,k+1,k+1+1,k+1+1+1,k+1+1+1+1,k+1+1+1+1+1⟩
def zNQ (_:GAct)(k:Int):Int:=k+1+1+1+1+1+1
def zzY (_:GAct):Int:=6
theorem zQQ:Mk zSP zNQ zzY:=⟨fun _=>by unfold zzY;decide,fun _ k=>by unfold zNQ zzY;omega,fun _ _=>rfl,fun _ _=>rfl⟩
def zND (_:Told)(k:Int):Told:=⟨ieq (zdD (k) 3) 0,k+1⟩
def zxU (_:Told)(k:Int):Int:=k+1+1
def zms (_:Told):Int:=2
theorem zIg:Mk zND zxU zms:=⟨fun _=>by unfold zms;decide,fun _ k=>by unfold zxU zms;omega,fun _ _=>rfl,fun _ _=>rfl⟩
def zAD (l:List Int)(k:Int):List Int:=mkL zvG zgA l k
def zc5 (l:List Int)(k:Int):Int:=enL zgA l k
def zoM (l:List Int):Int:=mcL zqr l
theorem zf1:Mk zAD zc5 zoM:=zc2.list
def zNC (l:List Ins)(k:Int):List Ins:=mkL zC0 zbX l k
def zCa (l:List Ins)(k:Int):Int:=enL zbX l k
def zB5 (l:List Ins):Int:=mcL zi3 l
theorem zOz:Mk zNC zCa zB5:=zhi.list
def zON (l:List (List Ins))(k:Int):List (List Ins):=mkL zNC zCa l k
def zCb (l:List (List Ins))(k:Int):Int:=enL zCa l k
def zB6 (l:List (List Ins)):Int:=mcL zB5 l
theorem zMO:Mk zON zCb zB6:=zOz.list
def zp1 (x:Guest)(k:Int):Guest:=⟨mkL zC0 zbX x.Prog (k),enL zbX x.Prog (k),enL zbX x.Prog (k)+1,mkL zvH zbl x.Written (enL zbX x.Prog (k)+1+1),mkL zvH zbl x.Live (enL zbl x.Written (enL zbX x.Prog (k)+1+1)),⟨enL zbl x.Live (enL zbl x.Written (enL zbX x.Prog (k)+1+1)),enL zbl x.Live (enL zbl x.Written (enL zbX x.Prog (k)+1+1))+1,ieq (zdD (enL zbl x.Live (enL zbl x.Written (enL zbX x.Prog (k)+1+1))+1+1) 3) 0⟩,enL zbl x.Live (enL zbl x.Written (enL zbX x.Prog (k)+1+1))+1+1+1,⟨enL zbl x.Live (enL zbl x.Written (enL zbX x.Prog (k)+1+1))+1+1+1+1,enL zbl x.Live (enL zbl x.Written (enL zbX x.Prog (k)+1+1))+1+1+1+1+1,ieq (zdD (enL zbl x.Live (enL zbl x.Written (enL zbX x.Prog (k)+1+1))+1+1+1+1+1+1) 3) 0,enL zbl x.Live (enL zbl x.Written (enL zbX x.Prog (k)+1+1))+1+1+1+1+1+1+1⟩,ieq (zdD (enL zbl x.Live (enL zbl x.Written (enL zbX x.Prog (k)+1+1))+1+1+1+1+1+1+1+1) 3) 0,mkL zvG zgA x.Seen (enL zbl x.Live (enL zbl x.Written (enL zbX x.Prog (k)+1+1))+1+1+1+1+1+1+1+1+1)⟩
def zc9 (x:Guest)(k:Int):Int:=enL zgA x.Seen (enL zbl x.Live (enL zbl x.Written (enL zbX x.Prog (k)+1+1))+1+1+1+1+1+1+1+1+1)
def zfu (x:Guest):Int:=mcL zi3 x.Prog+mcL zgG x.Written+mcL zgG x.Live+mcL zqr x.Seen+11
theorem zQu (x:Guest):0<=zfu x:=by
 have h0:=zcz zhi.nn x.Prog;have h1:=zcz zdM.nn x.Written;have h2:=zcz zdM.nn x.Live;have h3:=zcz zc2.nn x.Seen;unfold zfu;omega
theorem zQw (x:Guest)(k:Int):zc9 x k=k+zfu x:=by
 unfold zc9 zfu;simp only [zb6 zhi.nx,zb6 zc2.nx,zb6 zdM.nx];omega
theorem zeG:Mk zp1 zc9 zfu:=⟨zQu,zQw,fun x k=>by simp only [zp1,zb6 zhi.nx,zb6 zc2.nx,zb6 zdM.nx,zfe zhi,zfe zc2,zfe zdM,zoP zhi,zoP zc2,zoP zdM],fun x k=>by simp only [zfu,zp1,zfe zhi,zfe zc2,zfe zdM]⟩
def fBare (x:Bare)(k:Int):Bare:=⟨mkL zAD zc5 x.Memory (k),mkL zp1 zc9 x.Guests (enL zc5 x.Memory (k)),mkL zvG zgA x.Outs (enL zc9 x.Guests (enL zc5 x.Memory (k))),enL zgA x.Outs (enL zc9 x.Guests (enL zc5 x.Memory (k)))⟩
def zr2 (x:Bare)(k:Int):Int:=enL zgA x.Outs (enL zc9 x.Guests (enL zc5 x.Memory (k)))+1
def zhy (x:Bare):Int:=mcL zoM x.Memory+mcL zfu x.Guests+mcL zqr x.Outs+1
theorem zR4 (x:Bare):0<=zhy x:=by
 have h0:=zcz zf1.nn x.Memory;have h1:=zcz zeG.nn x.Guests;have h2:=zcz zc2.nn x.Outs;unfold zhy;omega
theorem zR5 (x:Bare)(k:Int):zr2 x k=k+zhy x:=by
 unfold zr2 zhy;simp only [zb6 zeG.nx,zb6 zc2.nx,zb6 zf1.nx];omega
theorem zIf:Mk fBare zr2 zhy:=⟨zR4,zR5,fun x k=>by simp only [fBare,zb6 zeG.nx,zb6 zc2.nx,zb6 zf1.nx,zfe zeG,zfe zc2,zfe zf1,zoP zeG,zoP zc2,zoP zf1],fun x k=>by simp only [zhy,fBare,zfe zeG,zfe zc2,zfe zf1]⟩
def zdS (l:List Int)(k:Int):Bool:=pc (0<=k/\k+mcL zqr l<=mkB)
def zdR (l:List Int)(k:Int):List Int:=mkL zvG zgA l k
def zdh (l:List Int)(k:Int):Int:=enL zgA l k
def zki:CV->Int->Option (Bool×CV×Int)
 | .s .int l,k=>some (zdS l k,.s .int (zdR l k),zdh l k)
 | _,_=>none
def zpD (N:Nat)(a0:List Int)(a1:Int):Option Ans :=
 (iter (σ:=(Int×(Int×((List Int)×Unit)))) N (fun r3 s4=>(cond (ilt s4.2.1 (ln s4.2.2.1)) (cond (inb s4.2.1 (ln s4.2.2.1)) (share (up s4.2.2.1 s4.2.1 s4.1) (fun x5=>(r3 ((zy .i64 s4.1 1),((zy .i64 s4.2.1 1),(x5,())))))) none) (some [(.one (.s .int s4.2.2.1)),(.one (.i .i64 s4.1))]))) (a1,(0,(a0,()))))
def zuE:FuncId->Nat->Option Tmpl:=zB [(35,0,{ n:=19,tm:=[(0,.sl 0 []),(1,.i .i64),(5,.i .i64)],lo:=[],ro:=[(0,.int,true)] })]
theorem zHs (N:Nat)(a0:List Int)(a1:Int):ziC (cQ zhR zcu zF zG) zuE N 12 35 .int a0 a1=zpD N a0 a1:=by kernel_rfl
theorem zEk (a0:List Int)(a1:Int)(hb:CVB big (.s .int a0))(hc:zdS a0 a1=true):∃N,zpD N a0 a1=some [.one (.s .int (zdR a0 a1)),.one (.i .i64 (zdh a0 a1))]:=by
 obtain ⟨h0,h1⟩:=zI.1 hc;have hl:=hb.len;refine ⟨NN,?_⟩;have hNN:∀{n:Nat},n<=big->n<NN:=fun h=>zb7 h;generalize NN=N at hNN ⊢;unfold zpD;exact zef zc2 _ (fun k L=>some [AV.one (.s .int L),AV.one (.i .i64 k)]) (fun i L hi k rec h0 h1 hL=>by
  have hw:=zbt hi hL;generalize hx:L[i]=x at h1 ⊢;have hix:∀d,ix L (i:Int) d=x:=fun d=>(zbx hi d).trans hx;simp only [zqr,mkB] at h1;simp (disch:=omega) only [share,zbr hi,zbn hi,hw,ziB,zd0,zhq,cT];rfl
  ) (fun L k rec=>by simp only [zbe,cF]) a0 a1 N hl h0 h1 (hNN hl)
theorem zzp:zcX Tryz.prog 35 zki:=by
 refine zcE (zeI zdx zbA zq zu) (zC (by kernel_rfl)) ?_
 intro t l k c' k' hr h;obtain ⟨W,v,S,hrep⟩:=hr;have hb:=CVB.of_rep hrep;unfold zki at h;split at h
 ·rename_i t2 l2 heq;cases heq;simp only [Option.some.injEq,Prod.mk.injEq] at h;obtain ⟨hc,rfl,rfl⟩:=h;obtain ⟨N,hN⟩:=zEk _ _ hb hc;exact ⟨zuE,N,12,(zHs N _ _).trans hN⟩
 ·cases h
def zeL (l:List Slot)(k:Int):Bool:=pc (0<=k/\k+mcL zgG l<=mkB)
def zgd (l:List Slot)(k:Int):List Slot:=mkL zvH zbl l k
def zbh (l:List Slot)(k:Int):Int:=enL zbl l k
def zi7:CV->Int->Option (Bool×CV×Int)
 | .s .slot l,k=>some (zeL l k,.s .slot (zgd l k),zbh l k)
 | _,_=>none
def znf (N:Nat)(a0:List Slot)(a1:Int):Option Ans :=
 (iter (σ:=(Int×(Int×((List Slot)×Unit)))) N (fun r3 s4=>(cond (ilt s4.2.1 (ln s4.2.2.1)) (cond (inb s4.2.1 (ln s4.2.2.1)) (share (up s4.2.2.1 s4.2.1 ({ (ix s4.2.2.1 s4.2.1 zdl) with Page:=s4.1 }:Slot)) (fun x5=>(cond (inb s4.2.1 (ln x5)) (share (up x5 s4.2.1 ({ (ix x5 s4.2.1 zdl) with Rights:=(zy .i64 s4.1 1) }:Slot)) (fun x6=>(r3 ((zy .i64 (zy .i64 s4.1 1) 1),((zy .i64 s4.2.1 1),(x6,())))))) none))) none) (some [(.one (.s .slot s4.2.2.1)),(.one (.i .i64 s4.1))]))) (a1,(0,(a0,()))))
def zsd:FuncId->Nat->Option Tmpl:=zB [(73,0,{ n:=27,tm:=[(0,.sl 0 []),(1,.i .i64),(5,.i .i64)],lo:=[],ro:=[(0,.slot,true)] })]
theorem zEW (N:Nat)(a0:List Slot)(a1:Int):ziC (cQ zhR zcu zF zG) zsd N 12 73 .slot a0 a1=znf N a0 a1:=by kernel_rfl
theorem zBW (a0:List Slot)(a1:Int)(hb:CVB big (.s .slot a0))(hc:zeL a0 a1=true):∃N,znf N a0 a1=some [.one (.s .slot (zgd a0 a1)),.one (.i .i64 (zbh a0 a1))]:=by
 obtain ⟨h0,h1⟩:=zI.1 hc;have hl:=hb.len;refine ⟨NN,?_⟩;have hNN:∀{n:Nat},n<=big->n<NN:=fun h=>zb7 h;generalize NN=N at hNN ⊢;unfold znf;exact zef zdM _ (fun k L=>some [AV.one (.s .slot L),AV.one (.i .i64 k)]) (fun i L hi k rec h0 h1 hL=>by
  have hw:=zbt hi hL;generalize hx:L[i]=x at h1 ⊢;have hix:∀d,ix L (i:Int) d=x:=fun d=>(zbx hi d).trans hx;simp only [zgG,mkB] at h1;simp (disch:=omega) only [share,zbr hi,zbn hi,hix,hw,ziB,zqq,zul hi,set_set,zd0,zhq,cT];rfl
  ) (fun L k rec=>by simp only [zbe,cF]) a0 a1 N hl h0 h1 (hNN hl)
theorem zyg:zcX Tryz.prog 73 zi7:=by
 refine zcE (zeI zdx zbA zq zu) (zC (by kernel_rfl)) ?_
 intro t l k c' k' hr h;obtain ⟨W,v,S,hrep⟩:=hr;have hb:=CVB.of_rep hrep;unfold zi7 at h;split at h
 ·rename_i t2 l2 heq;cases heq;simp only [Option.some.injEq,Prod.mk.injEq] at h;obtain ⟨hc,rfl,rfl⟩:=h;obtain ⟨N,hN⟩:=zBW _ _ hb hc;exact ⟨zsd,N,12,(zEW N _ _).trans hN⟩
 ·cases h
def zft (l:List Ins)(k:Int):Bool:=pc (0<=k/\k+mcL zi3 l<=mkB)
def zfs (l:List Ins)(k:Int):List Ins:=mkL zC0 zbX l k
def zbC (l:List Ins)(k:Int):Int:=enL zbX l k
def zkh:CV->Int->Option (Bool×CV×Int)
 | .s .ins l,k=>some (zft l k,.s .ins (zfs l k),zbC l k)
 | _,_=>none
def zpC (N:Nat)(a0:List Ins)(a1:Int):Option Ans :=
 (iter (σ:=(Int×(Int×((List Ins)×Unit)))) N (fun r3 s4=>(cond (ilt s4.2.1 (ln s4.2.2.1)) (cond (inb s4.2.1 (ln s4.2.2.1)) (share (up s4.2.2.1 s4.2.1 ({ (ix s4.2.2.1 s4.2.1 zdK) with Op:=s4.1 }:Ins)) (fun x5=>(cond (inb s4.2.1 (ln x5)) (share (up x5 s4.2.1 ({ (ix x5 s4.2.1 zdK) with X:=(zy .i64 s4.1 1) }:Ins)) (fun x6=>(r3 ((zy .i64 (zy .i64 s4.1 1) 1),((zy .i64 s4.2.1 1),(x6,())))))) none))) none) (some [(.one (.s .ins s4.2.2.1)),(.one (.i .i64 s4.1))]))) (a1,(0,(a0,()))))
def zuD:FuncId->Nat->Option Tmpl:=zB [(72,0,{ n:=27,tm:=[(0,.sl 0 []),(1,.i .i64),(5,.i .i64)],lo:=[],ro:=[(0,.ins,true)] })]
theorem zHr (N:Nat)(a0:List Ins)(a1:Int):ziC (cQ zhR zcu zF zG) zuD N 12 72 .ins a0 a1=zpC N a0 a1:=by kernel_rfl
theorem zEj (a0:List Ins)(a1:Int)(hb:CVB big (.s .ins a0))(hc:zft a0 a1=true):∃N,zpC N a0 a1=some [.one (.s .ins (zfs a0 a1)),.one (.i .i64 (zbC a0 a1))]:=by
 obtain ⟨h0,h1⟩:=zI.1 hc;have hl:=hb.len;refine ⟨NN,?_⟩;have hNN:∀{n:Nat},n<=big->n<NN:=fun h=>zb7 h;generalize NN=N at hNN ⊢;unfold zpC;exact zef zhi _ (fun k L=>some [AV.one (.s .ins L),AV.one (.i .i64 k)]) (fun i L hi k rec h0 h1 hL=>by
  have hw:=zbt hi hL;generalize hx:L[i]=x at h1 ⊢;have hix:∀d,ix L (i:Int) d=x:=fun d=>(zbx hi d).trans hx;simp only [zi3,mkB] at h1;simp (disch:=omega) only [share,zbr hi,zbn hi,hix,hw,ziB,zqq,zul hi,set_set,zd0,zhq,cT];rfl
  ) (fun L k rec=>by simp only [zbe,cF]) a0 a1 N hl h0 h1 (hNN hl)
theorem zzo:zcX Tryz.prog 72 zkh:=by
 refine zcE (zeI zdx zbA zq zu) (zC (by kernel_rfl)) ?_
 intro t l k c' k' hr h;obtain ⟨W,v,S,hrep⟩:=hr;have hb:=CVB.of_rep hrep;unfold zkh at h;split at h
 ·rename_i t2 l2 heq;cases heq;simp only [Option.some.injEq,Prod.mk.injEq] at h;obtain ⟨hc,rfl,rfl⟩:=h;obtain ⟨N,hN⟩:=zEj _ _ hb hc;exact ⟨zuD,N,12,(zHr N _ _).trans hN⟩
 ·cases h
def zke (l:List GAct)(k:Int):Bool:=pc (0<=k/\k+mcL zzY l<=mkB)
def zqn (l:List GAct)(k:Int):List GAct:=mkL zSP zNQ l k
def zkd (l:List GAct)(k:Int):Int:=enL zNQ l k
def zkg:CV->Int->Option (Bool×CV×Int)
 | .s .act l,k=>some (zke l k,.s .act (zqn l k),zkd l k)
 | _,_=>none
def zpB (N:Nat)(a0:List GAct)(a1:Int):Option Ans :=
 (iter (σ:=(Int×(Int×((List GAct)×Unit)))) N (fun r3 s4=>(cond (ilt s4.2.1 (ln s4.2.2.1)) (cond (inb s4.2.1 (ln s4.2.2.1)) (share (up s4.2.2.1 s4.2.1 ({ (ix s4.2.2.1 s4.2.1 zcs) with Kind:=s4.1 }:GAct)) (fun x5=>(cond (inb s4.2.1 (ln x5)) (share (up x5 s4.2.1 ({ (ix x5 s4.2.1 zcs) with M:=(zy .i64 s4.1 1) }:GAct)) (fun x6=>(cond (inb s4.2.1 (ln x6)) (share (up x6 s4.2.1 ({ (ix x6 s4.2.1 zcs) with G:=(zy .i64 (zy .i64 s4.1 1) 1) }:GAct)) (fun x7=>(cond (inb s4.2.1 (ln x7)) (share (up x7 s4.2.1 ({ (ix x7 s4.2.1 zcs) with X:=(zy .i64 (zy .i64 (zy .i64 s4.1 1) 1) 1) }:GAct)) (fun x8=>(cond (inb s4.2.1 (ln x8)) (share (up x8 s4.2.1 ({ (ix x8 s4.2.1 zcs) with Y:=(zy .i64 (zy .i64 (zy .i64 (zy .i64 s4.1 1) 1) 1) 1) }:GAct)) (fun x9=>(cond (inb s4.2.1 (ln x9)) (share (up x9 s4.2.1 ({ (ix x9 s4.2.1 zcs) with Z:=(zy .i64 (zy .i64 (zy .i64 (zy .i64 (zy .i64 s4.1 1) 1) 1) 1) 1) }:GAct)) (fun x10=>(r3 ((zy .i64 (zy .i64 (zy .i64 (zy .i64 (zy .i64 (zy .i64 s4.1 1) 1) 1) 1) 1) 1),((zy .i64 s4.2.1 1),(x10,())))))) none))) none))) none))) none))) none))) none) (some [(.one (.s .act s4.2.2.1)),(.one (.i .i64 s4.1))]))) (a1,(0,(a0,()))))
def zuC:FuncId->Nat->Option Tmpl:=zB [(15,0,{ n:=55,tm:=[(0,.sl 0 []),(1,.i .i64),(5,.i .i64)],lo:=[],ro:=[(0,.act,true)] })]
theorem zHq (N:Nat)(a0:List GAct)(a1:Int):ziC (cQ zhR zcu zF zG) zuC N 12 15 .act a0 a1=zpB N a0 a1:=by kernel_rfl
theorem zEi (a0:List GAct)(a1:Int)(hb:CVB big (.s .act a0))(hc:zke a0 a1=true):∃N,zpB N a0 a1=some [.one (.s .act (zqn a0 a1)),.one (.i .i64 (zkd a0 a1))]:=by
 obtain ⟨h0,h1⟩:=zI.1 hc;have hl:=hb.len;refine ⟨NN,?_⟩;have hNN:∀{n:Nat},n<=big->n<NN:=fun h=>zb7 h;generalize NN=N at hNN ⊢;unfold zpB;exact zef zQQ _ (fun k L=>some [AV.one (.s .act L),AV.one (.i .i64 k)]) (fun i L hi k rec h0 h1 hL=>by
  have hw:=zbt hi hL;generalize hx:L[i]=x at h1 ⊢;have hix:∀d,ix L (i:Int) d=x:=fun d=>(zbx hi d).trans hx;simp only [zzY,mkB] at h1;simp (disch:=omega) only [share,zbr hi,zbn hi,hix,hw,ziB,zqq,zul hi,set_set,zd0,zhq,cT];rfl
  ) (fun L k rec=>by simp only [zbe,cF]) a0 a1 N hl h0 h1 (hNN hl)
theorem zzn:zcX Tryz.prog 15 zkg:=by
 refine zcE (zeI zdx zbA zq zu) (zC (by kernel_rfl)) ?_
 intro t l k c' k' hr h;obtain ⟨W,v,S,hrep⟩:=hr;have hb:=CVB.of_rep hrep;unfold zkg at h;split at h
 ·rename_i t2 l2 heq;cases heq;simp only [Option.some.injEq,Prod.mk.injEq] at h;obtain ⟨hc,rfl,rfl⟩:=h;obtain ⟨N,hN⟩:=zEi _ _ hb hc;exact ⟨zuC,N,12,(zHq N _ _).trans hN⟩
 ·cases h
def ziM (l:List Told)(k:Int):Bool:=pc (0<=k/\k+mcL zms l<=mkB)
def zge (l:List Told)(k:Int):List Told:=mkL zND zxU l k
def zeM (l:List Told)(k:Int):Int:=enL zxU l k
def zi8:CV->Int->Option (Bool×CV×Int)
 | .s .told l,k=>some (ziM l k,.s .told (zge l k),zeM l k)
 | _,_=>none
def zng (N:Nat)(a0:List Told)(a1:Int):Option Ans :=
 (iter (σ:=(Int×(Int×((List Told)×Unit)))) N (fun r3 s4=>(cond (ilt s4.2.1 (ln s4.2.2.1)) (cond (ine 3 0) (cond (inb s4.2.1 (ln s4.2.2.1)) (share (up s4.2.2.1 s4.2.1 ({ (ix s4.2.2.1 s4.2.1 zkT) with Ok:=(ieq (zdD s4.1 3) 0) }:Told)) (fun x5=>(cond (inb s4.2.1 (ln x5)) (share (up x5 s4.2.1 ({ (ix x5 s4.2.1 zkT) with N:=(zy .i64 s4.1 1) }:Told)) (fun x6=>(r3 ((zy .i64 (zy .i64 s4.1 1) 1),((zy .i64 s4.2.1 1),(x6,())))))) none))) none) none) (some [(.one (.s .told s4.2.2.1)),(.one (.i .i64 s4.1))]))) (a1,(0,(a0,()))))
def zse:FuncId->Nat->Option Tmpl:=zB [(17,0,{ n:=29,tm:=[(0,.sl 0 []),(1,.i .i64),(5,.i .i64)],lo:=[],ro:=[(0,.told,true)] })]
theorem zEX (N:Nat)(a0:List Told)(a1:Int):ziC (cQ zhR zcu zF zG) zse N 12 17 .told a0 a1=zng N a0 a1:=by kernel_rfl
theorem zBX (a0:List Told)(a1:Int)(hb:CVB big (.s .told a0))(hc:ziM a0 a1=true):∃N,zng N a0 a1=some [.one (.s .told (zge a0 a1)),.one (.i .i64 (zeM a0 a1))]:=by
 obtain ⟨h0,h1⟩:=zI.1 hc;have hl:=hb.len;refine ⟨NN,?_⟩;have hNN:∀{n:Nat},n<=big->n<NN:=fun h=>zb7 h;generalize NN=N at hNN ⊢;unfold zng;exact zef zIg _ (fun k L=>some [AV.one (.s .told L),AV.one (.i .i64 k)]) (fun i L hi k rec h0 h1 hL=>by
  have hw:=zbt hi hL;generalize hx:L[i]=x at h1 ⊢;have hix:∀d,ix L (i:Int) d=x:=fun d=>(zbx hi d).trans hx;simp only [zms,mkB] at h1;simp (disch:=omega) only [share,zbr hi,zbn hi,hix,hw,ziB,zqq,zul hi,set_set,zd0,zhq,cT];rfl
  ) (fun L k rec=>by simp only [zbe,cF]) a0 a1 N hl h0 h1 (hNN hl)
theorem zyh:zcX Tryz.prog 17 zi8:=by
 refine zcE (zeI zdx zbA zq zu) (zC (by kernel_rfl)) ?_
 intro t l k c' k' hr h;obtain ⟨W,v,S,hrep⟩:=hr;have hb:=CVB.of_rep hrep;unfold zi8 at h;split at h
 ·rename_i t2 l2 heq;cases heq;simp only [Option.some.injEq,Prod.mk.injEq] at h;obtain ⟨hc,rfl,rfl⟩:=h;obtain ⟨N,hN⟩:=zBX _ _ hb hc;exact ⟨zse,N,12,(zEX N _ _).trans hN⟩
 ·cases h
def zJH:zyO:=[(35,zki),(73,zi7),(72,zkh),(15,zkg),(17,zi8)]++zcu
theorem zxS:∀f run,zx zJH f=some run->zcX Tryz.prog f run:=zz1 zbA (by
 intro x hx;simp only [List.mem_cons,List.not_mem_nil,or_false] at hx;rcases hx with rfl|rfl|rfl|rfl|rfl
 ·exact zzp
 ·exact zyg
 ·exact zzo
 ·exact zzn
 ·exact zyh)
def ziL (l:List (List Int))(k:Int):Bool:=pc (0<=k/\k+mcL zoM l<=mkB)
def ziK (l:List (List Int))(k:Int):List (List Int):=mkL zAD zc5 l k
def zc4 (l:List (List Int))(k:Int):Int:=enL zc5 l k
def zi6:CV->Int->Option (Bool×CV×Int)
 | .s (.sl .int) l,k=>some (ziL l k,.s (.sl .int) (ziK l k),zc4 l k)
 | _,_=>none
def zne (N:Nat)(a0:List (List Int))(a1:Int):Option Ans :=
 (iter (σ:=(Int×(Int×((List (List Int))×Unit)))) N (fun r3 s4=>(cond (ilt s4.2.1 (ln s4.2.2.1)) (cond (inb s4.2.1 (ln s4.2.2.1)) (cond (zdS (ix s4.2.2.1 s4.2.1 []) s4.1) (share (up s4.2.2.1 s4.2.1 (zdR (ix s4.2.2.1 s4.2.1 []) s4.1)) (fun x5=>(r3 ((zdh (ix s4.2.2.1 s4.2.1 []) s4.1),((zy .i64 s4.2.1 1),(x5,())))))) none) none) (some [(.one (.s (.sl .int) s4.2.2.1)),(.one (.i .i64 s4.1))]))) (a1,(0,(a0,()))))
def zsc:FuncId->Nat->Option Tmpl:=zB [(33,0,{ n:=19,tm:=[(0,.sl 0 []),(1,.i .i64),(5,.i .i64)],lo:=[],ro:=[(0,(.sl .int),true)] })]
theorem zEV (N:Nat)(a0:List (List Int))(a1:Int):ziC (cQ zhR zJH zF zG) zsc N 12 33 (.sl .int) a0 a1=zne N a0 a1:=by kernel_rfl
theorem zBV (a0:List (List Int))(a1:Int)(hb:CVB big (.s (.sl .int) a0))(hc:ziL a0 a1=true):∃N,zne N a0 a1=some [.one (.s (.sl .int) (ziK a0 a1)),.one (.i .i64 (zc4 a0 a1))]:=by
 obtain ⟨h0,h1⟩:=zI.1 hc;have hl:=hb.len;refine ⟨NN,?_⟩;have hNN:∀{n:Nat},n<=big->n<NN:=fun h=>zb7 h;generalize NN=N at hNN ⊢;unfold zne;exact zef zf1 _ (fun k L=>some [AV.one (.s (.sl .int) L),AV.one (.i .i64 k)]) (fun i L hi k rec h0 h1 hL=>by
  have hw:=zbt hi hL;generalize hx:L[i]=x at h1 ⊢;have hix:∀d,ix L (i:Int) d=x:=fun d=>(zbx hi d).trans hx;have c1:zdS x k=true:=zbb ⟨h0,h1⟩;simp only [share,zbr hi,zbn hi,hix,c1,hw,ziB,zdR,zdh,cT];rfl
  ) (fun L k rec=>by simp only [zbe,cF]) a0 a1 N hl h0 h1 (hNN hl)
theorem zyf:zcX Tryz.prog 33 zi6:=by
 refine zcE (zeI zdx zxS zq zu) (zC (by kernel_rfl)) ?_
 intro t l k c' k' hr h;obtain ⟨W,v,S,hrep⟩:=hr;have hb:=CVB.of_rep hrep;unfold zi6 at h;split at h
 ·rename_i t2 l2 heq;cases heq;simp only [Option.some.injEq,Prod.mk.injEq] at h;obtain ⟨hc,rfl,rfl⟩:=h;obtain ⟨N,hN⟩:=zBV _ _ hb hc;exact ⟨zsc,N,12,(zEV N _ _).trans hN⟩
 ·cases h
def ziJ (l:List (List Ins))(k:Int):Bool:=pc (0<=k/\k+mcL zB5 l<=mkB)
def ziH (l:List (List Ins))(k:Int):List (List Ins):=mkL zNC zCa l k
def ziI (l:List (List Ins))(k:Int):Int:=enL zCa l k
def zi5:CV->Int->Option (Bool×CV×Int)
 | .s (.sl .ins) l,k=>some (ziJ l k,.s (.sl .ins) (ziH l k),ziI l k)
 | _,_=>none
def znd (N:Nat)(a0:List (List Ins))(a1:Int):Option Ans :=
 (iter (σ:=(Int×(Int×((List (List Ins))×Unit)))) N (fun r3 s4=>(cond (ilt s4.2.1 (ln s4.2.2.1)) (cond (inb s4.2.1 (ln s4.2.2.1)) (cond (zft (ix s4.2.2.1 s4.2.1 []) s4.1) (share (up s4.2.2.1 s4.2.1 (zfs (ix s4.2.2.1 s4.2.1 []) s4.1)) (fun x5=>(r3 ((zbC (ix s4.2.2.1 s4.2.1 []) s4.1),((zy .i64 s4.2.1 1),(x5,())))))) none) none) (some [(.one (.s (.sl .ins) s4.2.2.1)),(.one (.i .i64 s4.1))]))) (a1,(0,(a0,()))))
def zsb:FuncId->Nat->Option Tmpl:=zB [(32,0,{ n:=19,tm:=[(0,.sl 0 []),(1,.i .i64),(5,.i .i64)],lo:=[],ro:=[(0,(.sl .ins),true)] })]
theorem zEU (N:Nat)(a0:List (List Ins))(a1:Int):ziC (cQ zhR zJH zF zG) zsb N 12 32 (.sl .ins) a0 a1=znd N a0 a1:=by kernel_rfl
theorem zBU (a0:List (List Ins))(a1:Int)(hb:CVB big (.s (.sl .ins) a0))(hc:ziJ a0 a1=true):∃N,znd N a0 a1=some [.one (.s (.sl .ins) (ziH a0 a1)),.one (.i .i64 (ziI a0 a1))]:=by
 obtain ⟨h0,h1⟩:=zI.1 hc;have hl:=hb.len;refine ⟨NN,?_⟩;have hNN:∀{n:Nat},n<=big->n<NN:=fun h=>zb7 h;generalize NN=N at hNN ⊢;unfold znd;exact zef zOz _ (fun k L=>some [AV.one (.s (.sl .ins) L),AV.one (.i .i64 k)]) (fun i L hi k rec h0 h1 hL=>by
  have hw:=zbt hi hL;generalize hx:L[i]=x at h1 ⊢;have hix:∀d,ix L (i:Int) d=x:=fun d=>(zbx hi d).trans hx;have c1:zft x k=true:=zbb ⟨h0,h1⟩;simp only [share,zbr hi,zbn hi,hix,c1,hw,ziB,zfs,zbC,cT];rfl
  ) (fun L k rec=>by simp only [zbe,cF]) a0 a1 N hl h0 h1 (hNN hl)
theorem zye:zcX Tryz.prog 32 zi5:=by
 refine zcE (zeI zdx zxS zq zu) (zC (by kernel_rfl)) ?_
 intro t l k c' k' hr h;obtain ⟨W,v,S,hrep⟩:=hr;have hb:=CVB.of_rep hrep;unfold zi5 at h;split at h
 ·rename_i t2 l2 heq;cases heq;simp only [Option.some.injEq,Prod.mk.injEq] at h;obtain ⟨hc,rfl,rfl⟩:=h;obtain ⟨N,hN⟩:=zBU _ _ hb hc;exact ⟨zsb,N,12,(zEU N _ _).trans hN⟩
 ·cases h
def zhv (l:List Guest)(k:Int):Bool:=pc (0<=k/\k+mcL zfu l<=mkB)
def zhu (l:List Guest)(k:Int):List Guest:=mkL zp1 zc9 l k
def zdz (l:List Guest)(k:Int):Int:=enL zc9 l k
def zhT:CV->Int->Option (Bool×CV×Int)
 | .s .guest l,k=>some (zhv l k,.s .guest (zhu l k),zdz l k)
 | _,_=>none
def zk0 (N:Nat)(a0:List Guest)(a1:Int):Option Ans :=
 (iter (σ:=(Int×(Int×((List Guest)×Unit)))) N (fun r3 s4=>(cond (ilt s4.2.1 (ln s4.2.2.1)) (cond (inb s4.2.1 (ln s4.2.2.1)) (cond (zft (ix s4.2.2.1 s4.2.1 zo).Prog s4.1) (share (up s4.2.2.1 s4.2.1 ({ (ix s4.2.2.1 s4.2.1 zo) with Prog:=(zfs (ix s4.2.2.1 s4.2.1 zo).Prog s4.1) }:Guest)) (fun x5=>(cond (inb s4.2.1 (ln x5)) (share (up x5 s4.2.1 ({ (ix x5 s4.2.1 zo) with A:=(zbC (ix s4.2.2.1 s4.2.1 zo).Prog s4.1) }:Guest)) (fun x6=>(cond (inb s4.2.1 (ln x6)) (share (up x6 s4.2.1 ({ (ix x6 s4.2.1 zo) with Pc:=(zy .i64 (zbC (ix s4.2.2.1 s4.2.1 zo).Prog s4.1) 1) }:Guest)) (fun x7=>(cond (inb s4.2.1 (ln x7)) (cond (zeL (ix x7 s4.2.1 zo).Written (zy .i64 (zy .i64 (zbC (ix s4.2.2.1 s4.2.1 zo).Prog s4.1) 1) 1)) (share (up x7 s4.2.1 ({ (ix x7 s4.2.1 zo) with Written:=(zgd (ix x7 s4.2.1 zo).Written (zy .i64 (zy .i64 (zbC (ix s4.2.2.1 s4.2.1 zo).Prog s4.1) 1) 1)) }:Guest)) (fun x8=>(cond (inb s4.2.1 (ln x8)) (cond (zeL (ix x8 s4.2.1 zo).Live (zbh (ix x7 s4.2.1 zo).Written (zy .i64 (zy .i64 (zbC (ix s4.2.2.1 s4.2.1 zo).Prog s4.1) 1) 1))) (share (up x8 s4.2.1 ({ (ix x8 s4.2.1 zo) with Live:=(zgd (ix x8 s4.2.1 zo).Live (zbh (ix x7 s4.2.1 zo).Written (zy .i64 (zy .i64 (zbC (ix s4.2.2.1 s4.2.1 zo).Prog s4.1) 1) 1))) }:Guest)) (fun x9=>(cond (inb s4.2.1 (ln x9)) (share (up x9 s4.2.1 ({ (ix x9 s4.2.1 zo) with Ctl:=({ (ix x9 s4.2.1 zo).Ctl with Traps:=(zbh (ix x8 s4.2.1 zo).Live (zbh (ix x7 s4.2.1 zo).Written (zy .i64 (zy .i64 (zbC (ix s4.2.2.1 s4.2.1 zo).Prog s4.1) 1) 1))) }:Ctl) }:Guest)) (fun x10=>(cond (inb s4.2.1 (ln x10)) (share (up x10 s4.2.1 ({ (ix x10 s4.2.1 zo) with Ctl:=({ (ix x10 s4.2.1 zo).Ctl with Post:=(zy .i64 (zbh (ix x8 s4.2.1 zo).Live (zbh (ix x7 s4.2.1 zo).Written (zy .i64 (zy .i64 (zbC (ix s4.2.2.1 s4.2.1 zo).Prog s4.1) 1) 1))) 1) }:Ctl) }:Guest)) (fun x11=>(cond (ine 3 0) (cond (inb s4.2.1 (ln x11)) (share (up x11 s4.2.1 ({ (ix x11 s4.2.1 zo) with Ctl:=({ (ix x11 s4.2.1 zo).Ctl with Open:=(ieq (zdD (zy .i64 (zy .i64 (zbh (ix x8 s4.2.1 zo).Live (zbh (ix x7 s4.2.1 zo).Written (zy .i64 (zy .i64 (zbC (ix s4.2.2.1 s4.2.1 zo).Prog s4.1) 1) 1))) 1) 1) 3) 0) }:Ctl) }:Guest)) (fun x12=>(cond (inb s4.2.1 (ln x12)) (share (up x12 s4.2.1 ({ (ix x12 s4.2.1 zo) with Pending:=(zy .i64 (zy .i64 (zy .i64 (zbh (ix x8 s4.2.1 zo).Live (zbh (ix x7 s4.2.1 zo).Written (zy .i64 (zy .i64 (zbC (ix s4.2.2.1 s4.2.1 zo).Prog s4.1) 1) 1))) 1) 1) 1) }:Guest)) (fun x13=>(cond (inb s4.2.1 (ln x13)) (share (up x13 s4.2.1 ({ (ix x13 s4.2.1 zo) with Exit:=({ (ix x13 s4.2.1 zo).Exit with Kind:=(zy .i64 (zy .i64 (zy .i64 (zy .i64 (zbh (ix x8 s4.2.1 zo).Live (zbh (ix x7 s4.2.1 zo).Written (zy .i64 (zy .i64 (zbC (ix s4.2.2.1 s4.2.1 zo).Prog s4.1) 1) 1))) 1) 1) 1) 1) }:GExit) }:Guest)) (fun x14=>(cond (inb s4.2.1 (ln x14)) (share (up x14 s4.2.1 ({ (ix x14 s4.2.1 zo) with Exit:=({ (ix x14 s4.2.1 zo).Exit with Page:=(zy .i64 (zy .i64 (zy .i64 (zy .i64 (zy .i64 (zbh (ix x8 s4.2.1 zo).Live (zbh (ix x7 s4.2.1 zo).Written (zy .i64 (zy .i64 (zbC (ix s4.2.2.1 s4.2.1 zo).Prog s4.1) 1) 1))) 1) 1) 1) 1) 1) }:GExit) }:Guest)) (fun x15=>(cond (ine 3 0) (cond (inb s4.2.1 (ln x15)) (share (up x15 s4.2.1 ({ (ix x15 s4.2.1 zo) with Exit:=({ (ix x15 s4.2.1 zo).Exit with Write:=(ieq (zdD (zy .i64 (zy .i64 (zy .i64 (zy .i64 (zy .i64 (zy .i64 (zbh (ix x8 s4.2.1 zo).Live (zbh (ix x7 s4.2.1 zo).Written (zy .i64 (zy .i64 (zbC (ix s4.2.2.1 s4.2.1 zo).Prog s4.1) 1) 1))) 1) 1) 1) 1) 1) 1) 3) 0) }:GExit) }:Guest)) (fun x16=>(cond (inb s4.2.1 (ln x16)) (share (up x16 s4.2.1 ({ (ix x16 s4.2.1 zo) with Exit:=({ (ix x16 s4.2.1 zo).Exit with N:=(zy .i64 (zy .i64 (zy .i64 (zy .i64 (zy .i64 (zy .i64 (zy .i64 (zbh (ix x8 s4.2.1 zo).Live (zbh (ix x7 s4.2.1 zo).Written (zy .i64 (zy .i64 (zbC (ix s4.2.2.1 s4.2.1 zo).Prog s4.1) 1) 1))) 1) 1) 1) 1) 1) 1) 1) }:GExit) }:Guest)) (fun x17=>(cond (ine 3 0) (cond (inb s4.2.1 (ln x17)) (share (up x17 s4.2.1 ({ (ix x17 s4.2.1 zo) with Halted:=(ieq (zdD (zy .i64 (zy .i64 (zy .i64 (zy .i64 (zy .i64 (zy .i64 (zy .i64 (zy .i64 (zbh (ix x8 s4.2.1 zo).Live (zbh (ix x7 s4.2.1 zo).Written (zy .i64 (zy .i64 (zbC (ix s4.2.2.1 s4.2.1 zo).Prog s4.1) 1) 1))) 1) 1) 1) 1) 1) 1) 1) 1) 3) 0) }:Guest)) (fun x18=>(cond (inb s4.2.1 (ln x18)) (cond (zdS (ix x18 s4.2.1 zo).Seen (zy .i64 (zy .i64 (zy .i64 (zy .i64 (zy .i64 (zy .i64 (zy .i64 (zy .i64 (zy .i64 (zbh (ix x8 s4.2.1 zo).Live (zbh (ix x7 s4.2.1 zo).Written (zy .i64 (zy .i64 (zbC (ix s4.2.2.1 s4.2.1 zo).Prog s4.1) 1) 1))) 1) 1) 1) 1) 1) 1) 1) 1) 1)) (share (up x18 s4.2.1 ({ (ix x18 s4.2.1 zo) with Seen:=(zdR (ix x18 s4.2.1 zo).Seen (zy .i64 (zy .i64 (zy .i64 (zy .i64 (zy .i64 (zy .i64 (zy .i64 (zy .i64 (zy .i64 (zbh (ix x8 s4.2.1 zo).Live (zbh (ix x7 s4.2.1 zo).Written (zy .i64 (zy .i64 (zbC (ix s4.2.2.1 s4.2.1 zo).Prog s4.1) 1) 1))) 1) 1) 1) 1) 1) 1) 1) 1) 1)) }:Guest)) (fun x19=>(r3 ((zdh (ix x18 s4.2.1 zo).Seen (zy .i64 (zy .i64 (zy .i64 (zy .i64 (zy .i64 (zy .i64 (zy .i64 (zy .i64 (zy .i64 (zbh (ix x8 s4.2.1 zo).Live (zbh (ix x7 s4.2.1 zo).Written (zy .i64 (zy .i64 (zbC (ix s4.2.2.1 s4.2.1 zo).Prog s4.1) 1) 1))) 1) 1) 1) 1) 1) 1) 1) 1) 1)),((zy .i64 s4.2.1 1),(x19,())))))) none) none))) none) none))) none))) none) none))) none))) none))) none))) none) none))) none))) none))) none) none))) none) none))) none))) none))) none) none) (some [(.one (.s .guest s4.2.2.1)),(.one (.i .i64 s4.1))]))) (a1,(0,(a0,()))))
def zrz:FuncId->Nat->Option Tmpl:=zB [(34,0,{ n:=131,tm:=[(0,.sl 0 []),(1,.i .i64),(5,.i .i64)],lo:=[],ro:=[(0,.guest,true)] })]
theorem zCh (N:Nat)(a0:List Guest)(a1:Int):ziC (cQ zhR zJH zF zG) zrz N 12 34 .guest a0 a1=zk0 N a0 a1:=by kernel_rfl
theorem zzQ (a0:List Guest)(a1:Int)(hb:CVB big (.s .guest a0))(hc:zhv a0 a1=true):∃N,zk0 N a0 a1=some [.one (.s .guest (zhu a0 a1)),.one (.i .i64 (zdz a0 a1))]:=by
 obtain ⟨h0,h1⟩:=zI.1 hc;have hl:=hb.len;refine ⟨NN,?_⟩;have hNN:∀{n:Nat},n<=big->n<NN:=fun h=>zb7 h;generalize NN=N at hNN ⊢;unfold zk0;exact zef zeG _ (fun k L=>some [AV.one (.s .guest L),AV.one (.i .i64 k)]) (fun i L hi k rec h0 h1 hL=>by
  have hw:=zbt hi hL;generalize hx:L[i]=x at h1 ⊢;have hix:∀d,ix L (i:Int) d=x:=fun d=>(zbx hi d).trans hx;simp only [zfu,mkB] at h1;have hn0:=zcz zhi.nn x.Prog;have hn1:=zcz zdM.nn x.Written;have hn2:=zcz zdM.nn x.Live;have hn3:=zcz zc2.nn x.Seen;have he0:=zb6 zhi.nx x.Prog (k);have he1:=zb6 zdM.nx x.Written (enL zbX x.Prog (k)+1+1);have he2:=zb6 zdM.nx x.Live (enL zbl x.Written (enL zbX x.Prog (k)+1+1));have he3:=zb6 zc2.nx x.Seen (enL zbl x.Live (enL zbl x.Written (enL zbX x.Prog (k)+1+1))+1+1+1+1+1+1+1+1+1);have c0:zft x.Prog (k)=true:=zbb ⟨by omega,by unfold mkB;omega⟩
  have c1:zeL x.Written (enL zbX x.Prog (k)+1+1)=true:=zbb ⟨by omega,by unfold mkB;omega⟩
  have c2:zeL x.Live (enL zbl x.Written (enL zbX x.Prog (k)+1+1))=true:=zbb ⟨by omega,by unfold mkB;omega⟩
  have c3:zdS x.Seen (enL zbl x.Live (enL zbl x.Written (enL zbX x.Prog (k)+1+1))+1+1+1+1+1+1+1+1+1)=true:=zbb ⟨by omega,by unfold mkB;omega⟩
  simp (disch:=omega) only [share,zbr hi,zbn hi,zM3 hi,hix,hw,ziB,zqq,zul hi,set_set,zd0,zhq,cT,c0,zfs,zbC,c1,zgd,zbh,c2,c3,zdR,zdh];rfl
  ) (fun L k rec=>by simp only [zbe,cF]) a0 a1 N hl h0 h1 (hNN hl)
theorem zw5:zcX Tryz.prog 34 zhT:=by
 refine zcE (zeI zdx zxS zq zu) (zC (by kernel_rfl)) ?_
 intro t l k c' k' hr h;obtain ⟨W,v,S,hrep⟩:=hr;have hb:=CVB.of_rep hrep;unfold zhT at h;split at h
 ·rename_i t2 l2 heq;cases heq;simp only [Option.some.injEq,Prod.mk.injEq] at h;obtain ⟨hc,rfl,rfl⟩:=h;obtain ⟨N,hN⟩:=zzQ _ _ hb hc;exact ⟨zrz,N,12,(zCh N _ _).trans hN⟩
 ·cases h
def zNP:zyO:=[(33,zi6),(32,zi5),(34,zhT)]++zJH
theorem zEF:∀f run,zx zNP f=some run->zcX Tryz.prog f run:=zz1 zxS (by
 intro x hx;simp only [List.mem_cons,List.not_mem_nil,or_false] at hx;rcases hx with rfl|rfl|rfl
 ·exact zyf
 ·exact zye
 ·exact zw5)
def zhw (l:List (List (List Ins)))(k:Int):Bool:=pc (0<=k/\k+mcL zB6 l<=mkB)
def zlk (l:List (List (List Ins)))(k:Int):List (List (List Ins)):=mkL zON zCb l k
def zdA (l:List (List (List Ins)))(k:Int):Int:=enL zCb l k
def zhU:CV->Int->Option (Bool×CV×Int)
 | .s (.sl (.sl .ins)) l,k=>some (zhw l k,.s (.sl (.sl .ins)) (zlk l k),zdA l k)
 | _,_=>none
def zk1 (N:Nat)(a0:List (List (List Ins)))(a1:Int):Option Ans :=
 (iter (σ:=(Int×(Int×((List (List (List Ins)))×Unit)))) N (fun r3 s4=>(cond (ilt s4.2.1 (ln s4.2.2.1)) (cond (inb s4.2.1 (ln s4.2.2.1)) (cond (ziJ (ix s4.2.2.1 s4.2.1 []) s4.1) (share (up s4.2.2.1 s4.2.1 (ziH (ix s4.2.2.1 s4.2.1 []) s4.1)) (fun x5=>(r3 ((ziI (ix s4.2.2.1 s4.2.1 []) s4.1),((zy .i64 s4.2.1 1),(x5,())))))) none) none) (some [(.one (.s (.sl (.sl .ins)) s4.2.2.1)),(.one (.i .i64 s4.1))]))) (a1,(0,(a0,()))))
def zrA:FuncId->Nat->Option Tmpl:=zB [(14,0,{ n:=19,tm:=[(0,.sl 0 []),(1,.i .i64),(5,.i .i64)],lo:=[],ro:=[(0,(.sl (.sl .ins)),true)] })]
theorem zCi (N:Nat)(a0:List (List (List Ins)))(a1:Int):ziC (cQ zhR zNP zF zG) zrA N 12 14 (.sl (.sl .ins)) a0 a1=zk1 N a0 a1:=by kernel_rfl
theorem zzR (a0:List (List (List Ins)))(a1:Int)(hb:CVB big (.s (.sl (.sl .ins)) a0))(hc:zhw a0 a1=true):∃N,zk1 N a0 a1=some [.one (.s (.sl (.sl .ins)) (zlk a0 a1)),.one (.i .i64 (zdA a0 a1))]:=by
 obtain ⟨h0,h1⟩:=zI.1 hc;have hl:=hb.len;refine ⟨NN,?_⟩;have hNN:∀{n:Nat},n<=big->n<NN:=fun h=>zb7 h;generalize NN=N at hNN ⊢;unfold zk1;exact zef zMO _ (fun k L=>some [AV.one (.s (.sl (.sl .ins)) L),AV.one (.i .i64 k)]) (fun i L hi k rec h0 h1 hL=>by
  have hw:=zbt hi hL;generalize hx:L[i]=x at h1 ⊢;have hix:∀d,ix L (i:Int) d=x:=fun d=>(zbx hi d).trans hx;have c1:ziJ x k=true:=zbb ⟨h0,h1⟩;simp only [share,zbr hi,zbn hi,hix,c1,hw,ziB,ziH,ziI,cT];rfl
  ) (fun L k rec=>by simp only [zbe,cF]) a0 a1 N hl h0 h1 (hNN hl)
theorem zw6:zcX Tryz.prog 14 zhU:=by
 refine zcE (zeI zdx zEF zq zu) (zC (by kernel_rfl)) ?_
 intro t l k c' k' hr h;obtain ⟨W,v,S,hrep⟩:=hr;have hb:=CVB.of_rep hrep;unfold zhU at h;split at h
 ·rename_i t2 l2 heq;cases heq;simp only [Option.some.injEq,Prod.mk.injEq] at h;obtain ⟨hc,rfl,rfl⟩:=h;obtain ⟨N,hN⟩:=zzR _ _ hb hc;exact ⟨zrA,N,12,(zCi N _ _).trans hN⟩
 ·cases h
def ziG (l:List Bare)(k:Int):Bool:=pc (0<=k/\k+mcL zhy l<=mkB)
def zgc (l:List Bare)(k:Int):List Bare:=mkL fBare zr2 l k
def zb3 (l:List Bare)(k:Int):Int:=enL zr2 l k
def zi4:CV->Int->Option (Bool×CV×Int)
 | .s .bare l,k=>some (ziG l k,.s .bare (zgc l k),zb3 l k)
 | _,_=>none
def znc (N:Nat)(a0:List Bare)(a1:Int):Option Ans :=
 (iter (σ:=(Int×(Int×((List Bare)×Unit)))) N (fun r3 s4=>(cond (ilt s4.2.1 (ln s4.2.2.1)) (cond (inb s4.2.1 (ln s4.2.2.1)) (cond (ziL (ix s4.2.2.1 s4.2.1 zJ).Memory s4.1) (share (up s4.2.2.1 s4.2.1 ({ (ix s4.2.2.1 s4.2.1 zJ) with Memory:=(ziK (ix s4.2.2.1 s4.2.1 zJ).Memory s4.1) }:Bare)) (fun x5=>(cond (inb s4.2.1 (ln x5)) (cond (zhv (ix x5 s4.2.1 zJ).Guests (zc4 (ix s4.2.2.1 s4.2.1 zJ).Memory s4.1)) (share (up x5 s4.2.1 ({ (ix x5 s4.2.1 zJ) with Guests:=(zhu (ix x5 s4.2.1 zJ).Guests (zc4 (ix s4.2.2.1 s4.2.1 zJ).Memory s4.1)) }:Bare)) (fun x6=>(cond (inb s4.2.1 (ln x6)) (cond (zdS (ix x6 s4.2.1 zJ).Outs (zdz (ix x5 s4.2.1 zJ).Guests (zc4 (ix s4.2.2.1 s4.2.1 zJ).Memory s4.1))) (share (up x6 s4.2.1 ({ (ix x6 s4.2.1 zJ) with Outs:=(zdR (ix x6 s4.2.1 zJ).Outs (zdz (ix x5 s4.2.1 zJ).Guests (zc4 (ix s4.2.2.1 s4.2.1 zJ).Memory s4.1))) }:Bare)) (fun x7=>(cond (inb s4.2.1 (ln x7)) (share (up x7 s4.2.1 ({ (ix x7 s4.2.1 zJ) with Pending:=(zdh (ix x6 s4.2.1 zJ).Outs (zdz (ix x5 s4.2.1 zJ).Guests (zc4 (ix s4.2.2.1 s4.2.1 zJ).Memory s4.1))) }:Bare)) (fun x8=>(r3 ((zy .i64 (zdh (ix x6 s4.2.1 zJ).Outs (zdz (ix x5 s4.2.1 zJ).Guests (zc4 (ix s4.2.2.1 s4.2.1 zJ).Memory s4.1))) 1),((zy .i64 s4.2.1 1),(x8,())))))) none))) none) none))) none) none))) none) none) (some [(.one (.s .bare s4.2.2.1)),(.one (.i .i64 s4.1))]))) (a1,(0,(a0,()))))
def zsa:FuncId->Nat->Option Tmpl:=zB [(16,0,{ n:=41,tm:=[(0,.sl 0 []),(1,.i .i64),(5,.i .i64)],lo:=[],ro:=[(0,.bare,true)] })]
theorem zET (N:Nat)(a0:List Bare)(a1:Int):ziC (cQ zhR zNP zF zG) zsa N 12 16 .bare a0 a1=znc N a0 a1:=by kernel_rfl
theorem zBT (a0:List Bare)(a1:Int)(hb:CVB big (.s .bare a0))(hc:ziG a0 a1=true):∃N,znc N a0 a1=some [.one (.s .bare (zgc a0 a1)),.one (.i .i64 (zb3 a0 a1))]:=by
 obtain ⟨h0,h1⟩:=zI.1 hc;have hl:=hb.len;refine ⟨NN,?_⟩;have hNN:∀{n:Nat},n<=big->n<NN:=fun h=>zb7 h;generalize NN=N at hNN ⊢;unfold znc;exact zef zIf _ (fun k L=>some [AV.one (.s .bare L),AV.one (.i .i64 k)]) (fun i L hi k rec h0 h1 hL=>by
  have hw:=zbt hi hL;generalize hx:L[i]=x at h1 ⊢;have hix:∀d,ix L (i:Int) d=x:=fun d=>(zbx hi d).trans hx;simp only [zhy,mkB] at h1;have hn0:=zcz zf1.nn x.Memory;have hn1:=zcz zeG.nn x.Guests;have hn2:=zcz zc2.nn x.Outs;have he0:=zb6 zf1.nx x.Memory (k);have he1:=zb6 zeG.nx x.Guests (enL zc5 x.Memory (k));have he2:=zb6 zc2.nx x.Outs (enL zc9 x.Guests (enL zc5 x.Memory (k)));have c0:ziL x.Memory (k)=true:=zbb ⟨by omega,by unfold mkB;omega⟩
  have c1:zhv x.Guests (enL zc5 x.Memory (k))=true:=zbb ⟨by omega,by unfold mkB;omega⟩
  have c2:zdS x.Outs (enL zc9 x.Guests (enL zc5 x.Memory (k)))=true:=zbb ⟨by omega,by unfold mkB;omega⟩
  simp (disch:=omega) only [share,zbr hi,zbn hi,zM3 hi,hix,hw,ziB,zqq,zul hi,set_set,zd0,zhq,cT,c0,ziK,zc4,c1,zhu,zdz,c2,zdR,zdh];rfl
  ) (fun L k rec=>by simp only [zbe,cF]) a0 a1 N hl h0 h1 (hNN hl)
theorem zyd:zcX Tryz.prog 16 zi4:=by
 refine zcE (zeI zdx zEF zq zu) (zC (by kernel_rfl)) ?_
 intro t l k c' k' hr h;obtain ⟨W,v,S,hrep⟩:=hr;have hb:=CVB.of_rep hrep;unfold zi4 at h;split at h
 ·rename_i t2 l2 heq;cases heq;simp only [Option.some.injEq,Prod.mk.injEq] at h;obtain ⟨hc,rfl,rfl⟩:=h;obtain ⟨N,hN⟩:=zBT _ _ hb hc;exact ⟨zsa,N,12,(zET N _ _).trans hN⟩
 ·cases h
def zL:zyO:=[(14,zhU),(16,zi4)]++zNP
theorem zA:∀f run,zx zL f=some run->zcX Tryz.prog f run:=zz1 zEF (by
 intro x hx;simp only [List.mem_cons,List.not_mem_nil,or_false] at hx;rcases hx with rfl|rfl
 ·exact zw6
 ·exact zyd)
def zdQ (l:List Int)(k:Int):Bool:=pc (mkL zvG zgA l k=l/\0<=k/\k+mcL zqr l<=mkB)
def zc3 (l:List Int)(k:Int):Int:=enL zgA l k
def zlG:List AV->Option (Bool×List AV)
 | [.one (.s .int b),.one (.i .i64 c)]=>some ((zdQ b c),[.one (.i .i64 (zc3 b c))])
 | _=>none
def zpA (N:Nat)(a0:List Int)(a1:Int):Option Ans :=
 (iter (σ:=(Int×(Int×((List Int)×Unit)))) N (fun r3 s4=>(cond (ilt s4.2.1 (ln s4.2.2.1)) (cond (inb s4.2.1 (ln s4.2.2.1)) (cond (ine (ix s4.2.2.1 s4.2.1 0) s4.1) (some [(.one (.i .i64 (-1)))]) (r3 ((zy .i64 s4.1 1),((zy .i64 s4.2.1 1),(s4.2.2.1,()))))) none) (some [(.one (.i .i64 s4.1))]))) (a1,(0,(a0,()))))
def zFe:FuncId->Nat->Option Tmpl:=zB [(38,0,{ n:=21,tm:=[(0,.sl 0 []),(1,.i .i64),(5,.i .i64)],lo:=[],ro:=[(0,.int,false)] })]
theorem zHp (N:Nat)(a0:List Int)(a1:Int):evalFn (cQ zhR zL zF zG) zFe N 12 38 [.one (.s .int a0),.one (.i .i64 a1)]=zpA N a0 a1:=by kernel_rfl
theorem zEh (a0:List Int)(a1:Int)(hb:zD big [.one (.s .int a0),.one (.i .i64 a1)])(hc:(zdQ a0 a1)=true):∃N,zpA N a0 a1=some [.one (.i .i64 (zc3 a0 a1))]:=by
 obtain ⟨he,h0,h1⟩:=zI.1 hc;have hl:=((zbw hb).1 _ (List.mem_singleton.2 rfl)).len;refine ⟨NN,?_⟩;have hNN:∀{n:Nat},n<=big->n<NN:=fun h=>zb7 h;generalize NN=N at hNN ⊢;unfold zpA;exact zg2 zc2 a0 _ (fun k=>some [AV.one (.i .i64 k)]) (fun i hi k rec he h0 h1=>by
  have hw:=zbt hi hl;have hix:∀d,ix a0 (i:Int) d=a0[i]:=fun d=>zbx hi d;generalize a0[i]=x at he h1 hix ⊢;simp only [zqr,mkB] at h1;rw [<- he] at hix;simp (disch:=omega) only [zbr hi,zbn hi,hix,zvG,hw,zd0,zhq,zbF,zb5,cT,cF];rfl
  ) (fun k rec=>by simp only [zbe,cF]) a1 N he h0 h1 (hNN hl)
theorem zzm:Holds Tryz.prog 38 zlG:=zn zdx zA zq zu (zC (by kernel_rfl)) fun avs rs hb h=>by
 unfold zlG at h;split at h
 ·obtain ⟨hc,rfl⟩:=zi h;exact (fin2 zEh zHp hc hb :)
 ·cases h
def zeK (l:List Slot)(k:Int):Bool:=pc (mkL zvH zbl l k=l/\0<=k/\k+mcL zgG l<=mkB)
def zbp (l:List Slot)(k:Int):Int:=enL zbl l k
def zkv:List AV->Option (Bool×List AV)
 | [.one (.s .slot b),.one (.i .i64 c)]=>some ((zeK b c),[.one (.i .i64 (zbp b c))])
 | _=>none
def zna (N:Nat)(a0:List Slot)(a1:Int):Option Ans :=
 (iter (σ:=(Int×(Int×((List Slot)×Unit)))) N (fun r3 s4=>(cond (ilt s4.2.1 (ln s4.2.2.1)) (cond (inb s4.2.1 (ln s4.2.2.1)) (cond (ine (ix s4.2.2.1 s4.2.1 zdl).Page s4.1) (some [(.one (.i .i64 (-1)))]) (cond (inb s4.2.1 (ln s4.2.2.1)) (cond (ine (ix s4.2.2.1 s4.2.1 zdl).Rights (zy .i64 s4.1 1)) (some [(.one (.i .i64 (-1)))]) (r3 ((zy .i64 (zy .i64 s4.1 1) 1),((zy .i64 s4.2.1 1),(s4.2.2.1,()))))) none)) none) (some [(.one (.i .i64 s4.1))]))) (a1,(0,(a0,()))))
def zCP:FuncId->Nat->Option Tmpl:=zB [(75,0,{ n:=31,tm:=[(0,.sl 0 []),(1,.i .i64),(5,.i .i64)],lo:=[],ro:=[(0,.slot,false)] })]
theorem zER (N:Nat)(a0:List Slot)(a1:Int):evalFn (cQ zhR zL zF zG) zCP N 12 75 [.one (.s .slot a0),.one (.i .i64 a1)]=zna N a0 a1:=by kernel_rfl
theorem zBR (a0:List Slot)(a1:Int)(hb:zD big [.one (.s .slot a0),.one (.i .i64 a1)])(hc:(zeK a0 a1)=true):∃N,zna N a0 a1=some [.one (.i .i64 (zbp a0 a1))]:=by
 obtain ⟨he,h0,h1⟩:=zI.1 hc;have hl:=((zbw hb).1 _ (List.mem_singleton.2 rfl)).len;refine ⟨NN,?_⟩;have hNN:∀{n:Nat},n<=big->n<NN:=fun h=>zb7 h;generalize NN=N at hNN ⊢;unfold zna;exact zg2 zdM a0 _ (fun k=>some [AV.one (.i .i64 k)]) (fun i hi k rec he h0 h1=>by
  have hw:=zbt hi hl;have hix:∀d,ix a0 (i:Int) d=a0[i]:=fun d=>zbx hi d;generalize a0[i]=x at he h1 hix ⊢;simp only [zgG,mkB] at h1;have v_Page:x.Page=k:=(congrArg (fun (z:Slot)=>z.Page) he).symm;have v_Rights:x.Rights=k+1:=(congrArg (fun (z:Slot)=>z.Rights) he).symm;simp (disch:=omega) only [zbr hi,zbn hi,hix,hw,v_Page,v_Rights,zd0,zhq,zbF,zb5,cT,cF];rfl
  ) (fun k rec=>by simp only [zbe,cF]) a1 N he h0 h1 (hNN hl)
theorem zyb:Holds Tryz.prog 75 zkv:=zn zdx zA zq zu (zC (by kernel_rfl)) fun avs rs hb h=>by
 unfold zkv at h;split at h
 ·obtain ⟨hc,rfl⟩:=zi h;exact (fin2 zBR zER hc hb :)
 ·cases h
def zkc (l:List Ins)(k:Int):Bool:=pc (mkL zC0 zbX l k=l/\0<=k/\k+mcL zi3 l<=mkB)
def zbV (l:List Ins)(k:Int):Int:=enL zbX l k
def zlF:List AV->Option (Bool×List AV)
 | [.one (.s .ins b),.one (.i .i64 c)]=>some ((zkc b c),[.one (.i .i64 (zbV b c))])
 | _=>none
def zpz (N:Nat)(a0:List Ins)(a1:Int):Option Ans :=
 (iter (σ:=(Int×(Int×((List Ins)×Unit)))) N (fun r3 s4=>(cond (ilt s4.2.1 (ln s4.2.2.1)) (cond (inb s4.2.1 (ln s4.2.2.1)) (cond (ine (ix s4.2.2.1 s4.2.1 zdK).Op s4.1) (some [(.one (.i .i64 (-1)))]) (cond (inb s4.2.1 (ln s4.2.2.1)) (cond (ine (ix s4.2.2.1 s4.2.1 zdK).X (zy .i64 s4.1 1)) (some [(.one (.i .i64 (-1)))]) (r3 ((zy .i64 (zy .i64 s4.1 1) 1),((zy .i64 s4.2.1 1),(s4.2.2.1,()))))) none)) none) (some [(.one (.i .i64 s4.1))]))) (a1,(0,(a0,()))))
def zFd:FuncId->Nat->Option Tmpl:=zB [(74,0,{ n:=31,tm:=[(0,.sl 0 []),(1,.i .i64),(5,.i .i64)],lo:=[],ro:=[(0,.ins,false)] })]
theorem zHo (N:Nat)(a0:List Ins)(a1:Int):evalFn (cQ zhR zL zF zG) zFd N 12 74 [.one (.s .ins a0),.one (.i .i64 a1)]=zpz N a0 a1:=by kernel_rfl
theorem zEg (a0:List Ins)(a1:Int)(hb:zD big [.one (.s .ins a0),.one (.i .i64 a1)])(hc:(zkc a0 a1)=true):∃N,zpz N a0 a1=some [.one (.i .i64 (zbV a0 a1))]:=by
 obtain ⟨he,h0,h1⟩:=zI.1 hc;have hl:=((zbw hb).1 _ (List.mem_singleton.2 rfl)).len;refine ⟨NN,?_⟩;have hNN:∀{n:Nat},n<=big->n<NN:=fun h=>zb7 h;generalize NN=N at hNN ⊢;unfold zpz;exact zg2 zhi a0 _ (fun k=>some [AV.one (.i .i64 k)]) (fun i hi k rec he h0 h1=>by
  have hw:=zbt hi hl;have hix:∀d,ix a0 (i:Int) d=a0[i]:=fun d=>zbx hi d;generalize a0[i]=x at he h1 hix ⊢;simp only [zi3,mkB] at h1;have v_Op:x.Op=k:=(congrArg (fun (z:Ins)=>z.Op) he).symm;have v_X:x.X=k+1:=(congrArg (fun (z:Ins)=>z.X) he).symm;simp (disch:=omega) only [zbr hi,zbn hi,hix,hw,v_Op,v_X,zd0,zhq,zbF,zb5,cT,cF];rfl
  ) (fun k rec=>by simp only [zbe,cF]) a1 N he h0 h1 (hNN hl)
theorem zzl:Holds Tryz.prog 74 zlF:=zn zdx zA zq zu (zC (by kernel_rfl)) fun avs rs hb h=>by
 unfold zlF at h;split at h
 ·obtain ⟨hc,rfl⟩:=zi h;exact (fin2 zEg zHo hc hb :)
 ·cases h
def zgb (l:List Told)(k:Int):Bool:=pc (mkL zND zxU l k=l/\0<=k/\k+mcL zms l<=mkB)
def ze7 (l:List Told)(k:Int):Int:=enL zxU l k
def zkw:List AV->Option (Bool×List AV)
 | [.one (.s .told b),.one (.i .i64 c)]=>some ((zgb b c),[.one (.i .i64 (ze7 b c))])
 | _=>none
def znb (N:Nat)(a0:List Told)(a1:Int):Option Ans :=
 (iter (σ:=(Int×(Int×((List Told)×Unit)))) N (fun r3 s4=>(cond (ilt s4.2.1 (ln s4.2.2.1)) (cond (inb s4.2.1 (ln s4.2.2.1)) (cond (ine 3 0) (cond (cond (zeo (ix s4.2.2.1 s4.2.1 zkT).Ok (ieq (zdD s4.1 3) 0)) false true) (some [(.one (.i .i64 (-1)))]) (cond (inb s4.2.1 (ln s4.2.2.1)) (cond (ine (ix s4.2.2.1 s4.2.1 zkT).N (zy .i64 s4.1 1)) (some [(.one (.i .i64 (-1)))]) (r3 ((zy .i64 (zy .i64 s4.1 1) 1),((zy .i64 s4.2.1 1),(s4.2.2.1,()))))) none)) none) none) (some [(.one (.i .i64 s4.1))]))) (a1,(0,(a0,()))))
def zCQ:FuncId->Nat->Option Tmpl:=zB [(19,0,{ n:=33,tm:=[(0,.sl 0 []),(1,.i .i64),(5,.i .i64)],lo:=[],ro:=[(0,.told,false)] })]
theorem zES (N:Nat)(a0:List Told)(a1:Int):evalFn (cQ zhR zL zF zG) zCQ N 12 19 [.one (.s .told a0),.one (.i .i64 a1)]=znb N a0 a1:=by kernel_rfl
theorem zBS (a0:List Told)(a1:Int)(hb:zD big [.one (.s .told a0),.one (.i .i64 a1)])(hc:(zgb a0 a1)=true):∃N,znb N a0 a1=some [.one (.i .i64 (ze7 a0 a1))]:=by
 obtain ⟨he,h0,h1⟩:=zI.1 hc;have hl:=((zbw hb).1 _ (List.mem_singleton.2 rfl)).len;refine ⟨NN,?_⟩;have hNN:∀{n:Nat},n<=big->n<NN:=fun h=>zb7 h;generalize NN=N at hNN ⊢;unfold znb;exact zg2 zIg a0 _ (fun k=>some [AV.one (.i .i64 k)]) (fun i hi k rec he h0 h1=>by
  have hw:=zbt hi hl;have hix:∀d,ix a0 (i:Int) d=a0[i]:=fun d=>zbx hi d;generalize a0[i]=x at he h1 hix ⊢;simp only [zms,mkB] at h1;have v_Ok:x.Ok=ieq (zdD (k) 3) 0:=(congrArg (fun (z:Told)=>z.Ok) he).symm;have v_N:x.N=k+1:=(congrArg (fun (z:Told)=>z.N) he).symm;simp (disch:=omega) only [zbr hi,zbn hi,hix,hw,v_Ok,v_N,zd0,zhq,zbF,zb5,cT,cF];rfl
  ) (fun k rec=>by simp only [zbe,cF]) a1 N he h0 h1 (hNN hl)
theorem zyc:Holds Tryz.prog 19 zkw:=zn zdx zA zq zu (zC (by kernel_rfl)) fun avs rs hb h=>by
 unfold zkw at h;split at h
 ·obtain ⟨hc,rfl⟩:=zi h;exact (fin2 zBS zES hc hb :)
 ·cases h
def zH3:zbu:=[(38,zlG),(75,zkv),(74,zlF),(19,zkw)]++zhR
theorem zyW:zbE zH3:=zl zzm (zl zyb (zl zzl (zl zyc zdx)))
def ziF (l:List (List Int))(k:Int):Bool:=pc (mkL zAD zc5 l k=l/\0<=k/\k+mcL zoM l<=mkB)
def zdc (l:List (List Int))(k:Int):Int:=enL zc5 l k
def zku:List AV->Option (Bool×List AV)
 | [.one (.s (.sl .int) b),.one (.i .i64 c)]=>some ((ziF b c),[.one (.i .i64 (zdc b c))])
 | _=>none
def zm9 (N:Nat)(a0:List (List Int))(a1:Int):Option Ans :=
 (iter (σ:=(Int×(Int×((List (List Int))×Unit)))) N (fun r3 s4=>(cond (ilt s4.2.1 (ln s4.2.2.1)) (cond (inb s4.2.1 (ln s4.2.2.1)) (cond (zdQ (ix s4.2.2.1 s4.2.1 []) s4.1) (cond (ilt (zc3 (ix s4.2.2.1 s4.2.1 []) s4.1) 0) (some [(.one (.i .i64 (-1)))]) (r3 ((zc3 (ix s4.2.2.1 s4.2.1 []) s4.1),((zy .i64 s4.2.1 1),(s4.2.2.1,()))))) none) none) (some [(.one (.i .i64 s4.1))]))) (a1,(0,(a0,()))))
def zCO:FuncId->Nat->Option Tmpl:=zB [(36,0,{ n:=21,tm:=[(0,.sl 0 []),(1,.i .i64),(5,.i .i64)],lo:=[],ro:=[(0,(.sl .int),false)] })]
theorem zEQ (N:Nat)(a0:List (List Int))(a1:Int):evalFn (cQ zH3 zL zF zG) zCO N 12 36 [.one (.s (.sl .int) a0),.one (.i .i64 a1)]=zm9 N a0 a1:=by kernel_rfl
theorem zBQ (a0:List (List Int))(a1:Int)(hb:zD big [.one (.s (.sl .int) a0),.one (.i .i64 a1)])(hc:(ziF a0 a1)=true):∃N,zm9 N a0 a1=some [.one (.i .i64 (zdc a0 a1))]:=by
 obtain ⟨he,h0,h1⟩:=zI.1 hc;have hl:=((zbw hb).1 _ (List.mem_singleton.2 rfl)).len;refine ⟨NN,?_⟩;have hNN:∀{n:Nat},n<=big->n<NN:=fun h=>zb7 h;generalize NN=N at hNN ⊢;unfold zm9;exact zg2 zf1 a0 _ (fun k=>some [AV.one (.i .i64 k)]) (fun i hi k rec he h0 h1=>by
  have hw:=zbt hi hl;have hix:∀d,ix a0 (i:Int) d=a0[i]:=fun d=>zbx hi d;generalize a0[i]=x at he h1 hix ⊢;have c1:zdQ x k=true:=zbb ⟨he,h0,h1⟩;have c2:ilt (enL zgA x k) 0=false:=zg1 (by rw [zb6 zc2.nx];have:=zcz zc2.nn x;omega)
  simp only [zbr hi,zbn hi,hix,c1,zc3,c2,hw,cT,cF];rfl
  ) (fun k rec=>by simp only [zbe,cF]) a1 N he h0 h1 (hNN hl)
theorem zya:Holds Tryz.prog 36 zku:=zn zyW zA zq zu (zC (by kernel_rfl)) fun avs rs hb h=>by
 unfold zku at h;split at h
 ·obtain ⟨hc,rfl⟩:=zi h;exact (fin2 zBQ zEQ hc hb :)
 ·cases h
def zht (l:List Guest)(k:Int):Bool:=pc (mkL zp1 zc9 l k=l/\0<=k/\k+mcL zfu l<=mkB)
def zdP (l:List Guest)(k:Int):Int:=enL zc9 l k
def zjd:List AV->Option (Bool×List AV)
 | [.one (.s .guest b),.one (.i .i64 c)]=>some ((zht b c),[.one (.i .i64 (zdP b c))])
 | _=>none
def zkZ (N:Nat)(a0:List Guest)(a1:Int):Option Ans :=
 (iter (σ:=(Int×(Int×((List Guest)×Unit)))) N (fun r3 s4=>(cond (ilt s4.2.1 (ln s4.2.2.1)) (cond (inb s4.2.1 (ln s4.2.2.1)) (cond (zkc (ix s4.2.2.1 s4.2.1 zo).Prog s4.1) (cond (ilt (zbV (ix s4.2.2.1 s4.2.1 zo).Prog s4.1) 0) (some [(.one (.i .i64 (-1)))]) (cond (inb s4.2.1 (ln s4.2.2.1)) (cond (ine (ix s4.2.2.1 s4.2.1 zo).A (zbV (ix s4.2.2.1 s4.2.1 zo).Prog s4.1)) (some [(.one (.i .i64 (-1)))]) (cond (inb s4.2.1 (ln s4.2.2.1)) (cond (ine (ix s4.2.2.1 s4.2.1 zo).Pc (zy .i64 (zbV (ix s4.2.2.1 s4.2.1 zo).Prog s4.1) 1)) (some [(.one (.i .i64 (-1)))]) (cond (inb s4.2.1 (ln s4.2.2.1)) (cond (zeK (ix s4.2.2.1 s4.2.1 zo).Written (zy .i64 (zy .i64 (zbV (ix s4.2.2.1 s4.2.1 zo).Prog s4.1) 1) 1)) (cond (ilt (zbp (ix s4.2.2.1 s4.2.1 zo).Written (zy .i64 (zy .i64 (zbV (ix s4.2.2.1 s4.2.1 zo).Prog s4.1) 1) 1)) 0) (some [(.one (.i .i64 (-1)))]) (cond (inb s4.2.1 (ln s4.2.2.1)) (cond (zeK (ix s4.2.2.1 s4.2.1 zo).Live (zbp (ix s4.2.2.1 s4.2.1 zo).Written (zy .i64 (zy .i64 (zbV (ix s4.2.2.1 s4.2.1 zo).Prog s4.1) 1) 1))) (cond (ilt (zbp (ix s4.2.2.1 s4.2.1 zo).Live (zbp (ix s4.2.2.1 s4.2.1 zo).Written (zy .i64 (zy .i64 (zbV (ix s4.2.2.1 s4.2.1 zo).Prog s4.1) 1) 1))) 0) (some [(.one (.i .i64 (-1)))]) (cond (inb s4.2.1 (ln s4.2.2.1)) (cond (ine (ix s4.2.2.1 s4.2.1 zo).Ctl.Traps (zbp (ix s4.2.2.1 s4.2.1 zo).Live (zbp (ix s4.2.2.1 s4.2.1 zo).Written (zy .i64 (zy .i64 (zbV (ix s4.2.2.1 s4.2.1 zo).Prog s4.1) 1) 1)))) (some [(.one (.i .i64 (-1)))]) (cond (inb s4.2.1 (ln s4.2.2.1)) (cond (ine (ix s4.2.2.1 s4.2.1 zo).Ctl.Post (zy .i64 (zbp (ix s4.2.2.1 s4.2.1 zo).Live (zbp (ix s4.2.2.1 s4.2.1 zo).Written (zy .i64 (zy .i64 (zbV (ix s4.2.2.1 s4.2.1 zo).Prog s4.1) 1) 1))) 1)) (some [(.one (.i .i64 (-1)))]) (cond (inb s4.2.1 (ln s4.2.2.1)) (cond (ine 3 0) (cond (cond (zeo (ix s4.2.2.1 s4.2.1 zo).Ctl.Open (ieq (zdD (zy .i64 (zy .i64 (zbp (ix s4.2.2.1 s4.2.1 zo).Live (zbp (ix s4.2.2.1 s4.2.1 zo).Written (zy .i64 (zy .i64 (zbV (ix s4.2.2.1 s4.2.1 zo).Prog s4.1) 1) 1))) 1) 1) 3) 0)) false true) (some [(.one (.i .i64 (-1)))]) (cond (inb s4.2.1 (ln s4.2.2.1)) (cond (ine (ix s4.2.2.1 s4.2.1 zo).Pending (zy .i64 (zy .i64 (zy .i64 (zbp (ix s4.2.2.1 s4.2.1 zo).Live (zbp (ix s4.2.2.1 s4.2.1 zo).Written (zy .i64 (zy .i64 (zbV (ix s4.2.2.1 s4.2.1 zo).Prog s4.1) 1) 1))) 1) 1) 1)) (some [(.one (.i .i64 (-1)))]) (cond (inb s4.2.1 (ln s4.2.2.1)) (cond (ine (ix s4.2.2.1 s4.2.1 zo).Exit.Kind (zy .i64 (zy .i64 (zy .i64 (zy .i64 (zbp (ix s4.2.2.1 s4.2.1 zo).Live (zbp (ix s4.2.2.1 s4.2.1 zo).Written (zy .i64 (zy .i64 (zbV (ix s4.2.2.1 s4.2.1 zo).Prog s4.1) 1) 1))) 1) 1) 1) 1)) (some [(.one (.i .i64 (-1)))]) (cond (inb s4.2.1 (ln s4.2.2.1)) (cond (ine (ix s4.2.2.1 s4.2.1 zo).Exit.Page (zy .i64 (zy .i64 (zy .i64 (zy .i64 (zy .i64 (zbp (ix s4.2.2.1 s4.2.1 zo).Live (zbp (ix s4.2.2.1 s4.2.1 zo).Written (zy .i64 (zy .i64 (zbV (ix s4.2.2.1 s4.2.1 zo).Prog s4.1) 1) 1))) 1) 1) 1) 1) 1)) (some [(.one (.i .i64 (-1)))]) (cond (inb s4.2.1 (ln s4.2.2.1)) (cond (ine 3 0) (cond (cond (zeo (ix s4.2.2.1 s4.2.1 zo).Exit.Write (ieq (zdD (zy .i64 (zy .i64 (zy .i64 (zy .i64 (zy .i64 (zy .i64 (zbp (ix s4.2.2.1 s4.2.1 zo).Live (zbp (ix s4.2.2.1 s4.2.1 zo).Written (zy .i64 (zy .i64 (zbV (ix s4.2.2.1 s4.2.1 zo).Prog s4.1) 1) 1))) 1) 1) 1) 1) 1) 1) 3) 0)) false true) (some [(.one (.i .i64 (-1)))]) (cond (inb s4.2.1 (ln s4.2.2.1)) (cond (ine (ix s4.2.2.1 s4.2.1 zo).Exit.N (zy .i64 (zy .i64 (zy .i64 (zy .i64 (zy .i64 (zy .i64 (zy .i64 (zbp (ix s4.2.2.1 s4.2.1 zo).Live (zbp (ix s4.2.2.1 s4.2.1 zo).Written (zy .i64 (zy .i64 (zbV (ix s4.2.2.1 s4.2.1 zo).Prog s4.1) 1) 1))) 1) 1) 1) 1) 1) 1) 1)) (some [(.one (.i .i64 (-1)))]) (cond (inb s4.2.1 (ln s4.2.2.1)) (cond (ine 3 0) (cond (cond (zeo (ix s4.2.2.1 s4.2.1 zo).Halted (ieq (zdD (zy .i64 (zy .i64 (zy .i64 (zy .i64 (zy .i64 (zy .i64 (zy .i64 (zy .i64 (zbp (ix s4.2.2.1 s4.2.1 zo).Live (zbp (ix s4.2.2.1 s4.2.1 zo).Written (zy .i64 (zy .i64 (zbV (ix s4.2.2.1 s4.2.1 zo).Prog s4.1) 1) 1))) 1) 1) 1) 1) 1) 1) 1) 1) 3) 0)) false true) (some [(.one (.i .i64 (-1)))]) (cond (inb s4.2.1 (ln s4.2.2.1)) (cond (zdQ (ix s4.2.2.1 s4.2.1 zo).Seen (zy .i64 (zy .i64 (zy .i64 (zy .i64 (zy .i64 (zy .i64 (zy .i64 (zy .i64 (zy .i64 (zbp (ix s4.2.2.1 s4.2.1 zo).Live (zbp (ix s4.2.2.1 s4.2.1 zo).Written (zy .i64 (zy .i64 (zbV (ix s4.2.2.1 s4.2.1 zo).Prog s4.1) 1) 1))) 1) 1) 1) 1) 1) 1) 1) 1) 1)) (cond (ilt (zc3 (ix s4.2.2.1 s4.2.1 zo).Seen (zy .i64 (zy .i64 (zy .i64 (zy .i64 (zy .i64 (zy .i64 (zy .i64 (zy .i64 (zy .i64 (zbp (ix s4.2.2.1 s4.2.1 zo).Live (zbp (ix s4.2.2.1 s4.2.1 zo).Written (zy .i64 (zy .i64 (zbV (ix s4.2.2.1 s4.2.1 zo).Prog s4.1) 1) 1))) 1) 1) 1) 1) 1) 1) 1) 1) 1)) 0) (some [(.one (.i .i64 (-1)))]) (r3 ((zc3 (ix s4.2.2.1 s4.2.1 zo).Seen (zy .i64 (zy .i64 (zy .i64 (zy .i64 (zy .i64 (zy .i64 (zy .i64 (zy .i64 (zy .i64 (zbp (ix s4.2.2.1 s4.2.1 zo).Live (zbp (ix s4.2.2.1 s4.2.1 zo).Written (zy .i64 (zy .i64 (zbV (ix s4.2.2.1 s4.2.1 zo).Prog s4.1) 1) 1))) 1) 1) 1) 1) 1) 1) 1) 1) 1)),((zy .i64 s4.2.1 1),(s4.2.2.1,()))))) none) none)) none) none)) none)) none) none)) none)) none)) none)) none) none)) none)) none)) none) none)) none) none)) none)) none)) none) none) (some [(.one (.i .i64 s4.1))]))) (a1,(0,(a0,()))))
def zAd:FuncId->Nat->Option Tmpl:=zB [(37,0,{ n:=161,tm:=[(0,.sl 0 []),(1,.i .i64),(5,.i .i64)],lo:=[],ro:=[(0,.guest,false)] })]
theorem zCg (N:Nat)(a0:List Guest)(a1:Int):evalFn (cQ zH3 zL zF zG) zAd N 12 37 [.one (.s .guest a0),.one (.i .i64 a1)]=zkZ N a0 a1:=by kernel_rfl
theorem zzP (a0:List Guest)(a1:Int)(hb:zD big [.one (.s .guest a0),.one (.i .i64 a1)])(hc:(zht a0 a1)=true):∃N,zkZ N a0 a1=some [.one (.i .i64 (zdP a0 a1))]:=by
 obtain ⟨he,h0,h1⟩:=zI.1 hc;have hl:=((zbw hb).1 _ (List.mem_singleton.2 rfl)).len;refine ⟨NN,?_⟩;have hNN:∀{n:Nat},n<=big->n<NN:=fun h=>zb7 h;generalize NN=N at hNN ⊢;unfold zkZ;exact zg2 zeG a0 _ (fun k=>some [AV.one (.i .i64 k)]) (fun i hi k rec he h0 h1=>by
  have hw:=zbt hi hl;have hix:∀d,ix a0 (i:Int) d=a0[i]:=fun d=>zbx hi d;generalize a0[i]=x at he h1 hix ⊢;simp only [zfu,mkB] at h1;have hn0:=zcz zhi.nn x.Prog;have hn1:=zcz zdM.nn x.Written;have hn2:=zcz zdM.nn x.Live;have hn3:=zcz zc2.nn x.Seen;have he0:=zb6 zhi.nx x.Prog (k);have he1:=zb6 zdM.nx x.Written (enL zbX x.Prog (k)+1+1);have he2:=zb6 zdM.nx x.Live (enL zbl x.Written (enL zbX x.Prog (k)+1+1));have he3:=zb6 zc2.nx x.Seen (enL zbl x.Live (enL zbl x.Written (enL zbX x.Prog (k)+1+1))+1+1+1+1+1+1+1+1+1);have w0:mkL zC0 zbX x.Prog (k)=x.Prog:=congrArg (fun (z:Guest)=>z.Prog) he;have v_A:x.A=enL zbX x.Prog (k):=(congrArg (fun (z:Guest)=>z.A) he).symm;have v_Pc:x.Pc=enL zbX x.Prog (k)+1:=(congrArg (fun (z:Guest)=>z.Pc) he).symm;have w1:mkL zvH zbl x.Written (enL zbX x.Prog (k)+1+1)=x.Written:=congrArg (fun (z:Guest)=>z.Written) he;have w2:mkL zvH zbl x.Live (enL zbl x.Written (enL zbX x.Prog (k)+1+1))=x.Live:=congrArg (fun (z:Guest)=>z.Live) he;have v_Ctl_Traps:x.Ctl.Traps=enL zbl x.Live (enL zbl x.Written (enL zbX x.Prog (k)+1+1)):=(congrArg (fun (z:Guest)=>z.Ctl.Traps) he).symm;have v_Ctl_Post:x.Ctl.Post=enL zbl x.Live (enL zbl x.Written (enL zbX x.Prog (k)+1+1))+1:=(congrArg (fun (z:Guest)=>z.Ctl.Post) he).symm;have v_Ctl_Open:x.Ctl.Open=ieq (zdD (enL zbl x.Live (enL zbl x.Written (enL zbX x.Prog (k)+1+1))+1+1) 3) 0:=(congrArg (fun (z:Guest)=>z.Ctl.Open) he).symm;have v_Pending:x.Pending=enL zbl x.Live (enL zbl x.Written (enL zbX x.Prog (k)+1+1))+1+1+1:=(congrArg (fun (z:Guest)=>z.Pending) he).symm;have v_Exit_Kind:x.Exit.Kind=enL zbl x.Live (enL zbl x.Written (enL zbX x.Prog (k)+1+1))+1+1+1+1:=(congrArg (fun (z:Guest)=>z.Exit.Kind) he).symm;have v_Exit_Page:x.Exit.Page=enL zbl x.Live (enL zbl x.Written (enL zbX x.Prog (k)+1+1))+1+1+1+1+1:=(congrArg (fun (z:Guest)=>z.Exit.Page) he).symm;have v_Exit_Write:x.Exit.Write=ieq (zdD (enL zbl x.Live (enL zbl x.Written (enL zbX x.Prog (k)+1+1))+1+1+1+1+1+1) 3) 0:=(congrArg (fun (z:Guest)=>z.Exit.Write) he).symm;have v_Exit_N:x.Exit.N=enL zbl x.Live (enL zbl x.Written (enL zbX x.Prog (k)+1+1))+1+1+1+1+1+1+1:=(congrArg (fun (z:Guest)=>z.Exit.N) he).symm;have v_Halted:x.Halted=ieq (zdD (enL zbl x.Live (enL zbl x.Written (enL zbX x.Prog (k)+1+1))+1+1+1+1+1+1+1+1) 3) 0:=(congrArg (fun (z:Guest)=>z.Halted) he).symm;have w3:mkL zvG zgA x.Seen (enL zbl x.Live (enL zbl x.Written (enL zbX x.Prog (k)+1+1))+1+1+1+1+1+1+1+1+1)=x.Seen:=congrArg (fun (z:Guest)=>z.Seen) he;have c0:zkc x.Prog (k)=true:=zbb ⟨w0,by omega,by unfold mkB;omega⟩
  have d0:ilt (enL zbX x.Prog (k)) 0=false:=zg1 (by omega)
  have c1:zeK x.Written (enL zbX x.Prog (k)+1+1)=true:=zbb ⟨w1,by omega,by unfold mkB;omega⟩
  have d1:ilt (enL zbl x.Written (enL zbX x.Prog (k)+1+1)) 0=false:=zg1 (by omega)
  have c2:zeK x.Live (enL zbl x.Written (enL zbX x.Prog (k)+1+1))=true:=zbb ⟨w2,by omega,by unfold mkB;omega⟩
  have d2:ilt (enL zbl x.Live (enL zbl x.Written (enL zbX x.Prog (k)+1+1))) 0=false:=zg1 (by omega)
  have c3:zdQ x.Seen (enL zbl x.Live (enL zbl x.Written (enL zbX x.Prog (k)+1+1))+1+1+1+1+1+1+1+1+1)=true:=zbb ⟨w3,by omega,by unfold mkB;omega⟩
  have d3:ilt (enL zgA x.Seen (enL zbl x.Live (enL zbl x.Written (enL zbX x.Prog (k)+1+1))+1+1+1+1+1+1+1+1+1)) 0=false:=zg1 (by omega)
  simp (disch:=omega) only [zbr hi,zbn hi,hix,hw,v_A,v_Pc,v_Ctl_Traps,v_Ctl_Post,v_Ctl_Open,v_Pending,v_Exit_Kind,v_Exit_Page,v_Exit_Write,v_Exit_N,v_Halted,c0,d0,zbV,c1,d1,zbp,c2,d2,c3,d3,zc3,zd0,zhq,zbF,zb5,cT,cF];rfl
  ) (fun k rec=>by simp only [zbe,cF]) a1 N he h0 h1 (hNN hl)
theorem zw4:Holds Tryz.prog 37 zjd:=zn zyW zA zq zu (zC (by kernel_rfl)) fun avs rs hb h=>by
 unfold zjd at h;split at h
 ·obtain ⟨hc,rfl⟩:=zi h;exact (fin2 zzP zCg hc hb :)
 ·cases h
def zNs:zbu:=[(36,zku),(37,zjd)]++zH3
theorem zIy:zbE zNs:=zl zya (zl zw4 zyW)
def zga (l:List Bare)(k:Int):Bool:=pc (mkL fBare zr2 l k=l/\0<=k/\k+mcL zhy l<=mkB)
def zc1 (l:List Bare)(k:Int):Int:=enL zr2 l k
def zkt:List AV->Option (Bool×List AV)
 | [.one (.s .bare b),.one (.i .i64 c)]=>some ((zga b c),[.one (.i .i64 (zc1 b c))])
 | _=>none
def zm8 (N:Nat)(a0:List Bare)(a1:Int):Option Ans :=
 (iter (σ:=(Int×(Int×((List Bare)×Unit)))) N (fun r3 s4=>(cond (ilt s4.2.1 (ln s4.2.2.1)) (cond (inb s4.2.1 (ln s4.2.2.1)) (cond (ziF (ix s4.2.2.1 s4.2.1 zJ).Memory s4.1) (cond (ilt (zdc (ix s4.2.2.1 s4.2.1 zJ).Memory s4.1) 0) (some [(.one (.i .i64 (-1)))]) (cond (inb s4.2.1 (ln s4.2.2.1)) (cond (zht (ix s4.2.2.1 s4.2.1 zJ).Guests (zdc (ix s4.2.2.1 s4.2.1 zJ).Memory s4.1)) (cond (ilt (zdP (ix s4.2.2.1 s4.2.1 zJ).Guests (zdc (ix s4.2.2.1 s4.2.1 zJ).Memory s4.1)) 0) (some [(.one (.i .i64 (-1)))]) (cond (inb s4.2.1 (ln s4.2.2.1)) (cond (zdQ (ix s4.2.2.1 s4.2.1 zJ).Outs (zdP (ix s4.2.2.1 s4.2.1 zJ).Guests (zdc (ix s4.2.2.1 s4.2.1 zJ).Memory s4.1))) (cond (ilt (zc3 (ix s4.2.2.1 s4.2.1 zJ).Outs (zdP (ix s4.2.2.1 s4.2.1 zJ).Guests (zdc (ix s4.2.2.1 s4.2.1 zJ).Memory s4.1))) 0) (some [(.one (.i .i64 (-1)))]) (cond (inb s4.2.1 (ln s4.2.2.1)) (cond (ine (ix s4.2.2.1 s4.2.1 zJ).Pending (zc3 (ix s4.2.2.1 s4.2.1 zJ).Outs (zdP (ix s4.2.2.1 s4.2.1 zJ).Guests (zdc (ix s4.2.2.1 s4.2.1 zJ).Memory s4.1)))) (some [(.one (.i .i64 (-1)))]) (r3 ((zy .i64 (zc3 (ix s4.2.2.1 s4.2.1 zJ).Outs (zdP (ix s4.2.2.1 s4.2.1 zJ).Guests (zdc (ix s4.2.2.1 s4.2.1 zJ).Memory s4.1))) 1),((zy .i64 s4.2.1 1),(s4.2.2.1,()))))) none)) none) none)) none) none)) none) none) (some [(.one (.i .i64 s4.1))]))) (a1,(0,(a0,()))))
def zCN:FuncId->Nat->Option Tmpl:=zB [(18,0,{ n:=49,tm:=[(0,.sl 0 []),(1,.i .i64),(5,.i .i64)],lo:=[],ro:=[(0,.bare,false)] })]
theorem zEP (N:Nat)(a0:List Bare)(a1:Int):evalFn (cQ zNs zL zF zG) zCN N 12 18 [.one (.s .bare a0),.one (.i .i64 a1)]=zm8 N a0 a1:=by kernel_rfl
theorem zBP (a0:List Bare)(a1:Int)(hb:zD big [.one (.s .bare a0),.one (.i .i64 a1)])(hc:(zga a0 a1)=true):∃N,zm8 N a0 a1=some [.one (.i .i64 (zc1 a0 a1))]:=by
 obtain ⟨he,h0,h1⟩:=zI.1 hc;have hl:=((zbw hb).1 _ (List.mem_singleton.2 rfl)).len;refine ⟨NN,?_⟩;have hNN:∀{n:Nat},n<=big->n<NN:=fun h=>zb7 h;generalize NN=N at hNN ⊢;unfold zm8;exact zg2 zIf a0 _ (fun k=>some [AV.one (.i .i64 k)]) (fun i hi k rec he h0 h1=>by
  have hw:=zbt hi hl;have hix:∀d,ix a0 (i:Int) d=a0[i]:=fun d=>zbx hi d;generalize a0[i]=x at he h1 hix ⊢;simp only [zhy,mkB] at h1;have hn0:=zcz zf1.nn x.Memory;have hn1:=zcz zeG.nn x.Guests;have hn2:=zcz zc2.nn x.Outs;have he0:=zb6 zf1.nx x.Memory (k);have he1:=zb6 zeG.nx x.Guests (enL zc5 x.Memory (k));have he2:=zb6 zc2.nx x.Outs (enL zc9 x.Guests (enL zc5 x.Memory (k)));have w0:mkL zAD zc5 x.Memory (k)=x.Memory:=congrArg (fun (z:Bare)=>z.Memory) he;have w1:mkL zp1 zc9 x.Guests (enL zc5 x.Memory (k))=x.Guests:=congrArg (fun (z:Bare)=>z.Guests) he;have w2:mkL zvG zgA x.Outs (enL zc9 x.Guests (enL zc5 x.Memory (k)))=x.Outs:=congrArg (fun (z:Bare)=>z.Outs) he;have v_Pending:x.Pending=enL zgA x.Outs (enL zc9 x.Guests (enL zc5 x.Memory (k))):=(congrArg (fun (z:Bare)=>z.Pending) he).symm;have c0:ziF x.Memory (k)=true:=zbb ⟨w0,by omega,by unfold mkB;omega⟩
  have d0:ilt (enL zc5 x.Memory (k)) 0=false:=zg1 (by omega)
  have c1:zht x.Guests (enL zc5 x.Memory (k))=true:=zbb ⟨w1,by omega,by unfold mkB;omega⟩
  have d1:ilt (enL zc9 x.Guests (enL zc5 x.Memory (k))) 0=false:=zg1 (by omega)
  have c2:zdQ x.Outs (enL zc9 x.Guests (enL zc5 x.Memory (k)))=true:=zbb ⟨w2,by omega,by unfold mkB;omega⟩
  have d2:ilt (enL zgA x.Outs (enL zc9 x.Guests (enL zc5 x.Memory (k)))) 0=false:=zg1 (by omega)
  simp (disch:=omega) only [zbr hi,zbn hi,hix,hw,v_Pending,c0,d0,zdc,c1,d1,zdP,c2,d2,zc3,zd0,zhq,zbF,zb5,cT,cF];rfl
  ) (fun k rec=>by simp only [zbe,cF]) a1 N he h0 h1 (hNN hl)
theorem zx9:Holds Tryz.prog 18 zkt:=zn zIy zA zq zu (zC (by kernel_rfl)) fun avs rs hb h=>by
 unfold zkt at h;split at h
 ·obtain ⟨hc,rfl⟩:=zi h;exact (fin2 zBP zEP hc hb :)
 ·cases h
def zRg:zbu:=[(18,zkt)]++zNs
theorem zP7:zbE zRg:=zl zx9 zIy
def zdw:zbu:=zRg
theorem zcf:∀f run,zx zdw f=some run->Holds Tryz.prog f run:=zP7
def W (c:Int)(f:Int->Int):Prop:=∀n,0<=n->n<=1048576->f n<=n/\(0<=f n->c<=15*(n-f n))
theorem zxm {α:Type}{m:α->Int}(h:∀x,m x<=15):∀l:List α,mcL m l<=15*l.length
 | []=>by simp [mcL]
 | x :: l=>by
  have:=zxm h l;have:=h x;simp only [mcL,List.length_cons];omega
theorem zSu {α:Type}{m:α->Int}(h:∀x,m x<=15)(l:List α):W (mcL m l) (szL l):=by
 intro n h0 h1;have:=zxm h l;unfold szL;split
 ·exact ⟨by omega,fun h=>by omega⟩
 ·exact ⟨by omega,fun h=>by omega⟩
theorem zSv {α:Type}{m mc:α->Int}{s:Int}{f:α->Int->Int}(hs:s<=15)(h:∀x,W (mc x) (f x))(hm:∀x,m x=mc x+s):∀l:List α,W (mcL m l-15*l.length) (zv5 f l)
 | []=>fun n h0 h1=>⟨Int.le_refl _,fun h=>by simp [mcL,zv5]⟩
 | x :: l=>by
  intro n h0 h1;obtain ⟨a,b⟩:=h x n h0 h1;simp only [zv5,mcL,List.length_cons];unfold thn;split
  ·exact ⟨by omega,fun h=>by omega⟩
  ·obtain ⟨c,d⟩:=zSv hs h hm l (f x n) (by omega) (by omega)
   refine ⟨by omega,fun hp=>?_⟩
   have:=b (by omega)
   have:=d hp;have:=hm x;omega
theorem zOB {α:Type}{m mc:α->Int}{s:Int}{f:α->Int->Int}(hs:s<=15)(h:∀x,W (mc x) (f x))(hm:∀x,m x=mc x+s)(l:List α):W (mcL m l) (zv6 f l):=by
 intro n h0 h1;unfold zv6 thn;split
 ·exact ⟨by omega,fun h=>by omega⟩
 ·obtain ⟨c,d⟩:=zSv hs h hm l (n-l.length) (by omega) (by omega)
  refine ⟨by omega,fun hp=>?_⟩
  have:=d hp;omega
theorem zTf (l:List Ins):W (mcL zi3 l) (zd4 l):=zSu (fun _=>by unfold zi3;decide) l
section
variable {α:Type} {f:α->Int->α} {nx:α->Int->Int} {m:α->Int}
structure Res (f:α->Int->α) (nx:α->Int->Int) (m:α->Int) (l:List α):Prop where
 c:0<=(1:Int)/\1+mcL m l<=mkB
 hc:mkL f nx (mkL f nx l 1) 1=mkL f nx l 1/\0<=(1:Int)/\1+mcL m (mkL f nx l 1)<=mkB
 e:enL nx (mkL f nx l 1) 1=enL nx l 1
 nn:ilt (enL nx l 1) 0=false
end
theorem zxR:∀l:List Int,mcL zqr l=l.length
 | []=>rfl
 | x :: l=>by simp only [mcL,zxR l,zqr,List.length_cons];omega
theorem zO6 {α:Type}{m:α->Int}:∀(l:List α) (k:Nat) (x d:α),k<l.length->m x<=m (ix l (k:Int) d)->mcL m (up l (k:Int) x)<=mcL m l
 | [],k,x,d,h,_=>by simp at h
 | y :: l,0,x,d,_,h=>by
  have e:ix (y :: l) ((0:Nat):Int) d=y:=rfl;rw [e] at h;have e2:up (y :: l) ((0:Nat):Int) x=x :: l:=rfl;rw [e2];simp only [mcL];omega
 | y :: l,k+1,x,d,h,hm=>by
  have hk:k<l.length:=by simpa using h
  have e:ix (y :: l) ((k+1:Nat):Int) d=ix l (k:Int) d:=by rw [zbx h,zbx hk];rfl
  have e2:up (y :: l) ((k+1:Nat):Int) x=y :: up l (k:Int) x:=by
   unfold up;have a1:((k+1:Nat):Int).toNat=k+1:=by omega
   have a2:((k:Nat):Int).toNat=k:=by omega
   rw [a1,a2];rfl
  rw [e] at hm;rw [e2];have:=zO6 l k x d hk hm;simp only [mcL];omega
theorem zpa {α:Type}{m:α->Int}{l:List α}{i:Int}{x:α}(d:α)(h:hasB i (ln l)=true)(hm:m x<=m (ix l i d)):mcL m (up l i x)<=mcL m l:=by
 obtain ⟨k,rfl,hk⟩:=zC3 (n:=l.length) h;exact zO6 l k x d hk hm
theorem zz0 {α:Type}{m m':α->Int}(h:∀x,m x<=m' x):∀l:List α,mcL m l<=mcL m' l
 | []=>Int.le_refl _
 | x :: l=>by
  have:=zz0 h l;have:=h x;simp only [mcL];omega
def canRun (g:Guest):Bool:=bif (ieq g.Exit.Kind 0&&(ieq g.Exit.Page 0&&(zeo g.Exit.Write false&&ieq g.Exit.N 0))) then !g.Halted else false
def zoU (_:Guest):Bool:=true
@[reducible] def zl0 (g:Guest):Bool:=canRun g
def zq2:List AV->Option (Bool×List AV)
 | [.agg [.s .ins c,.i .i64 d,.i .i64 e,.s .slot f,.s .slot g,.i .i64 h,.i .i64 j,.b k,.i .i64 l,.i .i64 m,.i .i64 n,.b o,.i .i64 p,.b q,.s .int r]]=>some ((zoU (⟨c,d,e,f,g,⟨h,j,k⟩,l,⟨m,n,o,p⟩,q,r⟩:Guest)),[.one (.b (zl0 (⟨c,d,e,f,g,⟨h,j,k⟩,l,⟨m,n,o,p⟩,q,r⟩:Guest)))])
 | _=>none
def zvc (N:Nat)(a0:Guest):Option Ans :=
 (cond (cond (ieq a0.Exit.Kind 0) (cond (ieq a0.Exit.Page 0) (cond (zeo a0.Exit.Write false) (ieq a0.Exit.N 0) false) false) false) (some [(.one (.b (cond a0.Halted false true)))]) (some [(.one (.b false))]))
theorem zMg (N:Nat)(a0:Guest):evalFn (cQ zyY zcu zF zG) (zB []) N 12 136 [.agg (Ty.cells .guest a0)]=zvc N a0:=by kernel_rfl
theorem zJm (a0:Guest)(hb:zD big [.agg (Ty.cells .guest a0)])(hc:(zoU a0)=true):∃N,zvc N a0=some [.one (.b (zl0 a0))]:=by
 refine ⟨0,?_⟩;unfold zvc zl0 canRun;cases ieq a0.Exit.Kind 0<;>cases ieq a0.Exit.Page 0<;>cases zeo a0.Exit.Write false<;>cases ieq a0.Exit.N 0<;>simp
theorem zDB:Holds Tryz.prog 136 zq2:=zn zo6 zbA zq zu (zC (by kernel_rfl)) fun avs rs hb h=>by
 unfold zq2 at h;split at h
 ·obtain ⟨hc,rfl⟩:=zi h;exact (fin1 zJm zMg hc hb :)
 ·cases h
def zot (_:Guest):Bool:=true
@[reducible] def zld (g:Guest):Bool:=canRun g
def zqx:List AV->Option (Bool×List AV)
 | [.agg [.s .ins c,.i .i64 d,.i .i64 e,.s .slot f,.s .slot g,.i .i64 h,.i .i64 j,.b k,.i .i64 l,.i .i64 m,.i .i64 n,.b o,.i .i64 p,.b q,.s .int r]]=>some ((zot (⟨c,d,e,f,g,⟨h,j,k⟩,l,⟨m,n,o,p⟩,q,r⟩:Guest)),[.one (.b (zld (⟨c,d,e,f,g,⟨h,j,k⟩,l,⟨m,n,o,p⟩,q,r⟩:Guest)))])
 | _=>none
def zuH (N:Nat)(a0:Guest):Option Ans :=
 (cond (cond (ieq a0.Exit.Kind 0) (cond (ieq a0.Exit.Page 0) (cond (zeo a0.Exit.Write false) (ieq a0.Exit.N 0) false) false) false) (some [(.one (.b (cond a0.Halted false true)))]) (some [(.one (.b false))]))
theorem zLK (N:Nat)(a0:Guest):evalFn (cQ zyY zcu zF zG) (zB []) N 12 203 [.agg (Ty.cells .guest a0)]=zuH N a0:=by kernel_rfl
theorem zIQ (a0:Guest)(hb:zD big [.agg (Ty.cells .guest a0)])(hc:(zot a0)=true):∃N,zuH N a0=some [.one (.b (zld a0))]:=by
 refine ⟨0,?_⟩;unfold zuH zld canRun;cases ieq a0.Exit.Kind 0<;>cases ieq a0.Exit.Page 0<;>cases zeo a0.Exit.Write false<;>cases ieq a0.Exit.N 0<;>simp
theorem zC6:Holds Tryz.prog 203 zqx:=zn zo6 zbA zq zu (zC (by kernel_rfl)) fun avs rs hb h=>by
 unfold zqx at h;split at h
 ·obtain ⟨hc,rfl⟩:=zi h;exact (fin1 zIQ zLK hc hb :)
 ·cases h
end
end Go.Proofs.YtldknngdnednbaaGreat.E
