/- What is proved here: FnExactFairRound: for every input the law returns true, and each argument reads afterwards as it read before. No conditions. -/
import Derived.Test.YtdmheolglokabaaGreatV5
namespace Go.Proofs.YtdmheolglokabaaGreat.E
open Go
set_option linter.unusedVariables false
set_option maxRecDepth 100000
set_option linter.unusedSimpArgs false
set_option linter.unusedSectionVars false
noncomputable section
def cz (l:List Slot):Nat:=l.countP fun s=>ieq s.Page 0
def zH:List Mon->Nat
 | []=>0
 | m :: l=>cz m.Outer+zH l
def bit (u:List Bool):Nat:=bif ix u 0 false then 1 else 0
theorem zxo (s:Slot)(l:List Slot):cz (s :: l)=cz l+bif ieq s.Page 0 then 1 else 0:=by
 unfold cz;rw [List.countP_cons];cases ieq s.Page 0<;>rfl
theorem z1O {u:List Bool}{p:Int}(hp:0<=p)(hlt:p.toNat<u.length)(x:Bool):ix (up u p x) 0 false=bif ieq p 0 then x else ix u 0 false:=by
 unfold ix up;cases h:ieq p 0
 ·have:p≠0:=by simpa [ieq] using h
  have hne:p.toNat≠0:=by omega
  simp [List.getD,List.getElem?_set,hne]
 ·have:p=0:=by simpa [ieq] using h
  subst this;have hlt:0<u.length:=hlt;simp [List.getD,List.getElem?_set,hlt]
theorem zCb:∀(l:List Slot) (u u':List Bool),(∀s∈l,s.Page<12)->u.length=12->zhR l u=some u'->cz l+bit u=bit u'
 | [],u,u',_,_,h=>by cases h;simp [cz]
 | s :: l,u,u',hs,hu,h=>by
  simp only [zhR] at h;rw [zxo];cases h1:ilt s.Page 0
  ·have h1:=of_decide_eq_false h1;rw [show ilt s.Page 0=false from decide_eq_false (by omega)] at h
   simp only [cF] at h;cases h2:ix u s.Page false
   ·rw [h2] at h;simp only [cF] at h;have hlt:s.Page.toNat<u.length:=by have:=hs s (by simp);omega
    have ih:=zCb l _ u' (fun t ht=>hs t (by simp [ht])) (by simpa using hu) h
    have e:bit (up u s.Page true)=bif ieq s.Page 0 then 1 else bit u:=by
     unfold bit;rw [z1O (by omega) hlt]
     cases ieq s.Page 0<;>rfl
    rw [e] at ih;cases h3:ieq s.Page 0
    ·rw [h3] at ih;simp only [cF] at ih ⊢;omega
    ·have h4:s.Page=0:=by simpa [ieq] using h3
     rw [h4] at h2;have:bit u=0:=by unfold bit;rw [h2];rfl
     rw [h3] at ih;simp only [cT] at ih ⊢;omega
   ·rw [h2] at h;cases h
  ·have h1':=of_decide_eq_true h1;rw [h1] at h;simp only [cT] at h;have ih:=zCb l u u' (fun t ht=>hs t (by simp [ht])) hu h
   have:ieq s.Page 0=false:=by simp [ieq];omega
   rw [this];simpa using ih
theorem zPO:∀(l:List Mon) (u:List Bool),u.length=12->zkw l u=true->zH l+bit u<=1
 | [],u,_,_=>by unfold zH bit;cases ix u 0 false<;>simp
 | m :: l,u,hu,h=>by
  simp only [zkw] at h;cases h1:zeg m
  ·rw [h1] at h;cases h
  ·rw [h1] at h;simp only [cT] at h;cases h2:zhR m.Outer u with
   | none=>rw [h2] at h;cases h
   | some u' =>
    rw [h2] at h;have e:=zCb _ _ _ (zCN (zkE h1)) hu h2;have ih:=zPO l u' ((znp _ _ _ h2).trans hu) h;simp only [zH];omega
theorem zXJ:∀(l:List Slot) (b:Nat) (s:Slot),l[b]?=some s->s.Page=0->cz (l.set b noSlot)+1=cz l
 | [],b,s,h,_=>by simp at h
 | t :: l,0,s,h,hs=>by
  simp only [List.getElem?_cons_zero,Option.some.injEq] at h;subst h;rw [List.set_cons_zero,zxo,zxo];have:ieq t.Page 0=true:=by simp [ieq,hs]
  rw [this];rfl
 | t :: l,b+1,s,h,hs=>by
  rw [List.set_cons_succ,zxo,zxo];have:=zXJ l b s (by simpa using h) hs
  omega
theorem zSG:∀(l:List Mon) (a:Nat) (x y:Mon),l[a]?=some x->zH (l.set a y)+cz x.Outer=zH l+cz y.Outer
 | [],a,x,y,h=>by simp at h
 | m :: l,0,x,y,h=>by
  simp only [List.getElem?_cons_zero,Option.some.injEq] at h;subst h;rw [List.set_cons_zero];simp only [zH];omega
 | m :: l,a+1,x,y,h=>by
  rw [List.set_cons_succ];have:=zSG l a x y (by simpa using h)
  simp only [zH];omega
theorem zWo {l:List Slot}(h:cz l=0):zzl l 0=none:=by
 unfold zzl;rw [List.findIdx?_eq_none_iff];intro s hs;have:=(List.countP_eq_zero.1 h) s hs;simpa using this
theorem zIj:∀(l:List Mon) (i:Nat),zH l=0->zkT 0 l i=(-1,-1)
 | [],_,_=>rfl
 | m :: l,i,h=>by
  simp only [zH] at h;simp only [zkT];rw [zWo (by omega)]
  exact zIj l (i+1) (by omega)
theorem zWp {l:List Slot}{k:Nat}(h:zzl l 0=some k):∃s,l[k]?=some s/\s.Page=0:=by
 unfold zzl at h;rw [List.findIdx?_eq_some_iff_getElem] at h;obtain ⟨hlt,h1,_⟩:=h;exact ⟨l[k],List.getElem?_eq_getElem hlt,by simpa [ieq] using h1⟩
theorem zDZ:∀(l:List Mon) (i:Nat),zkT 0 l i=(-1,-1)\/∃a b x s,zkT 0 l i=(((i+a:Nat):Int),((b:Nat):Int))/\l[a]?=some x/\x.Outer[b]?=some s/\s.Page=0
 | [],_=>.inl rfl
 | m :: l,i=>by
  simp only [zkT];cases h:zzl m.Outer 0 with
  | none =>
   rcases zDZ l (i+1) with h1|⟨a,b,x,s,h1,h2,h3,h4⟩
   ·exact .inl h1
   ·refine .inr ⟨a+1,b,x,s,?_,by simpa using h2,h3,h4⟩
    have e:i+1+a=i+(a+1):=by omega
    rw [h1,e]
  | some k =>
   obtain ⟨s,h1,h2⟩:=zWp h;exact .inr ⟨0,k,m,s,rfl,rfl,h1,h2⟩
def Fit (h:Host):Prop:=Shape h/\0<h.Memory.length/\zH h.Mons<=1
theorem zDR {h:Host}(hm:0<h.Memory.length)(ho:ilt (zdv h 0).1 0=true):inb 0 (ln (zcO h))=true:=by
 unfold zcO;obtain ⟨n,hn⟩:∃n,h.Memory.length=n+1:=⟨h.Memory.length-1,by omega⟩
 rw [hn];simp only [zFq];rw [show ilt (zdv h ((0:Nat):Int)).1 0=true from ho]
 exact decide_eq_true (by simp only [cT,ln,List.length_cons];omega)
theorem zWu {h:Host}(hm:0<h.Memory.length)(h0:ieq (ln (zcO h)) 0=true):ilt (zdv h 0).1 0=false:=by
 cases ho:ilt (zdv h 0).1 0
 ·rfl
 ·have h1:=of_decide_eq_true (zDR hm ho);have h2:ln (zcO h)=0:=by simpa [ieq] using h0
  omega
def zds (h:Host):Host:=bif ieq (ln (zcO h)) 0 then zfe h (zdv h 0).1 (zdv h 0).2 else h
structure Room (h r:Host):Prop where
 shape:Shape r
 free:inb 0 (ln (zcO r))=true
 len:r.Mons.length=h.Mons.length
 outer:∀m,(ix r.Mons m mZ).Outer.length=8\/True
theorem zYm {h:Host}(hf:Fit h)(h0:ieq (ln (zcO h)) 0=true):∃(a b:Nat) (x:Mon) (s:Slot),zdv h 0=((a:Int),(b:Int))/\h.Mons[a]?=some x/\x.Outer[b]?=some s/\s.Page=0:=by
 have h1:=zWu hf.2.1 h0;have e:zdv h 0=zkT 0 h.Mons 0:=rfl;rcases zDZ h.Mons 0 with h2|⟨a,b,x,s,h2,h3⟩
 ·rw [e,h2] at h1;cases h1
 ·exact ⟨a,b,x,s,by rw [e,h2,Nat.zero_add],h3⟩
theorem zCI {h:Host}(hf:Fit h)(h0:ieq (ln (zcO h)) 0=true):hasB (zdv h 0).1 (ln h.Mons)=true/\hasB (zdv h 0).2 8=true:=by
 obtain ⟨a,b,x,s,h1,h2,h3,h4⟩:=zYm hf h0;rw [h1];have ha:=(List.getElem?_eq_some_iff.1 h2).1;have hb:=(List.getElem?_eq_some_iff.1 h3).1;have hx:=hf.1.2 x (List.mem_of_getElem? h2);refine ⟨decide_eq_true (by simp only [ln];omega),decide_eq_true ?_⟩
 have:=hx.1
 show 0<=(b:Int)/\(b:Int)<8
 omega
theorem room {h:Host}(hf:Fit h):Room h (zds h):=by
 unfold zds;cases h0:ieq (ln (zcO h)) 0
 ·refine ⟨hf.1,decide_eq_true ?_,rfl,fun _=>.inr trivial⟩;have:ln (zcO h)≠0:=by simpa [ieq] using h0
  show 0<=(0:Int)/\(0:Int)<ln (zcO h)
  simp only [ln] at *;omega
 ·obtain ⟨hm,hp⟩:=zCI hf h0;obtain ⟨a,b,x,s,h1,h2,h3,h4⟩:=zYm hf h0;simp only [cT];rw [h1] at hm hp ⊢;have ha:=(List.getElem?_eq_some_iff.1 h2).1;have hb:=(List.getElem?_eq_some_iff.1 h3).1;have hxa:ix h.Mons (a:Int) mZ=x:=by rw [zbq ha];exact (List.getElem?_eq_some_iff.1 h2).2
  have hmons:=(zfD (zfm h (a:Int) (b:Int)) (a:Int) (b:Int) noSlot).1;have ex:ix (zfm h (a:Int) (b:Int)).Mons (a:Int) mZ={ x with Out:=up x.Out (b:Int) (zha h.Memory (ix x.Outer (b:Int) sZ).Page) }:=by
   unfold zfm;rw [ze3 ha,hxa]
  obtain ⟨y,hM,hy⟩:∃y,(zfe h (a:Int) (b:Int)).Mons=h.Mons.set a y/\y.Outer=x.Outer.set b noSlot:=by
   unfold zfe;rw [hmons,ex];unfold zfm;rw [zCR];exact ⟨_,by simp [up];rfl,by simp [up]⟩
  have hz:zH (zfe h (a:Int) (b:Int)).Mons=0:=by
   have e1:=zSG h.Mons a x y h2;have e2:=zXJ x.Outer b s h3 h4;have e3:=hf.2.2;rw [hM];rw [hy] at e1;omega
  have hmem:(zfe h (a:Int) (b:Int)).Memory=h.Memory:=(zfD (zfm h (a:Int) (b:Int)) (a:Int) (b:Int) noSlot).2;refine ⟨zXp hf.1 hm,zDR (by rw [hmem];exact hf.2.1) ?_,by rw [hM];simp,fun _=>.inr trivial⟩
  have e:zdv (zfe h (a:Int) (b:Int)) 0=zkT 0 (zfe h (a:Int) (b:Int)).Mons 0:=rfl;rw [e,zIj _ _ hz];rfl
theorem zR5 {m:List (List Int)}{p:Int}{c:List Int}(h:SmM m)(hc:c.length<=1048576):SmM (zif m p c):=by
 unfold zif;cases hasB p (ln m)
 ·exact h
 ·cases zc5 c
  ·exact h
  ·exact zIv h hc
def landing (r:Host)(m p to:Int):Host:={ r with Memory:=zif r.Memory to (ix (ix r.Mons m mZ).Out p []),Mons:=up r.Mons m { ix r.Mons m mZ with Out:=up (ix r.Mons m mZ).Out p [] } }
def zja (r:Host)(m p to:Int):Host:=zeC (landing r m p to) m p ⟨to,3⟩
def fetched (h:Host)(m p:Int):Host:=zja (zds h) m p (ix (zcO (zds h)) 0 0)
theorem zR6 {r:Host}{m p:Int}(hr:Shape r)(hm:hasB m (ln r.Mons)=true)(hp:hasB p 8=true):(ix (ix r.Mons m mZ).Out p []).length<=1048576:=by
 obtain ⟨g1,g2⟩:=zck hr hm;exact g1.2.1.2 _ (zdd (zda g2.2.1 hp) _)
theorem zq2 {r:Host}{m p to:Int}(hr:Shape r)(hm:hasB m (ln r.Mons)=true)(hp:hasB p 8=true):Shape (landing r m p to):=by
 obtain ⟨g1,g2⟩:=zck hr hm;exact zMi (h:={ r with Mons:=up r.Mons m { ix r.Mons m mZ with Out:=up (ix r.Mons m mZ).Out p [] } }) (zhp (x:={ ix r.Mons m mZ with Out:=up (ix r.Mons m mZ).Out p [] }) hr ⟨g1.1,zIv g1.2.1 (by simp),g1.2.2⟩ ⟨g2.1,by simpa using g2.2.1,g2.2.2⟩) (zR5 hr.1.1 (zR6 hr hm hp))
theorem zOh {r:Host}{m p to:Int}(hr:Shape r)(hm:hasB m (ln r.Mons)=true)(hp:hasB p 8=true):Shape (zja r m p to):=zq3 (zeb hm) (zq2 hr hm hp)
theorem znQ {h:Host}(hf:Fit h){m:Int}(hm:hasB m (ln h.Mons)=true):hasB m (ln (zds h).Mons)=true:=by
 rw [ln,(room hf).len];exact hm
theorem zkZ {h:Host}{m p:Int}(hf:Fit h)(hm:hasB m (ln h.Mons)=true)(hp:hasB p 8=true):Shape (fetched h m p)/\hasB m (ln (fetched h m p).Mons)=true :=
 ⟨zOh (room hf).shape (znQ hf hm) hp,zDS (zeb (znQ hf hm))⟩
@[simp,reducible] def zB4 (h:Host)(m p:Int):Bool:=pc (Fit h/\hasB m (ln h.Mons)=true/\hasB p 8=true)
@[simp,reducible] def zgT (h:Host)(m p:Int):Host:=fetched h m p
def zw8:List AV->Option (Bool×List AV)
 | [.agg [.s (.sl .int) b,.s .mon c,.s .entry d,.s .entry e],.one (.i .i64 f),.one (.i .i64 g)]=>some ((zB4 (⟨b,c,d,e⟩:Host) f g),[.agg (zA (zgT (⟨b,c,d,e⟩:Host) f g))])
 | _=>none
def zBc (N:Nat)(a0:Host)(a1 a2:Int):Option Ans :=
 (cond (zj9 a0) (cond (ieq (ln (zc2 a0)) 0) (cond (zi2 a0 0) (cond (zAf a0 (zbC a0 0) (zbG a0 0)) (cond (zj9 (zcL a0 (zbC a0 0) (zbG a0 0))) (cond (inb 0 (ln (zc2 (zcL a0 (zbC a0 0) (zbG a0 0))))) (cond (inb a1 (ln (zcL a0 (zbC a0 0) (zbG a0 0)).Mons)) (cond (inb a2 (ln (ix (zcL a0 (zbC a0 0) (zbG a0 0)).Mons a1 zf).Out)) (cond (zjD (zcL a0 (zbC a0 0) (zbG a0 0)).Memory (ix (zc2 (zcL a0 (zbC a0 0) (zbG a0 0))) 0 0) (ix (ix (zcL a0 (zbC a0 0) (zbG a0 0)).Mons a1 zf).Out a2 [])) (cond (inb a1 (ln (zcL a0 (zbC a0 0) (zbG a0 0)).Mons)) (cond (inb a2 (ln (ix (zcL a0 (zbC a0 0) (zbG a0 0)).Mons a1 zf).Out)) (share (up (zcL a0 (zbC a0 0) (zbG a0 0)).Mons a1 ({ (ix (zcL a0 (zbC a0 0) (zbG a0 0)).Mons a1 zf) with Out:=(up (ix (zcL a0 (zbC a0 0) (zbG a0 0)).Mons a1 zf).Out a2 []) }:Mon)) (fun x4=>(cond (zfo ({ (zcL a0 (zbC a0 0) (zbG a0 0)) with Memory:=(zf8 (zcL a0 (zbC a0 0) (zbG a0 0)).Memory (ix (zc2 (zcL a0 (zbC a0 0) (zbG a0 0))) 0 0) (ix (ix (zcL a0 (zbC a0 0) (zbG a0 0)).Mons a1 zf).Out a2 [])),Mons:=x4 }:Host) a1 a2 (⟨(ix (zc2 (zcL a0 (zbC a0 0) (zbG a0 0))) 0 0),3⟩:Slot)) (some [(.agg (zA (zhe ({ (zcL a0 (zbC a0 0) (zbG a0 0)) with Memory:=(zf8 (zcL a0 (zbC a0 0) (zbG a0 0)).Memory (ix (zc2 (zcL a0 (zbC a0 0) (zbG a0 0))) 0 0) (ix (ix (zcL a0 (zbC a0 0) (zbG a0 0)).Mons a1 zf).Out a2 [])),Mons:=x4 }:Host) a1 a2 (⟨(ix (zc2 (zcL a0 (zbC a0 0) (zbG a0 0))) 0 0),3⟩:Slot))))]) none))) none) none) none) none) none) none) none) none) none) (cond (zj9 a0) (cond (inb 0 (ln (zc2 a0))) (cond (inb a1 (ln a0.Mons)) (cond (inb a2 (ln (ix a0.Mons a1 zf).Out)) (cond (zjD a0.Memory (ix (zc2 a0) 0 0) (ix (ix a0.Mons a1 zf).Out a2 [])) (cond (inb a1 (ln a0.Mons)) (cond (inb a2 (ln (ix a0.Mons a1 zf).Out)) (share (up a0.Mons a1 ({ (ix a0.Mons a1 zf) with Out:=(up (ix a0.Mons a1 zf).Out a2 []) }:Mon)) (fun x4=>(cond (zfo ({ a0 with Memory:=(zf8 a0.Memory (ix (zc2 a0) 0 0) (ix (ix a0.Mons a1 zf).Out a2 [])),Mons:=x4 }:Host) a1 a2 (⟨(ix (zc2 a0) 0 0),3⟩:Slot)) (some [(.agg (zA (zhe ({ a0 with Memory:=(zf8 a0.Memory (ix (zc2 a0) 0 0) (ix (ix a0.Mons a1 zf).Out a2 [])),Mons:=x4 }:Host) a1 a2 (⟨(ix (zc2 a0) 0 0),3⟩:Slot))))]) none))) none) none) none) none) none) none) none)) none)
theorem zW9 (N:Nat)(a0:Host)(a1 a2:Int):zCq (cQ zkL zV zXf zXw) (zB []) N 12 201 [true,true,true,true,false,false] 1 1 [[0],[1],[2],[4],[7]] .mon [.agg (zA a0),.one (.i .i64 a1),.one (.i .i64 a2)]=zBc N a0 a1 a2:=by kernel_rfl
theorem zTm (a0:Host)(a1 a2:Int)(hb:zG big [.agg (zA a0),.one (.i .i64 a1),.one (.i .i64 a2)])(hc:(zB4 a0 a1 a2)=true):∃N,zBc N a0 a1 a2=some [.agg (zA (zgT a0 a1 a2))]:=by
 obtain ⟨hf,hm,hp⟩:=zJ.1 hc;have tail:∀r,Shape r->inb 0 (ln (zcO r))=true->hasB a1 (ln r.Mons)=true->(cond (zj9 r) (cond (inb 0 (ln (zc2 r))) (cond (inb a1 (ln r.Mons)) (cond (inb a2 (ln (ix r.Mons a1 zf).Out)) (cond (zjD r.Memory (ix (zc2 r) 0 0) (ix (ix r.Mons a1 zf).Out a2 [])) (cond (inb a1 (ln r.Mons)) (cond (inb a2 (ln (ix r.Mons a1 zf).Out)) (share (up r.Mons a1 ({ (ix r.Mons a1 zf) with Out:=(up (ix r.Mons a1 zf).Out a2 []) }:Mon)) (fun x4=>(cond (zfo ({ r with Memory:=(zf8 r.Memory (ix (zc2 r) 0 0) (ix (ix r.Mons a1 zf).Out a2 [])),Mons:=x4 }:Host) a1 a2 (⟨(ix (zc2 r) 0 0),3⟩:Slot)) (some [(AV.agg (zA (zhe ({ r with Memory:=(zf8 r.Memory (ix (zc2 r) 0 0) (ix (ix r.Mons a1 zf).Out a2 [])),Mons:=x4 }:Host) a1 a2 (⟨(ix (zc2 r) 0 0),3⟩:Slot))))]) none))) none) none) none) none) none) none) none)=some [AV.agg (zA (zja r a1 a2 (ix (zcO r) 0 0)))]:=by
  intro r hr hfree hrm;obtain ⟨g1,g2⟩:=zck hr hrm;have hL:=zq2 (to:=ix (zcO r) 0 0) hr hrm hp;obtain ⟨k,rfl,hk⟩:=zej (n:=r.Mons.length) hrm;refine must (zbt hr.1.1.1) (must hfree (must (zF hrm) (must (zF (zda g2.2.1 hp)) (must (zbt ⟨hr.1.1,zR6 hr hrm hp⟩) (must (zF hrm) (must (zF (zda g2.2.1 hp)) (shr (must (zbt ⟨(zbo _).2 hL.1,zeb hrm,?_,?_⟩) rfl))))))))
  ·simp only [ze3 hk];exact zda g2.1 hp
  ·simp only [ze3 hk];exact Nat.le_of_eq g2.2.2.2
 have hR:=room hf;have hrm:=znQ hf hm;refine ⟨0,?_⟩;unfold zBc zgT fetched;refine must (zbt hf.1.1.1.1) ?_;cases h0:ieq (ln (zc2 a0)) 0
 ·have er:zds a0=a0:=by unfold zds;rw [show ieq (ln (zcO a0)) 0=false from h0];rfl
  rw [er] at hR hrm ⊢;exact tail a0 hR.shape hR.free hrm
 ·obtain ⟨o1,o2⟩:=zCI hf h0;have er:zds a0=zfe a0 (zdv a0 0).1 (zdv a0 0).2:=by unfold zds;rw [show ieq (ln (zcO a0)) 0=true from h0];rfl
  rw [er] at hR hrm ⊢;exact must rfl (must rfl (must (zbt ⟨hf.1,o1,o2⟩) (tail _ hR.shape hR.free hrm)))
theorem zMP:zez Tryz.prog 201 [true,true,true,true,false,false] (some (1,1,[[0],[1],[2],[4],[7]])) zw8:=by
 refine zjR (kt:=.mon) (zdF zgr zD zLz zLF) (zC (by kernel_rfl)) (by kernel_rfl) ?_
 intro avs rs hl hr h;have hb:=zi8 hr;unfold zw8 at h;split at h
 ·obtain ⟨hc,rfl⟩:=zl h;obtain ⟨N,hN⟩:=zTm _ _ _ (by exact hb) hc
  exact ⟨⟨_,rfl⟩,rfl,_,N,12,(zW9 N _ _ _ ).trans hN⟩
 ·cases h
@[simp,reducible] def zp6 (h:Host):Bool:=pc (Shape h/\hasB (zdv h 0).1 (ln h.Mons)=true/\hasB (zdv h 0).2 8=true)
@[simp,reducible] def zb5 (h:Host):Host:=zfe h (zdv h 0).1 (zdv h 0).2
def zlb:List CV->List AV->Option (Bool×List CV×List AV)
 | [.s (.sl .int) b,.s .mon c,.s .entry d,.s .entry e],[]=>some ((zp6 (⟨b,c,d,e⟩:Host)),zA (zb5 (⟨b,c,d,e⟩:Host)),[])
 | _,_=>none
def zpK (N:Nat)(c:Host)  : Option Ans :=
 (cond (ziZ c 0) (cond (zFo c (zfJ c 0) (zgZ c 0)) (some [(.agg (zA (zFp c (zfJ c 0) (zgZ c 0))))]) none) none)
theorem zLe (N:Nat)(c:Host)  : zzh (cQ zkL zV zXf zXw) (zB []) N 12 238 [true,true,true,true] (zA c) []=zpK N c:=by kernel_rfl
theorem zHO (c:Host)(hb:zG big (.agg (zA c) :: []))(hc:(zp6 c)=true):∃N,zpK N c=some (.agg (zA (zb5 c)) :: []):=by
 have hs:=zJ.1 hc;refine ⟨0,?_⟩;unfold zpK;exact must rfl (must (zbt hs) rfl)
theorem zC4:zeJ Tryz.prog 238 [true,true,true,true] zlb:=by
 refine zhC (zdF zgr zD zLz zLF) (zC (by kernel_rfl)) ?_
 intro cs avs cs' rs hl hr h;have hb:=zi7 hr;unfold zlb at h;split at h
 ·obtain ⟨hc,rfl,rfl⟩:=zkI h;obtain ⟨N,hN⟩:=zHO _ (by exact hb) hc
  exact ⟨rfl,_,N,12,(zLe N _ ).trans hN⟩
 ·cases h
def zZK:zy3:=[(238,([true,true,true,true],zlb))]++zXf
theorem zVk:∀f own run,zx zZK f=some (own,run)->zeJ Tryz.prog f own run:=ztj zLz (by
 intro x hx;simp only [List.mem_cons,List.not_mem_nil,or_false] at hx;rcases hx with rfl
 ·exact zC4)
def zSa:zy4:=[(201,([true,true,true,true,false,false],(some (1,1,[[0],[1],[2],[4],[7]])),zw8))]++zXw
theorem zCQ:∀f own inp run,zx zSa f=some (own,inp,run)->zez Tryz.prog f own inp run:=zuJ zLF (by
 intro x hx;simp only [List.mem_cons,List.not_mem_nil,or_false] at hx;rcases hx with rfl
 ·exact zMP)
@[simp,reducible] def zBE (h:Host)(m p:Int):Bool:=pc (Fit h/\hasB m (ln h.Mons)=true/\hasB p 8=true)
@[simp,reducible] def zeX (h:Host)(m p:Int):Host:=fetched h m p
theorem zVN {r:Host}{m p to:Int}(hr:Shape r)(hm:hasB m (ln r.Mons)=true):zzM { landing r m p to with Mons:=up (landing r m p to).Mons m { ix (landing r m p to).Mons m mZ with Outer:=up (ix (landing r m p to).Mons m mZ).Outer p ⟨to,3⟩ } } m p (ix (ix (landing r m p to).Mons m mZ).Outer p sZ)=zja r m p to:=by
 obtain ⟨g1,g2⟩:=zck hr hm;obtain ⟨k,rfl,hk⟩:=zej (n:=r.Mons.length) hm;refine zAh (h:=landing r (k:Int) p to) (by simpa [landing] using hk) ?_
 unfold landing;simp only [ze3 hk];exact g2.2.2.2
theorem zUD {r:Host}{m p to:Int}(hr:Shape r)(hm:hasB m (ln r.Mons)=true)(hp:hasB p 8=true):Shape { landing r m p to with Mons:=up (landing r m p to).Mons m { ix (landing r m p to).Mons m mZ with Outer:=up (ix (landing r m p to).Mons m mZ).Outer p ⟨to,3⟩ } }:=by
 have hL:=zq2 (to:=to) hr hm hp;obtain ⟨q1,q2⟩:=zck hL (zeb hm);exact zhp hL ⟨by simpa using q1.1,q1.2⟩ ⟨by simpa using q2.1,q2.2⟩
def ztk:List CV->List AV->Option (Bool×List CV×List AV)
 | [.s (.sl .int) b,.s .mon c,.s .entry d,.s .entry e],[.one (.i .i64 f),.one (.i .i64 g)]=>some ((zBE (⟨b,c,d,e⟩:Host) f g),zA (zeX (⟨b,c,d,e⟩:Host) f g),[])
 | _,_=>none
def zAX (N:Nat)(c:Host)(a0 a1:Int):Option Ans :=
 (cond (zjS c) (cond (ieq (ln (zdx c)) 0) (cond (zp6 c) (cond (inb a0 (ln (zb5 c).Mons)) (cond (zjS (zb5 c)) (cond (inb 0 (ln (zdx (zb5 c)))) (cond (inb a1 (ln (ix (zb5 c).Mons a0 zf).Out)) (cond (zjo (zb5 c).Memory (ix (zdx (zb5 c)) 0 0) (ix (ix (zb5 c).Mons a0 zf).Out a1 [])) (cond (inb a1 (ln (ix (zb5 c).Mons a0 zf).Out)) (share (up (zb5 c).Mons a0 ({ (ix (zb5 c).Mons a0 zf) with Out:=(up (ix (zb5 c).Mons a0 zf).Out a1 []) }:Mon)) (fun x4=>(cond (inb a1 (ln (ix x4 a0 zf).Outer)) (cond (inb a1 (ln (ix x4 a0 zf).Outer)) (share (up x4 a0 ({ (ix x4 a0 zf) with Outer:=(up (ix x4 a0 zf).Outer a1 (⟨(ix (zdx (zb5 c)) 0 0),3⟩:Slot)) }:Mon)) (fun x5=>(cond (zd6 ({ (zb5 c) with Memory:=(zf2 (zb5 c).Memory (ix (zdx (zb5 c)) 0 0) (ix (ix (zb5 c).Mons a0 zf).Out a1 [])),Mons:=x5 }:Host) a0 a1 (ix (ix x4 a0 zf).Outer a1 zQ)) (some [(.agg (zA (zd7 ({ (zb5 c) with Memory:=(zf2 (zb5 c).Memory (ix (zdx (zb5 c)) 0 0) (ix (ix (zb5 c).Mons a0 zf).Out a1 [])),Mons:=x5 }:Host) a0 a1 (ix (ix x4 a0 zf).Outer a1 zQ))))]) none))) none) none))) none) none) none) none) none) none) none) (cond (inb a0 (ln c.Mons)) (cond (zjS c) (cond (inb 0 (ln (zdx c))) (cond (inb a1 (ln (ix c.Mons a0 zf).Out)) (cond (zjo c.Memory (ix (zdx c) 0 0) (ix (ix c.Mons a0 zf).Out a1 [])) (cond (inb a1 (ln (ix c.Mons a0 zf).Out)) (share (up c.Mons a0 ({ (ix c.Mons a0 zf) with Out:=(up (ix c.Mons a0 zf).Out a1 []) }:Mon)) (fun x4=>(cond (inb a1 (ln (ix x4 a0 zf).Outer)) (cond (inb a1 (ln (ix x4 a0 zf).Outer)) (share (up x4 a0 ({ (ix x4 a0 zf) with Outer:=(up (ix x4 a0 zf).Outer a1 (⟨(ix (zdx c) 0 0),3⟩:Slot)) }:Mon)) (fun x5=>(cond (zd6 ({ c with Memory:=(zf2 c.Memory (ix (zdx c) 0 0) (ix (ix c.Mons a0 zf).Out a1 [])),Mons:=x5 }:Host) a0 a1 (ix (ix x4 a0 zf).Outer a1 zQ)) (some [(.agg (zA (zd7 ({ c with Memory:=(zf2 c.Memory (ix (zdx c) 0 0) (ix (ix c.Mons a0 zf).Out a1 [])),Mons:=x5 }:Host) a0 a1 (ix (ix x4 a0 zf).Outer a1 zQ))))]) none))) none) none))) none) none) none) none) none) none)) none)
theorem zWT (N:Nat)(c:Host)(a0 a1:Int):zzh (cQ zkL zV zZK zSa) (zB []) N 12 214 [true,true,true,true] (zA c) [.one (.i .i64 a0),.one (.i .i64 a1)]=zAX N c a0 a1:=by kernel_rfl
theorem zS6 (c:Host)(a0 a1:Int)(hb:zG big (.agg (zA c) :: [.one (.i .i64 a0),.one (.i .i64 a1)]))(hc:(zBE c a0 a1)=true):∃N,zAX N c a0 a1=some (.agg (zA (zeX c a0 a1)) :: []):=by
 obtain ⟨hf,hm,hp⟩:=zJ.1 hc;have tail:∀r,Shape r->inb 0 (ln (zcO r))=true->hasB a0 (ln r.Mons)=true->(cond (inb a0 (ln r.Mons)) (cond (zjS r) (cond (inb 0 (ln (zdx r))) (cond (inb a1 (ln (ix r.Mons a0 zf).Out)) (cond (zjo r.Memory (ix (zdx r) 0 0) (ix (ix r.Mons a0 zf).Out a1 [])) (cond (inb a1 (ln (ix r.Mons a0 zf).Out)) (share (up r.Mons a0 ({ (ix r.Mons a0 zf) with Out:=(up (ix r.Mons a0 zf).Out a1 []) }:Mon)) (fun x4=>(cond (inb a1 (ln (ix x4 a0 zf).Outer)) (cond (inb a1 (ln (ix x4 a0 zf).Outer)) (share (up x4 a0 ({ (ix x4 a0 zf) with Outer:=(up (ix x4 a0 zf).Outer a1 (⟨(ix (zdx r) 0 0),3⟩:Slot)) }:Mon)) (fun x5=>(cond (zd6 ({ r with Memory:=(zf2 r.Memory (ix (zdx r) 0 0) (ix (ix r.Mons a0 zf).Out a1 [])),Mons:=x5 }:Host) a0 a1 (ix (ix x4 a0 zf).Outer a1 zQ)) (some [(AV.agg (zA (zd7 ({ r with Memory:=(zf2 r.Memory (ix (zdx r) 0 0) (ix (ix r.Mons a0 zf).Out a1 [])),Mons:=x5 }:Host) a0 a1 (ix (ix x4 a0 zf).Outer a1 zQ))))]) none))) none) none))) none) none) none) none) none) none)=some [AV.agg (zA (zja r a0 a1 (ix (zcO r) 0 0)))]:=by
  intro r hr hfree hrm;obtain ⟨g1,g2⟩:=zck hr hrm;have hL:=zUD (to:=ix (zcO r) 0 0) hr hrm hp;have hE:=zVN (p:=a1) (to:=ix (zcO r) 0 0) hr hrm;obtain ⟨k,rfl,hk⟩:=zej (n:=r.Mons.length) hrm;have hh:∀(x y:Mon),hasB (k:Int) (ln (up (up r.Mons (k:Int) x) (k:Int) y))=true:=fun x y=>by simpa [ln] using hrm
  have hi:inb a1 (ln (ix (up r.Mons (k:Int) { ix r.Mons (k:Int) mZ with Out:=up (ix r.Mons (k:Int) mZ).Out a1 [] }) (k:Int) mZ).Outer)=true:=by
   rw [ze3 hk];exact zF (zda g2.1 hp)
  refine must (zF hrm) (must (zbt hr.1.1.1) (must hfree (must (zF (zda g2.2.1 hp)) (must (zbt ⟨hr.1.1,zR6 hr hrm hp⟩) (must (zF (zda g2.2.1 hp)) (shr (must hi (must hi (shr (must (zbt ⟨hL,hh _ _⟩) ?_))))))))));exact congrArg (fun x=>some [AV.agg (zA x)]) hE
 have hR:=room hf;have hrm:=znQ hf hm;refine ⟨0,?_⟩;unfold zAX zeX fetched;refine must (zbt hf.1.1.1.1) ?_;cases h0:ieq (ln (zdx c)) 0
 ·have er:zds c=c:=by unfold zds;rw [show ieq (ln (zcO c)) 0=false from h0];rfl
  rw [er] at hR hrm ⊢;exact tail c hR.shape hR.free hrm
 ·obtain ⟨o1,o2⟩:=zCI hf h0;have er:zds c=zfe c (zdv c 0).1 (zdv c 0).2:=by unfold zds;rw [show ieq (ln (zcO c)) 0=true from h0];rfl
  rw [er] at hR hrm ⊢;exact must rfl (must (zbt ⟨hf.1,o1,o2⟩) (tail _ hR.shape hR.free hrm))
theorem zMz:zeJ Tryz.prog 214 [true,true,true,true] ztk:=by
 refine zhC (zdF zgr zD zVk zCQ) (zC (by kernel_rfl)) ?_
 intro cs avs cs' rs hl hr h;have hb:=zi7 hr;unfold ztk at h;split at h
 ·obtain ⟨hc,rfl,rfl⟩:=zkI h;obtain ⟨N,hN⟩:=zS6 _ _ _ (by exact hb) hc
  exact ⟨rfl,_,N,12,(zWT N _ _ _ ).trans hN⟩
 ·cases h
def zXg:zy3:=[(214,([true,true,true,true],ztk))]++zZK
theorem zLA:∀f own run,zx zXg f=some (own,run)->zeJ Tryz.prog f own run:=ztj zVk (by
 intro x hx;simp only [List.mem_cons,List.not_mem_nil,or_false] at hx;rcases hx with rfl
 ·exact zMz)
def zb6 (h:Host)(m p:Int):Host:={ h with Mons:=up h.Mons m { ix h.Mons m mZ with Dirty:=up (ix h.Mons m mZ).Dirty p true } }
def opened (h:Host)(m p:Int):Host:=bif ieq (wand .i64 (ix (ix h.Mons m mZ).Outer p sZ).Rights 2) 0 then zeC h m p ⟨(ix (ix h.Mons m mZ).Outer p sZ).Page,3⟩ else h
def zj3 (h:Host)(m p n:Int):Host:=bif ieq (wand .i64 n 2) 0 then h else opened (zb6 h m p) m p
def mended (h:Host)(m p n:Int):Host:=bif ieq (ix (ix h.Mons m mZ).Outer p sZ).Page (-1) then zj3 (fetched h m p) m p n else zj3 h m p n
theorem z0W {r:Int}(h0:0<=r)(h3:r<=3):enough r 2 = !ieq (wand .i64 r 2) 0:=by
 have:r=0\/r=1\/r=2\/r=3:=by omega
 rcases this with rfl|rfl|rfl|rfl<;>rfl
structure SlotFit (s:Slot):Prop where
 no:zec s noSlot=ieq s.Page (-1)
 lo:0<=s.Rights
 hi:s.Rights<=3
theorem zXq {s:Slot}{n:Int}(h:zeT s n=true):SlotFit s:=by
 refine ⟨zYD h,?_,?_⟩<;>unfold zeT at h<;>cases h1:zec s noSlot
 ·rw [h1] at h;simp only [cF,zdk] at h;have:=(zfT.1 h.2.2).1;omega
 ·unfold zec at h1;rw [Bool.and_eq_true] at h1;have:s.Rights=0:=of_decide_eq_true h1.2;omega
 ·rw [h1] at h;simp only [cF,zdk] at h;have:=(zfT.1 h.2.2).2;omega
 ·unfold zec at h1;rw [Bool.and_eq_true] at h1;have:s.Rights=0:=of_decide_eq_true h1.2;omega
theorem zkY {h:Host}{m p:Int}(hs:Shape h)(hm:hasB m (ln h.Mons)=true):Shape (zb6 h m p):=by
 obtain ⟨g1,g2⟩:=zck hs hm;exact zhp hs ⟨g1.1,g1.2.1,by simpa using g1.2.2.1,g1.2.2.2⟩ ⟨g2.1,g2.2.1,by simpa using g2.2.2.1,g2.2.2.2⟩
theorem zR2 {h:Host}{m p:Int}(hs:Shape h)(hm:hasB m (ln h.Mons)=true):Shape (opened h m p)/\hasB m (ln (opened h m p).Mons)=true:=by
 unfold opened;cases ieq (wand .i64 (ix (ix h.Mons m mZ).Outer p sZ).Rights 2) 0
 ·exact ⟨hs,hm⟩
 ·exact ⟨zq3 hm hs,zDS hm⟩
theorem zD6 {h:Host}{m p n:Int}(hs:Shape h)(hm:hasB m (ln h.Mons)=true):Shape (zj3 h m p n)/\hasB m (ln (zj3 h m p n).Mons)=true:=by
 unfold zj3;cases ieq (wand .i64 n 2) 0
 ·exact zR2 (zkY hs hm) (zeb hm)
 ·exact ⟨hs,hm⟩
theorem zR1 {h:Host}{m p n:Int}(hf:Fit h)(hm:hasB m (ln h.Mons)=true)(hp:hasB p 8=true):Shape (mended h m p n)/\hasB m (ln (mended h m p n).Mons)=true:=by
 unfold mended;cases ieq (ix (ix h.Mons m mZ).Outer p sZ).Page (-1)
 ·exact zD6 hf.1 hm
 ·obtain ⟨h1,h2⟩:=zkZ hf hm hp;exact zD6 h1 h2
theorem zPA {h:Host}{m p:Int}(hf:Fit h)(hm:hasB m (ln h.Mons)=true)(hp:hasB p 8=true):(ix (ix (fetched h m p).Mons m mZ).Outer p sZ).Rights=3:=by
 have hR:=room hf;have hrm:=znQ hf hm;obtain ⟨g1,g2⟩:=zck hR.shape hrm;obtain ⟨k,rfl,hk⟩:=zej (n:=(zds h).Mons.length) hrm;obtain ⟨q,rfl,hq⟩:=zej (n:=8) hp;unfold fetched zja;rw [(zfD _ _ _ _).1];have hk':k<(landing (zds h) (k:Int) (q:Int) (ix (zcO (zds h)) 0 0)).Mons.length:=by simpa [landing] using hk
 rw [ze3 hk'];have ho:q<(ix (landing (zds h) (k:Int) (q:Int) (ix (zcO (zds h)) 0 0)).Mons (k:Int) mZ).Outer.length:=by
  unfold landing;rw [ze3 hk]
  show q<(ix (zds h).Mons (k:Int) mZ).Outer.length
  rw [g2.1];exact hq
 show (ix (up (ix (landing (zds h) (k:Int) (q:Int) (ix (zcO (zds h)) 0 0)).Mons (k:Int) mZ).Outer (q:Int) ⟨_,3⟩) (q:Int) sZ).Rights=3
 rw [ze3 ho]
def zO0 (h:Host)(m p n:Int):Prop:=Fit h/\hasB m (ln h.Mons)=true/\hasB p 8=true/\(n=1\/n=2)/\SlotFit (ix (ix h.Mons m mZ).Outer p sZ)
@[simp,reducible] def zxd (h:Host)(m p n:Int):Bool:=pc (zO0 h m p n)
@[simp,reducible] def ze1 (h:Host)(m p n:Int):Host:=mended h m p n
def zqV:List AV->Option (Bool×List AV)
 | [.agg [.s (.sl .int) b,.s .mon c,.s .entry d,.s .entry e],.one (.i .i64 f),.one (.i .i64 g),.one (.i .i64 h)]=>some ((zxd (⟨b,c,d,e⟩:Host) f g h),[.agg (zA (ze1 (⟨b,c,d,e⟩:Host) f g h))])
 | _=>none
def zwv (N:Nat)(a0:Host)(a1 a2 a3:Int):Option Ans :=
 (cond (inb a1 (ln a0.Mons)) (cond (inb a2 (ln (ix a0.Mons a1 zf).Outer)) (cond zc6 (cond (cond (ieq (ix (ix a0.Mons a1 zf).Outer a2 zQ).Page zb0.Page) (ieq (ix (ix a0.Mons a1 zf).Outer a2 zQ).Rights zb0.Rights) false) (cond (zB4 a0 a1 a2) (cond (ieq (wand .i64 a3 2) 0) (some [(.agg (zA (zgT a0 a1 a2)))]) (cond (inb a1 (ln (zgT a0 a1 a2).Mons)) (cond (inb a2 (ln (ix (zgT a0 a1 a2).Mons a1 zf).Dirty)) (share (up (zgT a0 a1 a2).Mons a1 ({ (ix (zgT a0 a1 a2).Mons a1 zf) with Dirty:=(up (ix (zgT a0 a1 a2).Mons a1 zf).Dirty a2 true) }:Mon)) (fun x5=>(cond (inb a1 (ln x5)) (cond (inb a2 (ln (ix x5 a1 zf).Outer)) (cond (ieq (wand .i64 (ix (ix x5 a1 zf).Outer a2 zQ).Rights 2) 0) (cond (zfo ({ (zgT a0 a1 a2) with Mons:=x5 }:Host) a1 a2 ({ (ix (ix x5 a1 zf).Outer a2 zQ) with Rights:=3 }:Slot)) (some [(.agg (zA (zhe ({ (zgT a0 a1 a2) with Mons:=x5 }:Host) a1 a2 ({ (ix (ix x5 a1 zf).Outer a2 zQ) with Rights:=3 }:Slot))))]) none) (some [(.agg (zA ({ (zgT a0 a1 a2) with Mons:=x5 }:Host)))])) none) none))) none) none)) none) (cond (ieq (wand .i64 a3 2) 0) (some [(.agg (zA a0))]) (cond (inb a1 (ln a0.Mons)) (cond (inb a2 (ln (ix a0.Mons a1 zf).Dirty)) (share (up a0.Mons a1 ({ (ix a0.Mons a1 zf) with Dirty:=(up (ix a0.Mons a1 zf).Dirty a2 true) }:Mon)) (fun x5=>(cond (inb a1 (ln x5)) (cond (inb a2 (ln (ix x5 a1 zf).Outer)) (cond (ieq (wand .i64 (ix (ix x5 a1 zf).Outer a2 zQ).Rights 2) 0) (cond (zfo ({ a0 with Mons:=x5 }:Host) a1 a2 ({ (ix (ix x5 a1 zf).Outer a2 zQ) with Rights:=3 }:Slot)) (some [(.agg (zA (zhe ({ a0 with Mons:=x5 }:Host) a1 a2 ({ (ix (ix x5 a1 zf).Outer a2 zQ) with Rights:=3 }:Slot))))]) none) (some [(.agg (zA ({ a0 with Mons:=x5 }:Host)))])) none) none))) none) none))) none) none) none)
theorem zRS (N:Nat)(a0:Host)(a1 a2 a3:Int):zCq (cQ zkL zV zXg zSa) (zB []) N 12 160 [true,true,true,true,false,false,false] 1 1 [[0],[1],[2],[4],[7]] .mon [.agg (zA a0),.one (.i .i64 a1),.one (.i .i64 a2),.one (.i .i64 a3)]=zwv N a0 a1 a2 a3:=by kernel_rfl
theorem zNC (a0:Host)(a1 a2 a3:Int)(hb:zG big [.agg (zA a0),.one (.i .i64 a1),.one (.i .i64 a2),.one (.i .i64 a3)])(hc:(zxd a0 a1 a2 a3)=true):∃N,zwv N a0 a1 a2 a3=some [.agg (zA (ze1 a0 a1 a2 a3))]:=by
 obtain ⟨hf,hm,hp,hn,hs⟩:=zJ.1 hc;obtain ⟨g1,g2⟩:=zck hf.1 hm;have tail:∀r,Shape r->hasB a1 (ln r.Mons)=true->(cond (ieq (wand .i64 a3 2) 0) (some [(AV.agg (zA r))]) (cond (inb a1 (ln r.Mons)) (cond (inb a2 (ln (ix r.Mons a1 zf).Dirty)) (share (up r.Mons a1 ({ (ix r.Mons a1 zf) with Dirty:=(up (ix r.Mons a1 zf).Dirty a2 true) }:Mon)) (fun x5=>(cond (inb a1 (ln x5)) (cond (inb a2 (ln (ix x5 a1 zf).Outer)) (cond (ieq (wand .i64 (ix (ix x5 a1 zf).Outer a2 zQ).Rights 2) 0) (cond (zfo ({ r with Mons:=x5 }:Host) a1 a2 ({ (ix (ix x5 a1 zf).Outer a2 zQ) with Rights:=3 }:Slot)) (some [(AV.agg (zA (zhe ({ r with Mons:=x5 }:Host) a1 a2 ({ (ix (ix x5 a1 zf).Outer a2 zQ) with Rights:=3 }:Slot))))]) none) (some [(AV.agg (zA ({ r with Mons:=x5 }:Host)))])) none) none))) none) none))=some [AV.agg (zA (zj3 r a1 a2 a3))]:=by
  intro r hr hrm;obtain ⟨q1,q2⟩:=zck hr hrm;have hD:=zkY (p:=a2) hr hrm;unfold zj3;cases h0:ieq (wand .i64 a3 2) 0
  ·obtain ⟨k,rfl,hk⟩:=zej (n:=r.Mons.length) hrm;have ex:ix (zb6 r (k:Int) a2).Mons (k:Int) mZ={ ix r.Mons (k:Int) mZ with Dirty:=up (ix r.Mons (k:Int) mZ).Dirty a2 true }:=ze3 hk _ _;refine zeN rfl (must (zF hrm) (must (zF (zda q2.2.2.1 hp)) (shr (must (zF (zeb hrm)) (must ?_ ?_)))))
   ·rw [ze3 hk];exact zF (zda q2.1 hp)
   ·unfold opened
    show (cond (ieq (wand .i64 (ix (ix (zb6 r (k:Int) a2).Mons (k:Int) mZ).Outer a2 sZ).Rights 2) 0) _ _)=_
    cases h1:ieq (wand .i64 (ix (ix (zb6 r (k:Int) a2).Mons (k:Int) mZ).Outer a2 sZ).Rights 2) 0
    ·rfl
    ·refine must rfl (must (zbt ⟨(zbo _).2 hD.1,zeb hrm,?_,?_⟩) rfl)
     ·show hasB a2 (ln (ix (zb6 r (k:Int) a2).Mons (k:Int) mZ).Outer)=true
      rw [ex];exact zda q2.1 hp
     ·show (ix (zb6 r (k:Int) a2).Mons (k:Int) mZ).Tables.length<=(ix (zb6 r (k:Int) a2).Mons (k:Int) mZ).Guests.length
      rw [ex];exact Nat.le_of_eq q2.2.2.2
  ·rfl
 refine ⟨0,?_⟩;unfold zwv ze1 mended;refine must (zF hm) (must (zF (zda g2.1 hp)) (must rfl ?_));have e:(cond (ieq (ix (ix a0.Mons a1 mZ).Outer a2 sZ).Page zb0.Page) (ieq (ix (ix a0.Mons a1 mZ).Outer a2 sZ).Rights zb0.Rights) false)=ieq (ix (ix a0.Mons a1 mZ).Outer a2 sZ).Page (-1):=by
  rw [<- hs.no];unfold zec zb0;cases ieq (ix (ix a0.Mons a1 mZ).Outer a2 sZ).Page noSlot.Page<;>rfl
 rw [e];cases h0:ieq (ix (ix a0.Mons a1 mZ).Outer a2 sZ).Page (-1)
 ·exact tail a0 hf.1 hm
 ·obtain ⟨h1,h2⟩:=zkZ (p:=a2) hf hm hp;exact must rfl (must (zbt ⟨hf,hm,hp⟩) (tail _ h1 h2))
theorem zHr:zez Tryz.prog 160 [true,true,true,true,false,false,false] (some (1,1,[[0],[1],[2],[4],[7]])) zqV:=by
 refine zjR (kt:=.mon) (zdF zgr zD zLA zCQ) (zC (by kernel_rfl)) (by kernel_rfl) ?_
 intro avs rs hl hr h;have hb:=zi8 hr;unfold zqV at h;split at h
 ·obtain ⟨hc,rfl⟩:=zl h;obtain ⟨N,hN⟩:=zNC _ _ _ _ (by exact hb) hc
  exact ⟨⟨_,rfl⟩,rfl,_,N,12,(zRS N _ _ _ _ ).trans hN⟩
 ·cases h
@[simp,reducible] def zFn (h:Host)(m p n:Int):Bool:=pc (zO0 h m p n)
@[simp,reducible] def zh4 (h:Host)(m p n:Int):Host:=mended h m p n
def zwJ:List CV->List AV->Option (Bool×List CV×List AV)
 | [.s (.sl .int) b,.s .mon c,.s .entry d,.s .entry e],[.one (.i .i64 f),.one (.i .i64 g),.one (.i .i64 h)]=>some ((zFn (⟨b,c,d,e⟩:Host) f g h),zA (zh4 (⟨b,c,d,e⟩:Host) f g h),[])
 | _,_=>none
def zEj (N:Nat)(c:Host)(a0 a1 a2:Int):Option Ans :=
 (cond (inb a0 (ln c.Mons)) (cond (inb a1 (ln (ix c.Mons a0 zf).Outer)) (cond (ieq (ix (ix c.Mons a0 zf).Outer a1 zQ).Page (-1)) (cond (zBE c a0 a1) (cond (zdg a2 2) (cond (cond (zdL a2 2) false true) (some [(.agg (zA (zeX c a0 a1)))]) (cond (inb a0 (ln (zeX c a0 a1).Mons)) (cond (inb a1 (ln (ix (zeX c a0 a1).Mons a0 zf).Dirty)) (share (up (zeX c a0 a1).Mons a0 ({ (ix (zeX c a0 a1).Mons a0 zf) with Dirty:=(up (ix (zeX c a0 a1).Mons a0 zf).Dirty a1 true) }:Mon)) (fun x5=>(cond (inb a1 (ln (ix x5 a0 zf).Outer)) (cond (zdg (ix (ix x5 a0 zf).Outer a1 zQ).Rights 2) (cond (cond (zdL (ix (ix x5 a0 zf).Outer a1 zQ).Rights 2) false true) (cond (inb a1 (ln (ix x5 a0 zf).Outer)) (share (up x5 a0 ({ (ix x5 a0 zf) with Outer:=(up (ix x5 a0 zf).Outer a1 ({ (ix (ix x5 a0 zf).Outer a1 zQ) with Rights:=3 }:Slot)) }:Mon)) (fun x6=>(cond (zd6 ({ (zeX c a0 a1) with Mons:=x6 }:Host) a0 a1 (ix (ix x5 a0 zf).Outer a1 zQ)) (some [(.agg (zA (zd7 ({ (zeX c a0 a1) with Mons:=x6 }:Host) a0 a1 (ix (ix x5 a0 zf).Outer a1 zQ))))]) none))) none) (some [(.agg (zA ({ (zeX c a0 a1) with Mons:=x5 }:Host)))])) none) none))) none) none)) none) none) (cond (zdg a2 2) (cond (cond (zdL a2 2) false true) (some [(.agg (zA c))]) (cond (inb a0 (ln c.Mons)) (cond (inb a1 (ln (ix c.Mons a0 zf).Dirty)) (share (up c.Mons a0 ({ (ix c.Mons a0 zf) with Dirty:=(up (ix c.Mons a0 zf).Dirty a1 true) }:Mon)) (fun x5=>(cond (inb a1 (ln (ix x5 a0 zf).Outer)) (cond (zdg (ix (ix x5 a0 zf).Outer a1 zQ).Rights 2) (cond (cond (zdL (ix (ix x5 a0 zf).Outer a1 zQ).Rights 2) false true) (cond (inb a1 (ln (ix x5 a0 zf).Outer)) (share (up x5 a0 ({ (ix x5 a0 zf) with Outer:=(up (ix x5 a0 zf).Outer a1 ({ (ix (ix x5 a0 zf).Outer a1 zQ) with Rights:=3 }:Slot)) }:Mon)) (fun x6=>(cond (zd6 ({ c with Mons:=x6 }:Host) a0 a1 (ix (ix x5 a0 zf).Outer a1 zQ)) (some [(.agg (zA (zd7 ({ c with Mons:=x6 }:Host) a0 a1 (ix (ix x5 a0 zf).Outer a1 zQ))))]) none))) none) (some [(.agg (zA ({ c with Mons:=x5 }:Host)))])) none) none))) none) none)) none)) none) none)
theorem zYg (N:Nat)(c:Host)(a0 a1 a2:Int):zzh (cQ zkL zV zXg zSa) (zB []) N 12 181 [true,true,true,true] (zA c) [.one (.i .i64 a0),.one (.i .i64 a1),.one (.i .i64 a2)]=zEj N c a0 a1 a2:=by kernel_rfl
theorem zWG (c:Host)(a0 a1 a2:Int)(hb:zG big (.agg (zA c) :: [.one (.i .i64 a0),.one (.i .i64 a1),.one (.i .i64 a2)]))(hc:(zFn c a0 a1 a2)=true):∃N,zEj N c a0 a1 a2=some (.agg (zA (zh4 c a0 a1 a2)) :: []):=by
 obtain ⟨hf,hm,hp,hn,hs⟩:=zJ.1 hc;obtain ⟨g1,g2⟩:=zck hf.1 hm;have en:enough a2 2 = !ieq (wand .i64 a2 2) 0:=by rcases hn with rfl|rfl<;>rfl
 have tail:∀r,Shape r->hasB a0 (ln r.Mons)=true->enough (ix (ix r.Mons a0 mZ).Outer a1 sZ).Rights 2=(!ieq (wand .i64 (ix (ix r.Mons a0 mZ).Outer a1 sZ).Rights 2) 0)->(cond (zdg a2 2) (cond (cond (zdL a2 2) false true) (some [(AV.agg (zA r))]) (cond (inb a0 (ln r.Mons)) (cond (inb a1 (ln (ix r.Mons a0 zf).Dirty)) (share (up r.Mons a0 ({ (ix r.Mons a0 zf) with Dirty:=(up (ix r.Mons a0 zf).Dirty a1 true) }:Mon)) (fun x5=>(cond (inb a1 (ln (ix x5 a0 zf).Outer)) (cond (zdg (ix (ix x5 a0 zf).Outer a1 zQ).Rights 2) (cond (cond (zdL (ix (ix x5 a0 zf).Outer a1 zQ).Rights 2) false true) (cond (inb a1 (ln (ix x5 a0 zf).Outer)) (share (up x5 a0 ({ (ix x5 a0 zf) with Outer:=(up (ix x5 a0 zf).Outer a1 ({ (ix (ix x5 a0 zf).Outer a1 zQ) with Rights:=3 }:Slot)) }:Mon)) (fun x6=>(cond (zd6 ({ r with Mons:=x6 }:Host) a0 a1 (ix (ix x5 a0 zf).Outer a1 zQ)) (some [(AV.agg (zA (zd7 ({ r with Mons:=x6 }:Host) a0 a1 (ix (ix x5 a0 zf).Outer a1 zQ))))]) none))) none) (some [(AV.agg (zA ({ r with Mons:=x5 }:Host)))])) none) none))) none) none)) none)=some [AV.agg (zA (zj3 r a0 a1 a2))]:=by
  intro r hr hrm her;obtain ⟨q1,q2⟩:=zck hr hrm;have hD:=zkY (p:=a1) hr hrm;unfold zj3;simp only [zdg,zdL,en,cT];cases h0:ieq (wand .i64 a2 2) 0
  ·obtain ⟨k,rfl,hk⟩:=zej (n:=r.Mons.length) hrm;have ex:ix (zb6 r (k:Int) a1).Mons (k:Int) mZ={ ix r.Mons (k:Int) mZ with Dirty:=up (ix r.Mons (k:Int) mZ).Dirty a1 true }:=ze3 hk _ _;have hk':k<(zb6 r (k:Int) a1).Mons.length:=by simpa [zb6] using hk
   have hi:inb a1 (ln (ix (zb6 r (k:Int) a1).Mons (k:Int) mZ).Outer)=true:=by
    rw [ex];exact zF (zda q2.1 hp)
   refine zeN rfl (must (zF hrm) (must (zF (zda q2.2.2.1 hp)) (shr (must hi ?_))));unfold opened
   show (cond (cond (enough (ix (ix (zb6 r (k:Int) a1).Mons (k:Int) mZ).Outer a1 sZ).Rights 2) false true) _ _)=_
   have e2:(cond (enough (ix (ix (zb6 r (k:Int) a1).Mons (k:Int) mZ).Outer a1 sZ).Rights 2) false true)=ieq (wand .i64 (ix (ix (zb6 r (k:Int) a1).Mons (k:Int) mZ).Outer a1 sZ).Rights 2) 0:=by
    rw [ex]
    show (cond (enough (ix (ix r.Mons (k:Int) mZ).Outer a1 sZ).Rights 2) false true)=ieq (wand .i64 (ix (ix r.Mons (k:Int) mZ).Outer a1 sZ).Rights 2) 0
    rw [her];cases ieq (wand .i64 (ix (ix r.Mons (k:Int) mZ).Outer a1 sZ).Rights 2) 0<;>rfl
   rw [e2];cases h1:ieq (wand .i64 (ix (ix (zb6 r (k:Int) a1).Mons (k:Int) mZ).Outer a1 sZ).Rights 2) 0
   ·rfl
   ·have hX:Shape { zb6 r (k:Int) a1 with Mons:=up (zb6 r (k:Int) a1).Mons (k:Int) { ix (zb6 r (k:Int) a1).Mons (k:Int) mZ with Outer:=up (ix (zb6 r (k:Int) a1).Mons (k:Int) mZ).Outer a1 ⟨(ix (ix (zb6 r (k:Int) a1).Mons (k:Int) mZ).Outer a1 sZ).Page,3⟩ } }:=by
     obtain ⟨w1,w2⟩:=zck hD (zeb hrm);exact zhp hD ⟨by simpa using w1.1,w1.2⟩ ⟨by simpa using w2.1,w2.2⟩
    have hh:∀(x y:Mon),hasB (k:Int) (ln (up (up r.Mons (k:Int) x) (k:Int) y))=true:=fun x y=>by simpa [ln] using hrm
    refine must rfl (must hi (shr (must (zbt ⟨hX,hh _ _⟩) ?_)));exact congrArg (fun x=>some [AV.agg (zA x)]) (zAh (h:=zb6 r (k:Int) a1) (p:=a1) (s:=⟨(ix (ix (zb6 r (k:Int) a1).Mons (k:Int) mZ).Outer a1 sZ).Page,3⟩) hk' (by rw [ex];exact q2.2.2.2))
  ·rfl
 refine ⟨0,?_⟩;unfold zEj zh4 mended;refine must (zF hm) (must (zF (zda g2.1 hp)) ?_);cases h0:ieq (ix (ix c.Mons a0 mZ).Outer a1 sZ).Page (-1)
 ·exact tail c hf.1 hm (z0W hs.lo hs.hi)
 ·obtain ⟨h1,h2⟩:=zkZ (p:=a1) hf hm hp;exact must rfl (must (zbt ⟨hf,hm,hp⟩) (tail _ h1 h2 (by rw [zPA hf hm hp];rfl)))
theorem zPK:zeJ Tryz.prog 181 [true,true,true,true] zwJ:=by
 refine zhC (zdF zgr zD zLA zCQ) (zC (by kernel_rfl)) ?_
 intro cs avs cs' rs hl hr h;have hb:=zi7 hr;unfold zwJ at h;split at h
 ·obtain ⟨hc,rfl,rfl⟩:=zkI h;obtain ⟨N,hN⟩:=zWG _ _ _ _ (by exact hb) hc
  exact ⟨rfl,_,N,12,(zYg N _ _ _ _ ).trans hN⟩
 ·cases h
def zhM:zy3:=[(181,([true,true,true,true],zwJ))]++zXg
theorem zem:∀f own run,zx zhM f=some (own,run)->zeJ Tryz.prog f own run:=ztj zLA (by
 intro x hx;simp only [List.mem_cons,List.not_mem_nil,or_false] at hx;rcases hx with rfl
 ·exact zPK)
def zF3:zy4:=[(160,([true,true,true,true,false,false,false],(some (1,1,[[0],[1],[2],[4],[7]])),zqV))]++zSa
theorem zxT:∀f own inp run,zx zF3 f=some (own,inp,run)->zez Tryz.prog f own inp run:=zuJ zCQ (by
 intro x hx;simp only [List.mem_cons,List.not_mem_nil,or_false] at hx;rcases hx with rfl
 ·exact zHr)
theorem zHv {h:Host}(hh:zdm h=true):h.Memory.length=12:=by
 unfold zdm at hh;simp only [zdk] at hh;have h1:=hh.1;unfold zib at h1;simp only [zdk] at h1;have:ln h.Memory=12:=of_decide_eq_true h1.2;simp only [ln] at this;omega
theorem zhj {h:Host}(hh:zdm h=true):∀x∈h.Mons,zeg x=true:=by
 unfold zdm at hh;simp only [zdk] at hh;exact zHu _ _ hh.2.2.2.2
theorem zFJ {x:Mon}(hk:zeg x=true):ShM x:=by
 have ho:=zvG (zkE hk);unfold zeg at hk;simp only [zdk] at hk;have e1:ln x.Tables=ln x.Guests:=of_decide_eq_true hk.2.1;have e2:ln x.Out=8:=of_decide_eq_true hk.2.2.2.1;have e3:ln x.Dirty=8:=of_decide_eq_true hk.2.2.2.2.1;simp only [ln] at *;exact ⟨by omega,by omega,by omega,by omega⟩
theorem zzv {h:Host}(hs:SmH h)(hh:zdm h=true):Fit h:=by
 refine ⟨⟨hs,fun x hx=>zFJ (zhj hh x hx)⟩,by rw [zHv hh];decide,?_⟩
 unfold zdm at hh;simp only [zdk] at hh;have:=zPO _ _ rfl hh.2.2.2.2;omega
theorem zH5 {x:Mon}(hk:zeg x=true){p:Int}(hp:hasB p 8=true):SlotFit (ix x.Outer p sZ):=by
 have ht:=zkE hk;unfold zdK at ht;simp only [zdk] at ht;exact zXq (List.all_eq_true.1 ht.1 _ (zdd (zda (zFJ hk).1 hp) _))
theorem zSR {h:Host}{m p:Int}(hf:Fit h)(hm:hasB m (ln h.Mons)=true):Fit (zb6 h m p):=by
 refine ⟨zkY hf.1 hm,hf.2.1,?_⟩;obtain ⟨k,rfl,hk⟩:=zej (n:=h.Mons.length) hm;have:=zSG h.Mons k (ix h.Mons (k:Int) mZ) { ix h.Mons (k:Int) mZ with Dirty:=up (ix h.Mons (k:Int) mZ).Dirty p true } (by rw [zbq hk];exact List.getElem?_eq_getElem hk)
 have h3:=hf.2.2;unfold zb6;simp only [up,Int.toNat_natCast]
 dsimp only at this
 simp only [up] at this;omega
abbrev gZ:Guest:=Ty.dflt .guest
@[simp,reducible] def zpi (h:Host)(m:Int):Bool:=pc (zea h)
@[simp,reducible] def zbl (h:Host)(m:Int):Mon:=bif hasB m (ln h.Mons) then ix h.Mons m mZ else mZ
@[simp,reducible] def zjj (h:Host)(m:Int):Bool:=hasB m (ln h.Mons)
def zwP:List AV->Option (Bool×List AV)
 | [.agg [.s (.sl .int) c,.s .mon d,.s .entry e,.s .entry f],.one (.i .i64 g)]=>some ((zpi (⟨c,d,e,f⟩:Host) g),[.agg (Ty.cells .mon (zbl (⟨c,d,e,f⟩:Host) g)),.one (.b (zjj (⟨c,d,e,f⟩:Host) g))])
 | _=>none
def zAS (N:Nat)(a0:Host)(a1:Int):Option Ans :=
 (cond (zcz a1 (ln a0.Mons)) (cond (cond (zcS a1 (ln a0.Mons)) false true) (some [(.agg (Ty.cells .mon (⟨[],[],[],[],[],0,0,[],0⟩:Mon))),(.one (.b false))]) (cond (inb a1 (ln a0.Mons)) (cond (ziF (ix a0.Mons a1 zf)) (some [(.agg (Ty.cells .mon (zhT (ix a0.Mons a1 zf)))),(.one (.b true))]) none) none)) none)
theorem zWP (N:Nat)(a0:Host)(a1:Int):evalFn (cQ zkL zV zhM zF3) (zB []) N 12 50 [.agg (zA a0),.one (.i .i64 a1)]=zAS N a0 a1:=by kernel_rfl
theorem zS2 (a0:Host)(a1:Int)(hb:zG big [.agg (zA a0),.one (.i .i64 a1)])(hc:(zpi a0 a1)=true):∃N,zAS N a0 a1=some [.agg (Ty.cells .mon (zbl a0 a1)),.one (.b (zjj a0 a1))]:=by
 have hs:=(zbo a0).1 (zJ.1 hc);refine ⟨0,?_⟩;unfold zAS zbl zjj;refine must rfl ?_;rw [show zcS a1 (ln a0.Mons)=hasB a1 (ln a0.Mons) from rfl]
 cases hh:hasB a1 (ln a0.Mons)
 ·rfl
 ·exact zeN rfl (must (zF hh) (must (zbt (hs.2.1.2 _ (zdd hh _))) rfl))
theorem zMv:Holds Tryz.prog 50 zwP:=zo zgr zD zem zxT (zC (by kernel_rfl)) fun avs rs hb h=>by
 unfold zwP at h;split at h
 ·obtain ⟨hc,rfl⟩:=zl h;exact (fin2 zS2 zWP hc hb :)
 ·cases h
def zcD (h:Host)(m g:Int):Bool:=bif zdm h then (cond (hasB m (ln h.Mons)) (hasB g (ln (ix h.Mons m mZ).Guests)) false) else false
@[simp,reducible] def zgk (h:Host)(m g:Int):Bool:=pc (zea h)
@[simp,reducible] def zhQ (h:Host)(m g:Int):Bool:=zcD h m g
def zw9:List AV->Option (Bool×List AV)
 | [.agg [.s (.sl .int) c,.s .mon d,.s .entry e,.s .entry f],.one (.i .i64 g),.one (.i .i64 h)]=>some ((zgk (⟨c,d,e,f⟩:Host) g h),[.one (.b (zhQ (⟨c,d,e,f⟩:Host) g h))])
 | _=>none
def zBd (N:Nat)(a0:Host)(a1 a2:Int):Option Ans :=
 (cond (zrO a0) (cond (zov a0) (cond (zZ a1 0 (wsub .i64 (ln a0.Mons) 1)) (cond (zbe a1 0 (wsub .i64 (ln a0.Mons) 1)) (cond (inb a1 (ln a0.Mons)) (cond (zZ a2 0 (wsub .i64 (ln (ix a0.Mons a1 zf).Guests) 1)) (some [(.one (.b (zbe a2 0 (wsub .i64 (ln (ix a0.Mons a1 zf).Guests) 1))))]) none) none) (some [(.one (.b false))])) none) (some [(.one (.b false))])) none)
theorem zXa (N:Nat)(a0:Host)(a1 a2:Int):evalFn (cQ zkL zV zhM zF3) (zB []) N 12 39 [.agg (zA a0),.one (.i .i64 a1),.one (.i .i64 a2)]=zBd N a0 a1 a2:=by kernel_rfl
theorem zTn (a0:Host)(a1 a2:Int)(hb:zG big [.agg (zA a0),.one (.i .i64 a1),.one (.i .i64 a2)])(hc:(zgk a0 a1 a2)=true):∃N,zBd N a0 a1 a2=some [.one (.b (zhQ a0 a1 a2))]:=by
 have hs:=(zbo a0).1 (zJ.1 hc);refine ⟨0,?_⟩;unfold zBd zhQ zcD;refine must rfl ?_;rw [show zov a0=zdm a0 from rfl]
 cases hh:zdm a0
 ·rfl
 ·rw [show zbe a1 0 (wsub .i64 (ln a0.Mons) 1)=hasB a1 (ln a0.Mons) from zr5 hs.2.1.1 a1]
  refine must rfl (must rfl ?_);cases h1:hasB a1 (ln a0.Mons)
  ·rfl
  ·have hg:(ix a0.Mons a1 mZ).Guests.length<=1048576:=(hs.2.1.2 _ (zdd h1 _)).2.2.2.1.1;rw [show zbe a2 0 (wsub .i64 (ln (ix a0.Mons a1 zf).Guests) 1)=hasB a2 (ln (ix a0.Mons a1 mZ).Guests) from zr5 hg a2]
   exact must rfl (must (zF h1) (must rfl rfl))
theorem zMQ:Holds Tryz.prog 39 zw9:=zo zgr zD zem zxT (zC (by kernel_rfl)) fun avs rs hb h=>by
 unfold zw9 at h;split at h
 ·obtain ⟨hc,rfl⟩:=zl h;exact (zd3 zTn zXa hc hb :)
 ·cases h
def zjB (h:Host)(m:Int):Nat->Nat->List (List Int)
 | 0,_=>[]
 | n+1,i=>zjA h m (i:Int) :: zjB h m n (i+1)
theorem zzW (h:Host)(m:Int):∀(n i:Nat),(zjB h m n i).length=n
 | 0,_=>rfl
 | n+1,i=>by simp [zjB,zzW h m n]
def zes (h:Host)(m:Int):Bare:=bif hasB m (ln h.Mons) then ⟨zjB h m 8 0,(ix h.Mons m mZ).Guests,(ix h.Mons m mZ).Outs,(ix h.Mons m mZ).Pending⟩ else ⟨[],[],[],0⟩
theorem zL5 {ρ:Type}(h:Host)(m:Int)(K:List (List Int)->Option ρ):∀(n i:Nat) (acc:List (List Int)),acc.length+n<=2147483648 ->
 goN (fun i acc κ=>bif few (ln (ap acc [zjA h m (i:Int)])) then κ (ap acc [zjA h m (i:Int)]) else none) K n i acc=K (acc++zjB h m n i)
 | 0,_,acc,_=>by simp [goN,zjB]
 | n+1,i,acc,hl=>by
  simp only [goN,zjB];rw [zeo (by simp [ap];omega),cT,zL5 h m K n (i+1) _ (by simp [ap];omega)]
  simp [ap]
@[simp,reducible] def zzF (h:Host)(m:Int):Bool:=pc (zea h)
@[simp,reducible] def znL (h:Host)(m:Int):Bare:=zes h m
def zV6:zbQ:=[(50,zwP),(39,zw9)]++zkL
theorem zPp:zbw zV6:=zn zMv (zn zMQ zgr)
def ztD:List AV->Option (Bool×List AV)
 | [.agg [.s (.sl .int) b,.s .mon c,.s .entry d,.s .entry e],.one (.i .i64 f)]=>some ((zzF (⟨b,c,d,e⟩:Host) f),[.agg (Ty.cells .bare (znL (⟨b,c,d,e⟩:Host) f))])
 | _=>none
def zyf (N:Nat)(a0:Host)(a1:Int):Option Ans :=
 (cond (zpi a0 a1) (cond (cond (zjj a0 a1) false true) (some [(.agg (Ty.cells .bare (⟨[],[],[],0⟩:Bare)))]) (iter (σ:=(Int×(Int×(Int×(Int×((List (List Int))×((List Mon)×((List Entry)×((List Entry)×((List (List Int))×((List Guest)×((List Int)×((List (List Int))×((List Guest)×((List Int)×Unit))))))))))))))) N (fun r3 s4=>(cond (ilt s4.2.1 8) (cond (zzC (⟨s4.2.2.2.2.1,s4.2.2.2.2.2.1,s4.2.2.2.2.2.2.1,s4.2.2.2.2.2.2.2.1⟩:Host) s4.1 s4.2.1) (cond (few (ln (ap s4.2.2.2.2.2.2.2.2.2.2.2.1 [(zs5 (⟨s4.2.2.2.2.1,s4.2.2.2.2.2.1,s4.2.2.2.2.2.2.1,s4.2.2.2.2.2.2.2.1⟩:Host) s4.1 s4.2.1)]))) (r3 (s4.1,((zq .i64 s4.2.1 1),(s4.2.2.1,(s4.2.2.2.1,(s4.2.2.2.2.1,(s4.2.2.2.2.2.1,(s4.2.2.2.2.2.2.1,(s4.2.2.2.2.2.2.2.1,(s4.2.2.2.2.2.2.2.2.1,(s4.2.2.2.2.2.2.2.2.2.1,(s4.2.2.2.2.2.2.2.2.2.2.1,((ap s4.2.2.2.2.2.2.2.2.2.2.2.1 [(zs5 (⟨s4.2.2.2.2.1,s4.2.2.2.2.2.1,s4.2.2.2.2.2.2.1,s4.2.2.2.2.2.2.2.1⟩:Host) s4.1 s4.2.1)]),(s4.2.2.2.2.2.2.2.2.2.2.2.2.1,(s4.2.2.2.2.2.2.2.2.2.2.2.2.2.1,()))))))))))))))) none) none) (some [(.agg (Ty.cells .bare (⟨s4.2.2.2.2.2.2.2.2.2.2.2.1,s4.2.2.2.2.2.2.2.2.2.2.2.2.1,s4.2.2.2.2.2.2.2.2.2.2.2.2.2.1,s4.2.2.2.1⟩:Bare)))]))) (a1,(0,(0,((zbl a0 a1).Pending,(a0.Memory,(a0.Mons,(a0.Buffer,(a0.IoBuffer,([],([],([],([],((zbl a0 a1).Guests,((zbl a0 a1).Outs,())))))))))))))))) none)
def zSh:FuncId->Nat->Option Tmpl:=zB [(67,0,{ n:=39,tm:=[(1,.i .i64),(2,.lp 0 0),(4,.lp 1 0),(7,.lp 2 0),(8,.i .i64)],lo:=[(0,[.sl 0 [],.sl 1 [],.sl 2 [],.sl 3 []]),(1,[.sl 4 [],.sl 5 [],.sl 6 [],.i .i64]),(2,[.sl 7 [],.sl 8 [],.sl 9 [],.i .i64])],ro:=[(0,(.sl .int),false),(1,.mon,false),(2,.entry,false),(3,.entry,false),(4,(.sl .int),true),(5,.guest,true),(6,.int,true),(7,(.sl .int),true),(8,.guest,true),(9,.int,true)] })]
theorem zTG (N:Nat)(a0:Host)(a1:Int):evalFn (cQ zV6 zV zhM zF3) zSh N 12 67 [.agg (zA a0),.one (.i .i64 a1)]=zyf N a0 a1:=by kernel_rfl
theorem zQb (a0:Host)(a1:Int)(hb:zG big [.agg (zA a0),.one (.i .i64 a1)])(hc:(zzF a0 a1)=true):∃N,zyf N a0 a1=some [.agg (Ty.cells .bare (znL a0 a1))]:=by
 have hs:=zJ.1 hc;refine ⟨NN,?_⟩;have hNN:∀{n:Nat},n<=big->n<NN:=fun h=>zb8 h;generalize NN=N at hNN ⊢;unfold zyf znL zes;refine must (zbt hs) ?_;rw [show zjj a0 a1=hasB a1 (ln a0.Mons) from rfl]
 cases hh:hasB a1 (ln a0.Mons)
 ·rfl
 ·refine zeN rfl ?_;refine (zzN 8 (fun i (t:(List (List Int)))=>(a1,(i:Int),0,(zbl a0 a1).Pending,a0.Memory,a0.Mons,a0.Buffer,a0.IoBuffer,[],[],[],t,(zbl a0 a1).Guests,(zbl a0 a1).Outs,())) _ (fun i (acc:List (List Int)) κ=>bif few (ln (ap acc [zjA a0 a1 (i:Int)])) then κ (ap acc [zjA a0 a1 (i:Int)]) else none) (fun (t:(List (List Int)))=>(some [(.agg (Ty.cells .bare (⟨t,(zbl a0 a1).Guests,(zbl a0 a1).Outs,(zbl a0 a1).Pending⟩:Bare)))])) (fun i hi t rec=>?_) (fun t rec=>?_) _ ([]) (hNN (by decide))).trans ?_
  ·simp only [show ilt (i:Int) 8=true from decide_eq_true (by omega),zbf hi (show 8<=big by decide),cT]
   exact must (zbt hs) rfl
  ·simp only [show ilt (((8:Nat)):Int) 8=false from decide_eq_false (by omega),cF]
  rw [zL5 a0 a1 _ 8 0 [] (by decide)]
  simp only [zbl,hh,cT,List.nil_append]
theorem zJv:Holds Tryz.prog 67 ztD:=zo zPp zD zem zxT (zC (by kernel_rfl)) fun avs rs hb h=>by
 unfold ztD at h;split at h
 ·obtain ⟨hc,rfl⟩:=zl h;exact (fin2 zQb zTG hc hb :)
 ·cases h
theorem zUx:zc5 zAm=true:=by decide
theorem zUO {p:Nat->Bool}:∀{n i q:Nat},zsH p n i=true->i<=q->q<i+n->p q=true
 | 0,i,q,_,h1,h2=>by omega
 | n+1,i,q,h,h1,h2=>by
  simp only [zsH,Bool.and_eq_true] at h
  by_cases he:i=q
  ·subst he;exact h.1
  ·exact zUO h.2 (by omega) (by omega)
theorem zYp {h:Host}{m:Int}(hh:zdm h=true)(hm:hasB m (ln h.Mons)=true){p:Int}(hp:hasB p 8=true):zc5 (zjA h m p)=true:=by
 have hk:=zhj hh _ (zdd hm mZ);have hsh:=zFJ hk;have hmem:h.Memory.all zc5=true:=by
  unfold zdm at hh;simp only [zdk] at hh;have h1:=hh.1;unfold zib at h1;simp only [zdk] at h1;exact h1.1
 unfold zjA;rw [hm,hp];simp only [cT];have hsl:zdP (ix h.Mons m mZ).Outer p=ix (ix h.Mons m mZ).Outer p sZ:=by
  unfold zdP;rw [zda hsh.1 hp];rfl
 rw [hsl];have hAt:∀(mm:List (List Int)) (q:Int),(hasB q (ln mm)=true->zc5 (ix mm q [])=true)->zc5 (zha mm q)=true:=by
  intro mm q hq;unfold zha;cases h1:hasB q (ln mm)
  ·exact zUx
  ·exact hq h1
 cases hpg:ine (ix (ix h.Mons m mZ).Outer p sZ).Page (-1)
 ·refine hAt _ _ (fun hq=>?_);obtain ⟨q,rfl,hq8⟩:=zej (n:=8) hp;have hfit:fits (ix h.Mons m mZ) q=true:=by
   unfold zeg at hk;simp only [zdk] at hk;exact zUO hk.2.2.2.2.2.2.2.2.2.2 (by omega) (by omega)
  unfold fits zCJ at hfit;have hno:zec (ix (ix h.Mons m mZ).Outer (q:Int) sZ) noSlot=true:=by
   rw [(zH5 (zhj hh _ (zdd hm mZ)) hp).no];rw [zjW] at hpg;cases h1:ieq (ix (ix h.Mons m mZ).Outer (q:Int) sZ).Page (-1)
   ·rw [h1] at hpg;cases hpg
   ·rfl
  rw [hno] at hfit;exact hfit
 ·exact hAt _ _ (fun hq=>List.all_eq_true.1 hmem _ (zdd hq _))
theorem zMd {h:Host}{m:Int}(hh:zdm h=true)(hm:hasB m (ln h.Mons)=true):∀(n i:Nat),i+n<=8->(zjB h m n i).all zc5=true
 | 0,_,_=>rfl
 | n+1,i,hi=>by
  simp only [zjB,List.all_cons,Bool.and_eq_true];exact ⟨zYp hh hm (decide_eq_true (by omega)),zMd hh hm n (i+1) (by omega)⟩
theorem zSL {h:Host}{m:Int}(hh:zdm h=true)(hm:hasB m (ln h.Mons)=true):zgU (zes h m)=true:=by
 have hk:=zhj hh _ (zdd hm mZ);unfold zeg at hk;simp only [zdk] at hk;unfold zes zgU zib;rw [hm];simp only [cT,hk.2.2.2.2.2.2.2.2.2.1,zMd hh hm 8 0 (by decide),ln,zzW]
 simp only [ln] at hk;rw [hk.1,hk.2.2.2.2.2.1,hk.2.2.2.2.2.2.1];rfl
def zjL:zbQ:=[(67,ztD)]++zV6
theorem zgs:zbw zjL:=zn zJv zPp
def zdU (l:List Mon):List (List Guest):=l.map fun x=>x.Guests
theorem zzu {l:List Mon}{m:Int}{x:Mon}(hm:hasB m (ln l)=true)(hx:x.Guests=(ix l m mZ).Guests):zdU (up l m x)=zdU l:=by
 obtain ⟨k,rfl,hk⟩:=zej (n:=l.length) hm;unfold zdU up;rw [List.map_set,Int.toNat_natCast,hx,zbq hk];have:=@List.set_getElem_self _ (l.map fun x=>x.Guests) k (by simpa using hk)
 simpa using this
theorem zGE {l l':List Mon}(h:zdU l'=zdU l)(m:Int):(ix l' m mZ).Guests=(ix l m mZ).Guests:=by
 unfold zdU at h;have h2:(l'.map fun x=>x.Guests)[m.toNat]?=(l.map fun x=>x.Guests)[m.toNat]?:=by rw [h]
 rw [List.getElem?_map,List.getElem?_map] at h2;unfold ix;simp only [List.getD_eq_getElem?_getD];cases h3:l'[m.toNat]? <;> cases h4:l[m.toNat]? <;> rw [h3,h4] at h2<;>simp at h2 ⊢;exact h2
theorem zzt {h:Host}{m p:Int}{s:Slot}(hm:hasB m (ln h.Mons)=true):zdU (zeC h m p s).Mons=zdU h.Mons:=by
 rw [(zfD h m p s).1];exact zzu hm rfl
theorem z0Z {h:Host}{m p:Int}(hm:hasB m (ln h.Mons)=true):zdU (zfe h m p).Mons=zdU h.Mons:=(zzt (h:=zfm h m p) (zeb hm)).trans (zzu hm rfl)
theorem z0Y {h:Host}(hf:Fit h):zdU (zds h).Mons=zdU h.Mons:=by
 unfold zds;cases h0:ieq (ln (zcO h)) 0
 ·rfl
 ·exact z0Z (zCI hf h0).1
theorem zWv {h:Host}{m p:Int}(hf:Fit h)(hm:hasB m (ln h.Mons)=true):zdU (fetched h m p).Mons=zdU h.Mons:=by
 have hr:=znQ hf hm;exact ((zzt (h:=landing (zds h) m p (ix (zcO (zds h)) 0 0)) (zeb hr)).trans (zzu hr rfl)).trans (z0Y hf)
theorem zPH {h:Host}{m p n:Int}(hm:hasB m (ln h.Mons)=true):zdU (zj3 h m p n).Mons=zdU h.Mons:=by
 have hd:zdU (zb6 h m p).Mons=zdU h.Mons:=zzu hm rfl;unfold zj3;cases ieq (wand .i64 n 2) 0
 ·unfold opened;cases ieq (wand .i64 (ix (ix (zb6 h m p).Mons m mZ).Outer p sZ).Rights 2) 0
  ·exact hd
  ·exact (zzt (h:=zb6 h m p) (zeb hm)).trans hd
 ·rfl
theorem zXW {h:Host}{m p n:Int}(hf:Fit h)(hm:hasB m (ln h.Mons)=true)(hp:hasB p 8=true):zdU (mended h m p n).Mons=zdU h.Mons:=by
 unfold mended;cases ieq (ix (ix h.Mons m mZ).Outer p sZ).Page (-1)
 ·exact zPH hm
 ·exact (zPH (zkZ hf hm hp).2).trans (zWv hf hm)
theorem z1K {l l':List Mon}(h:zdU l'=zdU l):l'.length=l.length:=by
 have:=congrArg List.length h;simpa [zdU] using this
abbrev kZ:Kept:=Ty.dflt .kept
theorem z2E {x:Guest}(hk:zdG x=true){p n:Int}(hw:zfX x.Live p n=true):hasB (zcR x.Live p n) 8=true:=by
 have ht:zdK x.Live 4 8=true:=by
  unfold zdG at hk;simp only [Bool.and_eq_true] at hk;exact hk.2.2.2.2.1
 unfold zcR;rw [hw];simp only [cT];unfold zfX at hw;cases h1:ieq (zdP x.Live p).Page (-1)
 ·unfold zdP at h1 ⊢;cases h2:hasB p (ln x.Live)
  ·rw [h2] at h1;cases h1
  ·rw [h2] at h1;simp only [cT] at h1 ⊢;unfold zdK at ht;simp only [zdk] at ht;have hs:=List.all_eq_true.1 ht.1 _ (zdd h2 sZ);unfold zeT at hs;cases h3:zec (ix x.Live p sZ) noSlot
   ·rw [h3] at hs;simp only [cF,zdk] at hs;have:=zfT.1 hs.2.1;rw [show wsub .i64 8 1=7 from rfl] at this
    show hasB (ix x.Live p sZ).Page 8=true
    exact decide_eq_true (by omega)
   ·unfold zec at h3;rw [Bool.and_eq_true] at h3;have:(ix x.Live p sZ).Page = -1:=of_decide_eq_true h3.1;rw [show ieq (ix x.Live p zQ).Page (-1)=true from decide_eq_true this] at h1
    cases h1
 ·rw [h1] at hw;cases hw
def zdr (h:Host)(m g:Int):List Slot:=(ix (ix h.Mons m mZ).Guests g gZ).Live
def zcP (h:Host)(m g:Int):Kept:=ix (ix h.Mons m mZ).Tables g kZ
def zrj (h:Host)(io:Bool):List Entry:=bif io then h.IoBuffer else h.Buffer
def zsS (b:List Entry)(m g page:Int):Option Entry:=zzk b (zi3 m g) page
def zjP (b:List Entry)(m g page need:Int):Bool:=bif (zsS b m g page).isSome then enough ((zsS b m g page).getD ⟨0,0,0,0⟩).Rights need else false
def zeD (h:Host)(m g page need:Int):Bool:=bif zkC (zcP h m g) page then (cond (ieq (ze2 (zcP h m g) page).Page (-1)) true (!enough (ze2 (zcP h m g) page).Rights need)) else true
def zc0 (h:Host)(m g page:Int):Host:={ h with Mons:=up h.Mons m { ix h.Mons m mZ with Tables:=up (ix h.Mons m mZ).Tables g (filled (zcP h m g) (zdr h m g) (ix h.Mons m mZ).Outer page) } }
def z0l (h:Host)(m g page:Int):Entry:=⟨zi3 m g,page,(ze2 (zcP h m g) page).Page,(ze2 (zcP h m g) page).Rights⟩
def zOS (h:Host)(m g page:Int)(io:Bool):Host:=bif io then { h with IoBuffer:=zBR h.IoBuffer (z0l h m g page) } else { h with Buffer:=zBR h.Buffer (z0l h m g page) }
def zeM (h:Host)(m g page:Int)(io:Bool):Host×Int×Bool:=(zOS h m g page io,(ze2 (zcP h m g) page).Page,true)
def zhx (h:Host)(b:List Entry)(m g page need q:Int)(io:Bool):Host×Int×Bool :=
 bif zjP b m g page need then (h,((zsS b m g page).getD ⟨0,0,0,0⟩).Host,true)
 else (cond (zeD h m g page need) (zeM (zc0 (mended h m q need) m g page) m g page io) (zeM h m g page io))
def zgy (need:Int):Bool:=bif ieq need 1 then true else ieq need 2
def zdI (h:Host)(m g page need:Int):Bool:=bif zcD h m g then (cond (zgy need) (zfX (zdr h m g) page need) false) else false
def lookOf (h:Host)(b:List Entry)(m g page need:Int)(io:Bool):Host×Int×Bool :=
 bif zdI h m g page need then zhx (cond (ieq need 2) (zb6 h m (zcR (zdr h m g) page need)) h) b m g page need (zcR (zdr h m g) page need) io else (h,-1,false)
structure Kp (h r:Host):Prop where
 shape:Shape r
 gs:zdU r.Mons=zdU h.Mons
theorem Kp.has {h r:Host}(k:Kp h r){m:Int}(hm:hasB m (ln h.Mons)=true):hasB m (ln r.Mons)=true:=by
 rw [ln,z1K k.gs];exact hm
theorem zXn {h:Host}{m g page:Int}(hs:Shape h)(hm:hasB m (ln h.Mons)=true)(hg:hasB g (ln (ix h.Mons m mZ).Guests)=true):Shape (zc0 h m g page):=by
 obtain ⟨g1,g2⟩:=zck hs hm;have ht:hasB g (ln (ix h.Mons m mZ).Tables)=true:=by rw [ln,g2.2.2.2];exact hg
 exact zhp hs ⟨g1.1,g1.2.1,g1.2.2.1,g1.2.2.2.1,g1.2.2.2.2.1,zVs g1.2.2.2.2.2 (zXr (g1.2.2.2.2.2.2 _ (zdd ht _)))⟩ ⟨g2.1,g2.2.1,g2.2.2.1,by simpa using g2.2.2.2⟩
theorem zX1 {h r:Host}{m g page:Int}{io:Bool}(k:Kp h r):Kp h (zOS r m g page io):=by
 obtain ⟨⟨h1,h2,h3,h4⟩,h5⟩:=k.shape;unfold zOS;cases io
 ·exact ⟨⟨⟨h1,h2,(zzY _ h3).1,h4⟩,h5⟩,k.gs⟩
 ·exact ⟨⟨⟨h1,h2,h3,(zzY _ h4).1⟩,h5⟩,k.gs⟩
structure LookAt (h:Host) (m g q need:Int):Prop where
 fit:Fit h
 hm:hasB m (ln h.Mons)=true
 hg:hasB g (ln (ix h.Mons m mZ).Guests)=true
 hq:hasB q 8=true
 hn:need=1\/need=2
 hs:SlotFit (ix (ix h.Mons m mZ).Outer q sZ)
theorem LookAt.mend {h:Host}{m g q need:Int}(A:LookAt h m g q need):zO0 h m q need:=⟨A.fit,A.hm,A.hq,A.hn,A.hs⟩
theorem LookAt.kp {h:Host}{m g q need:Int}(A:LookAt h m g q need):Kp h (mended h m q need):=⟨(zR1 A.fit A.hm A.hq).1,zXW A.fit A.hm A.hq⟩
theorem LookAt.fill {h:Host}{m g q need:Int}(A:LookAt h m g q need)(page:Int):Kp h (zc0 (mended h m q need) m g page):=by
 have k:=A.kp;have hg:hasB g (ln (ix (mended h m q need).Mons m mZ).Guests)=true:=by rw [zGE k.gs];exact A.hg
 have e:zdU (zc0 (mended h m q need) m g page).Mons=zdU (mended h m q need).Mons:=zzu (k.has A.hm) rfl;exact ⟨zXn k.shape (k.has A.hm) hg,e.trans k.gs⟩
theorem zPR {h:Host}{b:List Entry}{m g page need q:Int}{io:Bool}(A:LookAt h m g q need):Kp h (zhx h b m g page need q io).1:=by
 unfold zhx;cases zjP b m g page need
 ·cases zeD h m g page need
  ·exact zX1 ⟨A.fit.1,rfl⟩
  ·exact zX1 (A.fill page)
 ·exact ⟨A.fit.1,rfl⟩
theorem zcJ {h:Host}{m g:Int}(hh:zcD h m g=true):zdm h=true/\hasB m (ln h.Mons)=true/\hasB g (ln (ix h.Mons m mZ).Guests)=true:=by
 unfold zcD at hh;simp only [zdk] at hh;exact hh
theorem zWw {h:Host}{m g:Int}(hh:zcD h m g=true):zdG (ix (ix h.Mons m mZ).Guests g gZ)=true:=by
 obtain ⟨h1,h2,h3⟩:=zcJ hh;have hk:=zhj h1 _ (zdd h2 mZ);unfold zeg at hk;simp only [zdk] at hk;exact List.all_eq_true.1 hk.2.2.2.2.2.2.2.2.2.1 _ (zdd h3 _)
theorem zH7 {n:Int}(h:zgy n=true):n=1\/n=2:=by
 unfold zgy at h;cases h1:ieq n 1
 ·rw [h1] at h;exact .inr (of_decide_eq_true h)
 ·exact .inl (of_decide_eq_true h1)
theorem zBN {h:Host}{m g page need:Int}(hs:SmH h)(hh:zdI h m g page need=true) :
 LookAt h m g (zcR (zdr h m g) page need) need/\LookAt (zb6 h m (zcR (zdr h m g) page need)) m g (zcR (zdr h m g) page need) need:=by
 unfold zdI at hh;simp only [zdk] at hh;obtain ⟨h1,h2,h3⟩:=hh;obtain ⟨g1,g2,g3⟩:=zcJ h1;have hq:hasB (zcR (zdr h m g) page need) 8=true:=z2E (zWw h1) h3;have hsl:=zH5 (zhj g1 _ (zdd g2 mZ)) hq;have hf:=zzv hs g1;refine ⟨⟨hf,g2,g3,hq,zH7 h2,hsl⟩,⟨zSR hf g2,zeb g2,?_,hq,zH7 h2,?_⟩⟩
 ·have e:zdU (zb6 h m (zcR (zdr h m g) page need)).Mons=zdU h.Mons:=zzu g2 rfl;rw [zGE e];exact g3
 ·obtain ⟨k,rfl,hk⟩:=zej (n:=h.Mons.length) g2;unfold zb6;rw [ze3 hk];exact hsl
theorem zCA {h:Host}{b:List Entry}{m g page need:Int}{io:Bool}(hs:SmH h)(hh:zcD h m g=true):Kp h (lookOf h b m g page need io).1:=by
 have hf:=zzv hs (zcJ hh).1;unfold lookOf;cases h1:zdI h m g page need
 ·exact ⟨hf.1,rfl⟩
 ·obtain ⟨A,B⟩:=zBN hs h1;simp only [cT];cases ieq need 2
  ·exact zPR A
  ·have k:=zPR (b:=b) (page:=page) (io:=io) B;have e:zdU (zb6 h m (zcR (zdr h m g) page need)).Mons=zdU h.Mons:=zzu A.hm rfl;exact ⟨k.shape,k.gs.trans e⟩
def zid (x:Host×Int×Bool):List AV:=[.agg (zA x.1),.one (.i .i64 x.2.1),.one (.b x.2.2)]
theorem ziO {h:Host}{b:List Entry}{m g page need:Int}{io:Bool}(hh:zdI h m g page need=false):lookOf h b m g page need io=(h,-1,false):=by
 unfold lookOf;rw [hh];rfl
theorem zlD {h:Host}{m g page need:Int}(hh:zcD h m g=false):zdI h m g page need=false:=by
 unfold zdI;rw [hh];rfl
theorem zCx {h:Host}{m g:Int}(hh:zdm h=false):zcD h m g=false:=by
 unfold zcD;rw [hh];rfl
theorem zI9 {h:Host}{m g:Int}(hh:hasB m (ln h.Mons)=false):zcD h m g=false:=by
 unfold zcD;rw [hh];cases zdm h<;>rfl
theorem zJa {h:Host}{m g:Int}(hh:hasB g (ln (ix h.Mons m mZ).Guests)=false):zcD h m g=false:=by
 unfold zcD;rw [hh];cases zdm h<;>cases hasB m (ln h.Mons)<;>rfl
theorem zJb {h:Host}{m g:Int}(h1:zdm h=true)(h2:hasB m (ln h.Mons)=true)(h3:hasB g (ln (ix h.Mons m mZ).Guests)=true):zcD h m g=true:=by
 unfold zcD;rw [h1,h2,h3];rfl
structure LookF (r:Host) (m g:Int):Prop where
 hm:hasB m (ln r.Mons)=true
 hg:hasB g (ln (ix r.Mons m mZ).Guests)=true
 ht:hasB g (ln (ix r.Mons m mZ).Tables)=true
 hk:SmK (zcP r m g)
 hb:r.Buffer.length<=1048576
 hi:r.IoBuffer.length<=1048576
theorem zj2 {h r:Host}{m g:Int}(k:Kp h r)(hm:hasB m (ln h.Mons)=true)(hg:hasB g (ln (ix h.Mons m mZ).Guests)=true):LookF r m g:=by
 obtain ⟨g1,g2⟩:=zck k.shape (k.has hm);have hg':hasB g (ln (ix r.Mons m mZ).Guests)=true:=by rw [zGE k.gs];exact hg
 have ht:hasB g (ln (ix r.Mons m mZ).Tables)=true:=by rw [ln,g2.2.2.2];exact hg'
 exact ⟨k.has hm,hg',ht,g1.2.2.2.2.2.2 _ (zdd ht _),k.shape.1.2.2.1,k.shape.1.2.2.2⟩
@[simp,reducible] def zo9 (h:Host)(b:List Entry)(m g page need:Int)(io:Bool):Bool:=pc (zea h)
@[simp,reducible] def zT (h:Host)(b:List Entry)(m g page need:Int)(io:Bool):Host:=(lookOf h b m g page need io).1
@[simp,reducible] def zho (h:Host)(b:List Entry)(m g page need:Int)(io:Bool):Int:=(lookOf h b m g page need io).2.1
@[simp,reducible] def zo8 (h:Host)(b:List Entry)(m g page need:Int)(io:Bool):Bool:=(lookOf h b m g page need io).2.2
def zqX:List AV->Option (Bool×List AV)
 | [.agg [.s (.sl .int) c,.s .mon d,.s .entry e,.s .entry f],.one (.s .entry g),.one (.i .i64 h),.one (.i .i64 j),.one (.i .i64 k),.one (.i .i64 l),.one (.b m)]=>some ((zo9 (⟨c,d,e,f⟩:Host) g h j k l m),[.agg (zA (zT (⟨c,d,e,f⟩:Host) g h j k l m)),.one (.i .i64 (zho (⟨c,d,e,f⟩:Host) g h j k l m)),.one (.b (zo8 (⟨c,d,e,f⟩:Host) g h j k l m))])
 | _=>none
@[reducible] def zdB (u9_11:List (List Int))(u9_12:List Mon)(u9_13:List Entry)(u9_14:List Entry)(u9_0:Int)(u9_5:Int)(u9_3:Int):Mon :=
 (ix (ze1 (⟨u9_11,u9_12,u9_13,u9_14⟩:Host) u9_0 u9_5 u9_3).Mons u9_0 zf)
@[reducible] def zgH (a0:Host)(a2 a3:Int)(a4 a5:Int):Int :=
 (zir (ix (ix a0.Mons a2 zf).Guests a3 zi).Live a4 a5)
def zIY (N:Nat)(u11_0:Int)(u11_2:List (List Int))(u11_3:List Mon)(u11_4:List Entry)(u11_5:List Entry):Option Ans :=
 (some [(.agg (zA (⟨u11_2,u11_3,u11_4,u11_5⟩:Host))),(.one (.i .i64 u11_0)),(.one (.b true))])
def znC (N:Nat)(u10_0:Int)(u10_1:Bool)(u10_2:Int)(u10_7:Int)(u10_8:Int)(u10_9:List (List Int))(u10_10:List Mon)(u10_11:List Entry)(u10_12:List Entry)(u10_13:List (List Int))(u10_14:List Mon)(u10_15:List Entry)(u10_16:List Entry):Option Ans :=
 (share (fun (s11:(Int×(Int×((List (List Int))×((List Mon)×((List Entry)×((List Entry)×((List (List Int))×((List Mon)×((List Entry)×((List Entry)×Unit)))))))))))=>(zIY N s11.1 s11.2.2.1 s11.2.2.2.1 s11.2.2.2.2.1 s11.2.2.2.2.2.1)) (fun r11=>(cond u10_1 (cond (znh u10_12 (⟨u10_2,u10_0,u10_7,u10_8⟩:Entry)) (r11 (u10_7,(u10_8,(u10_9,(u10_10,(u10_11,((zng u10_12 (⟨u10_2,u10_0,u10_7,u10_8⟩:Entry)),(u10_13,(u10_14,(u10_15,(u10_16,()))))))))))) none) (cond (znh u10_11 (⟨u10_2,u10_0,u10_7,u10_8⟩:Entry)) (r11 (u10_7,(u10_8,(u10_9,(u10_10,((zng u10_11 (⟨u10_2,u10_0,u10_7,u10_8⟩:Entry)),(u10_12,(u10_13,(u10_14,(u10_15,(u10_16,()))))))))))) none))))
def zih (N:Nat)(u9_11:List (List Int))(u9_12:List Mon)(u9_13:List Entry)(u9_14:List Entry)(u9_0:Int)(u9_5:Int)(u9_3:Int)(u9_1:Int)(u9_2:Int)(r10:((Int×(Bool×(Int×(Int×(Int×(Int×(Int×(Int×(Int×((List (List Int))×((List Mon)×((List Entry)×((List Entry)×((List (List Int))×((List Mon)×((List Entry)×((List Entry)×Unit))))))))))))))))))->Option Ans)(u9_4:Bool)(u9_6:Int)(u9_7:Int)(u9_8:Int)(u9_9:Int)(u9_10:Int)(u9_15:List (List Int))(u9_16:List Mon)(u9_17:List Entry)(u9_18:List Entry):Option Ans :=
 (cond (zxd (⟨u9_11,u9_12,u9_13,u9_14⟩:Host) u9_0 u9_5 u9_3) (cond (inb u9_0 (ln (ze1 (⟨u9_11,u9_12,u9_13,u9_14⟩:Host) u9_0 u9_5 u9_3).Mons)) (cond (inb u9_0 (ln (ze1 (⟨u9_11,u9_12,u9_13,u9_14⟩:Host) u9_0 u9_5 u9_3).Mons)) (cond (inb u9_1 (ln (zdB u9_11 u9_12 u9_13 u9_14 u9_0 u9_5 u9_3).Tables)) (cond (inb u9_0 (ln (ze1 (⟨u9_11,u9_12,u9_13,u9_14⟩:Host) u9_0 u9_5 u9_3).Mons)) (cond (inb u9_1 (ln (zdB u9_11 u9_12 u9_13 u9_14 u9_0 u9_5 u9_3).Guests)) (cond (inb u9_0 (ln (ze1 (⟨u9_11,u9_12,u9_13,u9_14⟩:Host) u9_0 u9_5 u9_3).Mons)) (cond (zFZ (ix (zdB u9_11 u9_12 u9_13 u9_14 u9_0 u9_5 u9_3).Tables u9_1 zbD) (ix (zdB u9_11 u9_12 u9_13 u9_14 u9_0 u9_5 u9_3).Guests u9_1 zi).Live (zdB u9_11 u9_12 u9_13 u9_14 u9_0 u9_5 u9_3).Outer u9_2) (cond (inb u9_1 (ln (zdB u9_11 u9_12 u9_13 u9_14 u9_0 u9_5 u9_3).Tables)) (share (up (ze1 (⟨u9_11,u9_12,u9_13,u9_14⟩:Host) u9_0 u9_5 u9_3).Mons u9_0 ({ (zdB u9_11 u9_12 u9_13 u9_14 u9_0 u9_5 u9_3) with Tables:=(up (zdB u9_11 u9_12 u9_13 u9_14 u9_0 u9_5 u9_3).Tables u9_1 (zIq (ix (zdB u9_11 u9_12 u9_13 u9_14 u9_0 u9_5 u9_3).Tables u9_1 zbD) (ix (zdB u9_11 u9_12 u9_13 u9_14 u9_0 u9_5 u9_3).Guests u9_1 zi).Live (zdB u9_11 u9_12 u9_13 u9_14 u9_0 u9_5 u9_3).Outer u9_2)) }:Mon)) (fun x11=>(cond (inb u9_0 (ln x11)) (cond (inb u9_1 (ln (ix x11 u9_0 zf).Tables)) (cond (zCL (ix (ix x11 u9_0 zf).Tables u9_1 zbD) u9_2) (r10 (u9_2,(u9_4,(u9_6,(u9_7,(u9_8,(u9_9,(u9_10,((ziP (ix (ix x11 u9_0 zf).Tables u9_1 zbD) u9_2).Page,((ziP (ix (ix x11 u9_0 zf).Tables u9_1 zbD) u9_2).Rights,((ze1 (⟨u9_11,u9_12,u9_13,u9_14⟩:Host) u9_0 u9_5 u9_3).Memory,(x11,((ze1 (⟨u9_11,u9_12,u9_13,u9_14⟩:Host) u9_0 u9_5 u9_3).Buffer,((ze1 (⟨u9_11,u9_12,u9_13,u9_14⟩:Host) u9_0 u9_5 u9_3).IoBuffer,(u9_15,(u9_16,(u9_17,(u9_18,())))))))))))))))))) none) none) none))) none) none) none) none) none) none) none) none) none)
def zjK (N:Nat)(u9_0:Int)(u9_1:Int)(u9_2:Int)(u9_3:Int)(u9_4:Bool)(u9_5:Int)(u9_6:Int)(u9_7:Int)(u9_8:Int)(u9_9:Int)(u9_10:Int)(u9_11:List (List Int))(u9_12:List Mon)(u9_13:List Entry)(u9_14:List Entry)(u9_15:List (List Int))(u9_16:List Mon)(u9_17:List Entry)(u9_18:List Entry):Option Ans :=
 (cond (inb u9_0 (ln u9_12)) (cond (inb u9_1 (ln (ix u9_12 u9_0 zf).Tables)) (cond (zCL (ix (ix u9_12 u9_0 zf).Tables u9_1 zbD) u9_2) (share (fun (s10:(Int×(Bool×(Int×(Int×(Int×(Int×(Int×(Int×(Int×((List (List Int))×((List Mon)×((List Entry)×((List Entry)×((List (List Int))×((List Mon)×((List Entry)×((List Entry)×Unit))))))))))))))))))=>(znC N s10.1 s10.2.1 s10.2.2.1 s10.2.2.2.2.2.2.2.1 s10.2.2.2.2.2.2.2.2.1 s10.2.2.2.2.2.2.2.2.2.1 s10.2.2.2.2.2.2.2.2.2.2.1 s10.2.2.2.2.2.2.2.2.2.2.2.1 s10.2.2.2.2.2.2.2.2.2.2.2.2.1 s10.2.2.2.2.2.2.2.2.2.2.2.2.2.1 s10.2.2.2.2.2.2.2.2.2.2.2.2.2.2.1 s10.2.2.2.2.2.2.2.2.2.2.2.2.2.2.2.1 s10.2.2.2.2.2.2.2.2.2.2.2.2.2.2.2.2.1)) (fun r10=>(cond (cond (zCK (ix (ix u9_12 u9_0 zf).Tables u9_1 zbD) u9_2) false true) (zih N u9_11 u9_12 u9_13 u9_14 u9_0 u9_5 u9_3 u9_1 u9_2 r10 u9_4 u9_6 u9_7 u9_8 u9_9 u9_10 u9_15 u9_16 u9_17 u9_18) (cond (ieq (ziP (ix (ix u9_12 u9_0 zf).Tables u9_1 zbD) u9_2).Page (-1)) (zih N u9_11 u9_12 u9_13 u9_14 u9_0 u9_5 u9_3 u9_1 u9_2 r10 u9_4 u9_6 u9_7 u9_8 u9_9 u9_10 u9_15 u9_16 u9_17 u9_18) (cond (zf6 (ziP (ix (ix u9_12 u9_0 zf).Tables u9_1 zbD) u9_2).Rights u9_3) (cond (cond (zgC (ziP (ix (ix u9_12 u9_0 zf).Tables u9_1 zbD) u9_2).Rights u9_3) false true) (zih N u9_11 u9_12 u9_13 u9_14 u9_0 u9_5 u9_3 u9_1 u9_2 r10 u9_4 u9_6 u9_7 u9_8 u9_9 u9_10 u9_15 u9_16 u9_17 u9_18) (r10 (u9_2,(u9_4,(u9_6,(u9_7,(u9_8,(u9_9,(u9_10,((ziP (ix (ix u9_12 u9_0 zf).Tables u9_1 zbD) u9_2).Page,((ziP (ix (ix u9_12 u9_0 zf).Tables u9_1 zbD) u9_2).Rights,(u9_11,(u9_12,(u9_13,(u9_14,(u9_15,(u9_16,(u9_17,(u9_18,()))))))))))))))))))) none))))) none) none) none)
def zkJ (N:Nat)(a2:Int)(a0:Host)(a3 a4 a5:Int)(a1:List Entry)(a6:Bool):Option Ans :=
 (cond (inb a2 (ln a0.Mons)) (cond (inb a3 (ln (ix a0.Mons a2 zf).Guests)) (cond (zq0 (ix (ix a0.Mons a2 zf).Guests a3 zi).Live a4 a5) (cond (cond (zis (ix (ix a0.Mons a2 zf).Guests a3 zi).Live a4 a5) false true) (some [(.agg (zA a0)),(.one (.i .i64 (-1))),(.one (.b false))]) (cond (zB3 a2 a3) (cond (ieq a5 2) (cond (inb a2 (ln a0.Mons)) (cond (inb (zgH a0 a2 a3 a4 a5) (ln (ix a0.Mons a2 zf).Dirty)) (share (up a0.Mons a2 ({ (ix a0.Mons a2 zf) with Dirty:=(up (ix a0.Mons a2 zf).Dirty (zgH a0 a2 a3 a4 a5) true) }:Mon)) (fun x8=>(cond (zkX a1 (zci a2 a3) a4) (share (fun (s9:(Int×(Int×(Int×(Int×(Bool×(Int×(Int×(Int×(Int×(Int×(Int×((List (List Int))×((List Mon)×((List Entry)×((List Entry)×((List (List Int))×((List Mon)×((List Entry)×((List Entry)×Unit))))))))))))))))))))=>(zjK N s9.1 s9.2.1 s9.2.2.1 s9.2.2.2.1 s9.2.2.2.2.1 s9.2.2.2.2.2.1 s9.2.2.2.2.2.2.1 s9.2.2.2.2.2.2.2.1 s9.2.2.2.2.2.2.2.2.1 s9.2.2.2.2.2.2.2.2.2.1 s9.2.2.2.2.2.2.2.2.2.2.1 s9.2.2.2.2.2.2.2.2.2.2.2.1 s9.2.2.2.2.2.2.2.2.2.2.2.2.1 s9.2.2.2.2.2.2.2.2.2.2.2.2.2.1 s9.2.2.2.2.2.2.2.2.2.2.2.2.2.2.1 s9.2.2.2.2.2.2.2.2.2.2.2.2.2.2.2.1 s9.2.2.2.2.2.2.2.2.2.2.2.2.2.2.2.2.1 s9.2.2.2.2.2.2.2.2.2.2.2.2.2.2.2.2.2.1 s9.2.2.2.2.2.2.2.2.2.2.2.2.2.2.2.2.2.2.1)) (fun r9=>(cond (zio a1 (zci a2 a3) a4) (cond (zf6 (zbW a1 (zci a2 a3) a4).Rights a5) (cond (zgC (zbW a1 (zci a2 a3) a4).Rights a5) (some [(.agg (zA ({ a0 with Mons:=x8 }:Host))),(.one (.i .i64 (zbW a1 (zci a2 a3) a4).Host)),(.one (.b true))]) (r9 (a2,(a3,(a4,(a5,(a6,((zgH a0 a2 a3 a4 a5),((zci a2 a3),((zbW a1 (zci a2 a3) a4).Tag,((zbW a1 (zci a2 a3) a4).Page,((zbW a1 (zci a2 a3) a4).Host,((zbW a1 (zci a2 a3) a4).Rights,(a0.Memory,(x8,(a0.Buffer,(a0.IoBuffer,([],([],([],([],()))))))))))))))))))))) none) (r9 (a2,(a3,(a4,(a5,(a6,((zgH a0 a2 a3 a4 a5),((zci a2 a3),((zbW a1 (zci a2 a3) a4).Tag,((zbW a1 (zci a2 a3) a4).Page,((zbW a1 (zci a2 a3) a4).Host,((zbW a1 (zci a2 a3) a4).Rights,(a0.Memory,(x8,(a0.Buffer,(a0.IoBuffer,([],([],([],([],()))))))))))))))))))))))) none))) none) none) (cond (zkX a1 (zci a2 a3) a4) (share (fun (s8:(Int×(Int×(Int×(Int×(Bool×(Int×(Int×(Int×(Int×(Int×(Int×((List (List Int))×((List Mon)×((List Entry)×((List Entry)×((List (List Int))×((List Mon)×((List Entry)×((List Entry)×Unit))))))))))))))))))))=>(zjK N s8.1 s8.2.1 s8.2.2.1 s8.2.2.2.1 s8.2.2.2.2.1 s8.2.2.2.2.2.1 s8.2.2.2.2.2.2.1 s8.2.2.2.2.2.2.2.1 s8.2.2.2.2.2.2.2.2.1 s8.2.2.2.2.2.2.2.2.2.1 s8.2.2.2.2.2.2.2.2.2.2.1 s8.2.2.2.2.2.2.2.2.2.2.2.1 s8.2.2.2.2.2.2.2.2.2.2.2.2.1 s8.2.2.2.2.2.2.2.2.2.2.2.2.2.1 s8.2.2.2.2.2.2.2.2.2.2.2.2.2.2.1 s8.2.2.2.2.2.2.2.2.2.2.2.2.2.2.2.1 s8.2.2.2.2.2.2.2.2.2.2.2.2.2.2.2.2.1 s8.2.2.2.2.2.2.2.2.2.2.2.2.2.2.2.2.2.1 s8.2.2.2.2.2.2.2.2.2.2.2.2.2.2.2.2.2.2.1)) (fun r8=>(cond (zio a1 (zci a2 a3) a4) (cond (zf6 (zbW a1 (zci a2 a3) a4).Rights a5) (cond (zgC (zbW a1 (zci a2 a3) a4).Rights a5) (some [(.agg (zA a0)),(.one (.i .i64 (zbW a1 (zci a2 a3) a4).Host)),(.one (.b true))]) (r8 (a2,(a3,(a4,(a5,(a6,((zgH a0 a2 a3 a4 a5),((zci a2 a3),((zbW a1 (zci a2 a3) a4).Tag,((zbW a1 (zci a2 a3) a4).Page,((zbW a1 (zci a2 a3) a4).Host,((zbW a1 (zci a2 a3) a4).Rights,(a0.Memory,(a0.Mons,(a0.Buffer,(a0.IoBuffer,([],([],([],([],()))))))))))))))))))))) none) (r8 (a2,(a3,(a4,(a5,(a6,((zgH a0 a2 a3 a4 a5),((zci a2 a3),((zbW a1 (zci a2 a3) a4).Tag,((zbW a1 (zci a2 a3) a4).Page,((zbW a1 (zci a2 a3) a4).Host,((zbW a1 (zci a2 a3) a4).Rights,(a0.Memory,(a0.Mons,(a0.Buffer,(a0.IoBuffer,([],([],([],([],()))))))))))))))))))))))) none)) none)) none) none) none)
def zoF (N:Nat)(a0:Host)(a1:List Entry)(a2 a3:Int)(a4 a5:Int)(a6:Bool):Option Ans :=
 (cond (zrO a0) (cond (cond (zov a0) false true) (some [(.agg (zA a0)),(.one (.i .i64 (-1))),(.one (.b false))]) (cond (zZ a2 0 (wsub .i64 (ln a0.Mons) 1)) (cond (cond (zbe a2 0 (wsub .i64 (ln a0.Mons) 1)) false true) (some [(.agg (zA a0)),(.one (.i .i64 (-1))),(.one (.b false))]) (cond (inb a2 (ln a0.Mons)) (cond (zZ a3 0 (wsub .i64 (ln (ix a0.Mons a2 zf).Guests) 1)) (cond (cond (zbe a3 0 (wsub .i64 (ln (ix a0.Mons a2 zf).Guests) 1)) false true) (some [(.agg (zA a0)),(.one (.i .i64 (-1))),(.one (.b false))]) (cond (ine a5 1) (cond (ine a5 2) (some [(.agg (zA a0)),(.one (.i .i64 (-1))),(.one (.b false))]) (zkJ N a2 a0 a3 a4 a5 a1 a6)) (zkJ N a2 a0 a3 a4 a5 a1 a6))) none) none)) none)) none)
def zq4:FuncId->Nat->Option Tmpl:=zB [(97,999999,{ n:=0,tm:=[],lo:=[],ro:=[] }),(97,1007023,{ n:=210,tm:=[(2,.i .i64),(3,.i .i64),(4,.i .i64),(5,.i .i64),(6,.b),(7,.lp 0 0),(14,.lp 1 0),(17,.i .i64),(19,.i .i64),(20,.lp 2 0)],lo:=[(0,[.sl 0 [],.sl 1 [],.sl 2 [],.sl 3 []]),(1,[.sl 4 [],.sl 5 [],.sl 6 [],.sl 7 []]),(2,[.i .i64,.i .i64,.i .i64,.i .i64])],ro:=[(0,(.sl .int),true),(1,.mon,true),(2,.entry,true),(3,.entry,true),(4,(.sl .int),true),(5,.mon,true),(6,.entry,true),(7,.entry,true)],kr:=1 }),(97,1009011,{ n:=210,tm:=[(4,.i .i64),(6,.b),(7,.lp 0 0),(14,.lp 1 0),(19,.i .i64),(20,.lp 2 0),(22,.lp 3 0)],lo:=[(0,[.sl 0 [],.sl 1 [],.sl 2 [],.sl 3 []]),(1,[.sl 4 [],.sl 5 [],.sl 6 [],.sl 7 []]),(2,[.i .i64,.i .i64,.i .i64,.i .i64]),(3,[.i .i64,.i .i64])],ro:=[(0,(.sl .int),true),(1,.mon,true),(2,.entry,true),(3,.entry,true),(4,(.sl .int),true),(5,.mon,true),(6,.entry,true),(7,.entry,true)],kr:=1 }),(97,1005003,{ n:=210,tm:=[(7,.lp 0 0),(14,.lp 1 0),(22,.lp 2 0)],lo:=[(0,[.sl 0 [],.sl 1 [],.sl 2 [],.sl 3 []]),(1,[.sl 4 [],.sl 5 [],.sl 6 [],.sl 7 []]),(2,[.i .i64,.i .i64])],ro:=[(0,(.sl .int),true),(1,.mon,true),(2,.entry,true),(3,.entry,true),(4,(.sl .int),true),(5,.mon,true),(6,.entry,true),(7,.entry,true)],kr:=1 })]
theorem zLv (N:Nat)(a0:Host)(a2 a3:Int)(a4 a5:Int)(a6:Bool):zOO (cQ zjL zV zhM zF3) zq4 N 12 97 [true,true,true,true,false,false,false,false,false,false] [(4,2)] 1 1 [[0],[1],[2],[4],[7]] .mon [.agg (zA a0),.one (.s .entry a0.Buffer),.one (.i .i64 a2),.one (.i .i64 a3),.one (.i .i64 a4),.one (.i .i64 a5),.one (.b a6)]=zoF N a0 a0.Buffer a2 a3 a4 a5 a6:=by kernel_rfl
theorem zLw (N:Nat)(a0:Host)(a2 a3:Int)(a4 a5:Int)(a6:Bool):zOO (cQ zjL zV zhM zF3) zq4 N 12 97 [true,true,true,true,false,false,false,false,false,false] [(4,3)] 1 1 [[0],[1],[2],[4],[7]] .mon [.agg (zA a0),.one (.s .entry a0.IoBuffer),.one (.i .i64 a2),.one (.i .i64 a3),.one (.i .i64 a4),.one (.i .i64 a5),.one (.b a6)]=zoF N a0 a0.IoBuffer a2 a3 a4 a5 a6:=by kernel_rfl
theorem zCr {N:Nat}{r:Host}{m g page:Int}{io:Bool}{z1 z2 z3 z4}(hb:r.Buffer.length<=1048576)(hi:r.IoBuffer.length<=1048576) :
 znC N page io (zi3 m g) (ze2 (zcP r m g) page).Page (ze2 (zcP r m g) page).Rights r.Memory r.Mons r.Buffer r.IoBuffer z1 z2 z3 z4=some (zid (zeM r m g page io)):=by
 unfold znC;refine shr ?_;cases io
 ·exact zeN rfl (must (zbt hb) rfl)
 ·exact must rfl (must (zbt hi) rfl)
theorem zPB {N:Nat}{r:Host}{m g page need q:Int}{io:Bool}{R:Option Ans}{r11}{u6 u7 u8 u9 u10 z1 z2 z3 z4}(A:LookAt r m g q need)(hr:r11 (page,(io,(u6,(u7,(u8,(u9,(u10,((ze2 (zcP (zc0 (mended r m q need) m g page) m g) page).Page,((ze2 (zcP (zc0 (mended r m q need) m g page) m g) page).Rights,((zc0 (mended r m q need) m g page).Memory,((zc0 (mended r m q need) m g page).Mons,((zc0 (mended r m q need) m g page).Buffer,((zc0 (mended r m q need) m g page).IoBuffer,(z1,(z2,(z3,(z4,())))))))))))))))))=R) :
 zih N r.Memory r.Mons r.Buffer r.IoBuffer m q need g page r11 io u6 u7 u8 u9 u10 z1 z2 z3 z4=R:=by
 have M:=zj2 A.kp A.hm A.hg;have F:=zj2 (A.fill page) A.hm A.hg;unfold zih;exact must (zbt A.mend) (must (zF M.hm) (must (zF M.hm) (must (zF M.ht) (must (zF M.hm) (must (zF M.hg) (must (zF M.hm) (must (zbt M.hk) (must (zF M.ht) (shr (must (zF F.hm) (must (zF F.ht) (must (zbt F.hk) hr))))))))))))
theorem zVt {r:Host}{m g page need:Int}(h:zkC (zcP r m g) page=false):zeD r m g page need=true:=by
 unfold zeD;rw [h];rfl
theorem zVu {r:Host}{m g page need:Int}(h:ieq (ze2 (zcP r m g) page).Page (-1)=true):zeD r m g page need=true:=by
 unfold zeD;rw [h];cases zkC (zcP r m g) page<;>rfl
theorem zVv {r:Host}{m g page need:Int}(h:enough (ze2 (zcP r m g) page).Rights need=false):zeD r m g page need=true:=by
 unfold zeD;rw [h];cases zkC (zcP r m g) page<;>cases ieq (ze2 (zcP r m g) page).Page (-1)<;>rfl
theorem zVw {r:Host}{m g page need:Int}(h1:zkC (zcP r m g) page=true)(h2:ieq (ze2 (zcP r m g) page).Page (-1)=false)(h3:enough (ze2 (zcP r m g) page).Rights need=true):zeD r m g page need=false:=by
 unfold zeD;rw [h1,h2,h3];rfl
theorem zr0 {r:Host}{m g page need q:Int}{io:Bool}(h:zeD r m g page need=true):(cond (zeD r m g page need) (zeM (zc0 (mended r m q need) m g page) m g page io) (zeM r m g page io))=zeM (zc0 (mended r m q need) m g page) m g page io:=by
 rw [h];rfl
theorem zVe {r:Host}{m g page need q:Int}{io:Bool}(h:zeD r m g page need=false):(cond (zeD r m g page need) (zeM (zc0 (mended r m q need) m g page) m g page io) (zeM r m g page io))=zeM r m g page io:=by
 rw [h];rfl
theorem zCs {N:Nat}{r:Host}{m g page need q:Int}{io:Bool}{u7 u8 u9 u10 z1 z2 z3 z4}(A:LookAt r m g q need) :
 zjK N m g page need io q (zi3 m g) u7 u8 u9 u10 r.Memory r.Mons r.Buffer r.IoBuffer z1 z2 z3 z4=some (zid (cond (zeD r m g page need) (zeM (zc0 (mended r m q need) m g page) m g page io) (zeM r m g page io))):=by
 have M:=zj2 ⟨A.fit.1,rfl⟩ A.hm A.hg;have F:=zj2 (A.fill page) A.hm A.hg;unfold zjK;refine must (zF M.hm) (must (zF M.ht) (must (zbt M.hk) (shr (brN (fun h1=>?_) (fun h1=>br (fun h2=>?_) (fun h2=>must rfl (brN (fun h3=>?_) (fun h3=>?_))))))))
 ·rw [zr0 (zVt h1)];exact zPB A (zCr (r:=zc0 (mended r m q need) m g page) (m:=m) (g:=g) F.hb F.hi)
 ·rw [zr0 (zVu h2)];exact zPB A (zCr (r:=zc0 (mended r m q need) m g page) (m:=m) (g:=g) F.hb F.hi)
 ·rw [zr0 (zVv h3)];exact zPB A (zCr (r:=zc0 (mended r m q need) m g page) (m:=m) (g:=g) F.hb F.hi)
 ·rw [zVe (zVw h1 h2 h3)];exact zCr (r:=r) (m:=m) (g:=g) M.hb M.hi
theorem zCv {b:List Entry}{m g page need:Int}(h:(zsS b m g page).isSome=false):zjP b m g page need=false:=by
 unfold zjP;rw [h];rfl
theorem zlv {b:List Entry}{m g page need:Int}{x:Bool}(h1:(zsS b m g page).isSome=true)(h:enough ((zsS b m g page).getD ⟨0,0,0,0⟩).Rights need=x):zjP b m g page need=x:=by
 unfold zjP;rw [h1,h];rfl
theorem zlC {r:Host}{b:List Entry}{m g page need q:Int}{io:Bool}(h:zjP b m g page need=false):zhx r b m g page need q io=bif zeD r m g page need then zeM (zc0 (mended r m q need) m g page) m g page io else zeM r m g page io:=by
 unfold zhx;rw [h];rfl
theorem zCD {r:Host}{b:List Entry}{m g page need q:Int}{io:Bool}(h:zjP b m g page need=true):zhx r b m g page need q io=(r,((zsS b m g page).getD ⟨0,0,0,0⟩).Host,true):=by
 unfold zhx;rw [h];rfl
theorem zQ3 {h:Host}{b:List Entry}{m g page need:Int}{io:Bool}(hh:zdI h m g page need=true):lookOf h b m g page need io=zhx (cond (ieq need 2) (zb6 h m (zcR (zdr h m g) page need)) h) b m g page need (zcR (zdr h m g) page need) io:=by
 unfold lookOf;rw [hh];rfl
theorem zXM {N:Nat}{r:Host}{b:List Entry}{m g page need:Int}{io:Bool}(hs:SmH r)(hg:zcD r m g=true)(hn:zgy need=true) :
 zkJ N m r g page need b io=some (zid (lookOf r b m g page need io)):=by
 obtain ⟨g1,g2,g3⟩:=zcJ hg;unfold zkJ;refine must (zF g2) (must (zF g3) (must rfl (brN (fun hw=>?_) (fun hw=>must rfl ?_))))
 ·have:zdI r m g page need=false:=by
   unfold zdI;rw [hg,hn,show zfX (zdr r m g) page need=false from hw]
   rfl
  rw [ziO this];rfl
 ·have hl:zdI r m g page need=true:=by
   unfold zdI;rw [hg,hn,show zfX (zdr r m g) page need=true from hw]
   rfl
  obtain ⟨A,B⟩:=zBN hs hl;rw [zQ3 hl];have hd:hasB (zcR (zdr r m g) page need) (ln (ix r.Mons m mZ).Dirty)=true:=zda (zck A.fit.1 g2).2.2.2.1 A.hq;refine br (fun h2=>?_) (fun h2=>?_)
  ·rw [h2]
   show _=some (zid (zhx (zb6 r m (zcR (zdr r m g) page need)) b m g page need (zcR (zdr r m g) page need) io))
   refine must (zF g2) (must (zF hd) (shr (must rfl (shr (br (fun f1=>must rfl (br (fun f2=>?_) (fun f2=>?_))) (fun f1=>?_))))))
   ·rw [zCD (zlv f1 f2)];rfl
   ·rw [zlC (zlv f1 f2)];exact zCs (r:=zb6 r m (zcR (zdr r m g) page need)) B
   ·rw [zlC (zCv f1)];exact zCs (r:=zb6 r m (zcR (zdr r m g) page need)) B
  ·rw [h2]
   show _=some (zid (zhx r b m g page need (zcR (zdr r m g) page need) io))
   refine must rfl (shr (br (fun f1=>must rfl (br (fun f2=>?_) (fun f2=>?_))) (fun f1=>?_)))
   ·rw [zCD (zlv f1 f2)];rfl
   ·rw [zlC (zlv f1 f2)];exact zCs A
   ·rw [zlC (zCv f1)];exact zCs A
theorem zNE (a0:Host)(a1:List Entry)(a2 a3:Int)(a4 a5:Int)(a6:Bool)(hb:zG big [.agg (zA a0),.one (.s .entry a1),.one (.i .i64 a2),.one (.i .i64 a3),.one (.i .i64 a4),.one (.i .i64 a5),.one (.b a6)])(hc:(zo9 a0 a1 a2 a3 a4 a5 a6)=true):∃N,zoF N a0 a1 a2 a3 a4 a5 a6=some [.agg (zA (zT a0 a1 a2 a3 a4 a5 a6)),.one (.i .i64 (zho a0 a1 a2 a3 a4 a5 a6)),.one (.b (zo8 a0 a1 a2 a3 a4 a5 a6))]:=by
 have hs:=(zbo a0).1 (zJ.1 hc);refine ⟨0,?_⟩
 show _=some (zid (lookOf a0 a1 a2 a3 a4 a5 a6))
 unfold zoF;refine must rfl (brN (fun h1=>?_) (fun h1=>must rfl ?_))
 ·rw [ziO (zlD (zCx h1))];rfl
 rw [show zbe a2 0 (wsub .i64 (ln a0.Mons) 1)=hasB a2 (ln a0.Mons) from zr5 hs.2.1.1 a2]
 refine brN (fun h2=>?_) (fun h2=>must (zF h2) (must rfl ?_))
 ·rw [ziO (zlD (zI9 h2))];rfl
 have hl:(ix a0.Mons a2 mZ).Guests.length<=1048576:=(hs.2.1.2 _ (zdd h2 _)).2.2.2.1.1;rw [show zbe a3 0 (wsub .i64 (ln (ix a0.Mons a2 zf).Guests) 1)=hasB a3 (ln (ix a0.Mons a2 mZ).Guests) from zr5 hl a3]
 refine brN (fun h3=>?_) (fun h3=>?_)
 ·rw [ziO (zlD (zJa h3))];rfl
 have hg:=zJb h1 h2 h3;have hno:∀{n:Int},zgy n=false->zdI a0 a2 a3 a4 n=false:=fun {n} h=>by
  unfold zdI;rw [hg,h];rfl
 rw [zjW,zjW];cases h4:ieq a5 1
 ·cases h5:ieq a5 2
  ·have:zgy a5=false:=by unfold zgy;rw [h4,h5];rfl
   rw [ziO (hno this)];rfl
  ·exact zXM hs hg (by unfold zgy;rw [h4,h5];rfl)
 ·exact zXM hs hg (by unfold zgy;rw [h4];rfl)
theorem zHt:zez Tryz.prog 97 [true,true,true,true,false,false,false,false,false,false] (some (1,1,[[0],[1],[2],[4],[7]])) zqX:=by
 refine zJc (kt:=.mon) (zdF zgs zD zem zxT) (zC (by kernel_rfl)) ?_
 intro al avs rs hal heq hl hr h;have hb:=zi8 hr;have hal':al=[(4,2)]\/al=[(4,3)]:=by
  rw [show zlr 97=[[(4,2)],[(4,3)]] from by kernel_rfl] at hal
  simpa using hal
 unfold zqX at h;split at h
 ·rename_i a0_0 a0_1 a0_2 a0_3 a1 a2 a3 a4 a5 a6;obtain ⟨hc,rfl⟩:=zl h;obtain ⟨N,hN⟩:=zNE (⟨a0_0,a0_1,a0_2,a0_3⟩:Host) a1 a2 a3 a4 a5 a6 hb hc;refine ⟨⟨_,rfl⟩,rfl,zq4,N,12,?_⟩;rcases hal' with rfl|rfl
  ·have e:=heq 4 2 (by simp)
   simp only [zI,List.flatMap_cons,AV.cvs] at e;cases e;exact (zLv N (⟨a0_0,a0_1,a0_2,a0_3⟩:Host) a2 a3 a4 a5 a6).trans hN
  ·have e:=heq 4 3 (by simp)
   simp only [zI,List.flatMap_cons,AV.cvs] at e;cases e;exact (zLw N (⟨a0_0,a0_1,a0_2,a0_3⟩:Host) a2 a3 a4 a5 a6).trans hN
 ·cases h
def zlp:zy4:=[(97,([true,true,true,true,false,false,false,false,false,false],(some (1,1,[[0],[1],[2],[4],[7]])),zqX))]++zF3
theorem zfK:∀f own inp run,zx zlp f=some (own,inp,run)->zez Tryz.prog f own inp run:=zuJ zxT (by
 intro x hx;simp only [List.mem_cons,List.not_mem_nil,or_false] at hx;rcases hx with rfl
 ·exact zHt)
def gOf (h:Host)(m g:Int):Guest:=ix (ix h.Mons m mZ).Guests g gZ
def zfF (h:Host)(m g:Int)(x:Guest):Host:={ h with Mons:=up h.Mons m { ix h.Mons m mZ with Guests:=up (ix h.Mons m mZ).Guests g x } }
def zhy (h:Host)(m g:Int)(x:Guest)(w:Bool):Host×Int×Bool:=lookOf h h.Buffer m g (zdw (address x)) (zeP w) false
def zht (L:Host×Int×Bool)(m g:Int)(x:Guest)(w:Bool):Host :=
 bif L.2.2 then (cond w (zfF { L.1 with Memory:=zfg L.1.Memory L.2.1 (zgq (address x)) x.A } m g (zb7 x)) (zfF L.1 m g (loaded x (cellAt L.1.Memory L.2.1 (zgq (address x))))))
 else zfF L.1 m g (stopped x (zuU (zdw (address x)) w))
def owned (h:Host)(m:Int):Host:=bif ilt (ix h.Mons m mZ).Own 1000000000 then { h with Mons:=up h.Mons m { ix h.Mons m mZ with Own:=zq .i64 (ix h.Mons m mZ).Own 1 } } else h
def zjy (h:Host)(m n:Int):Host:=bif ilt (ln (ix h.Mons m mZ).Outs) 40 then { h with Mons:=up h.Mons m { ix h.Mons m mZ with Outs:=ap (ix h.Mons m mZ).Outs [n] } } else h
def zfp (h:Host)(m:Int)(x:Guest)(w:Int):Host:=bif (cond (ine w 6) (ieq (ziT (ix h.Mons m mZ).Traps x.Ctl.Traps (zeU w)) 2) false) then owned h m else h
def zie (h:Host)(m:Int)(x:Guest)(w:Int):Host:=bif (cond (zgF x.Ctl.Traps w) (ieq w 5) false) then zjy h m (zdE x.Prog x.Pc).X else h
def zi4 (h:Host)(m g:Int)(x:Guest)(w:Int):Host:=zfF (zie (zfp h m x w) m x w) m g (zfq x x.Ctl.Traps w)
def zIx (h:Host)(m g:Int)(x:Guest)(w:Int):Host×Bool :=
 bif ieq w 0 then (h,false) else (bif ieq w 1 then (zfF h m g (interrupted x),true) else (bif ieq w 2 then (zfF h m g (plainly x),true) else
  (cond (cond (ieq w 3) true (ieq w 4)) (zht (zhy h m g x (ieq w 4)) m g x (ieq w 4),true) (zi4 h m g x w,true))))
def zbE (h:Host)(m g:Int):Host×Bool:=bif zcD h m g then zIx h m g (gOf h m g) (zN (gOf h m g)) else (h,false)
def zdN (x:Host×Bool):List AV:=[.agg (zA x.1),.one (.b x.2)]
theorem ziu {h:Host}{m g:Int}(hs:SmH h)(hm:hasB m (ln h.Mons)=true)(hg:hasB g (ln (ix h.Mons m mZ).Guests)=true):SmG (gOf h m g):=(hs.2.1.2 _ (zdd hm _)).2.2.2.1.2 _ (zdd hg _)
theorem zXo {h:Host}{m g:Int}{x:Guest}(hs:Shape h)(hm:hasB m (ln h.Mons)=true)(hx:SmG x):Shape (zfF h m g x):=by
 obtain ⟨g1,g2⟩:=zck hs hm;exact zhp hs ⟨g1.1,g1.2.1,g1.2.2.1,zLC g1.2.2.2.1 hx,g1.2.2.2.2⟩ ⟨g2.1,g2.2.1,g2.2.2.1,by simpa using g2.2.2.2⟩
theorem z1V (o i t:Int):ieq (ziT o i t) 1=zdl i t:=by
 unfold ziT;cases zdl i t
 ·cases zdl o t<;>rfl
 ·rfl
theorem z1W {o i t:Int}(h:zdl i t=true):ieq (ziT o i t) 2=false:=by
 unfold ziT;rw [h];rfl
theorem zmA {h:Host}{m:Int}(hm:hasB m (ln h.Mons)=true)(x:Mon):ix (up h.Mons m x) m mZ=x:=by
 obtain ⟨k,rfl,hk⟩:=zej (n:=h.Mons.length) hm;exact ze3 hk _ _
@[simp,reducible] def zeq (h:Host)(m g:Int):Bool:=pc (zea h)
@[simp,reducible] def zeQ (h:Host)(m g:Int):Host:=(zbE h m g).1
@[simp,reducible] def zB0 (h:Host)(m g:Int):Bool:=(zbE h m g).2
theorem zOP {α:Type}{l:List α}{x:α}(h:ilt (ln l) 40=true):few (ln (ap l [x]))=true:=by
 have:=of_decide_eq_true h;simp only [ln] at this;exact zeo (by simp [ap];omega)
theorem zVz {h:Host}{m:Int}{x:Guest}{w:Int}(hh:(cond (zgF x.Ctl.Traps w) (ieq w 5) false)=false):zie h m x w=h:=by
 unfold zie;rw [hh];rfl
theorem zMk {h:Host}{m:Int}{x:Guest}{w:Int}(hh:ilt (ln (ix h.Mons m mZ).Outs) 40=false):zie h m x w=h:=by
 unfold zie zjy;rw [hh];cases (cond (zgF x.Ctl.Traps w) (ieq w 5) false)<;>rfl
theorem zSb {h:Host}{m:Int}{x:Guest}{w:Int}(h1:zgF x.Ctl.Traps w=true)(h2:ieq w 5=true)(hh:ilt (ln (ix h.Mons m mZ).Outs) 40=true):zie h m x w={ h with Mons:=up h.Mons m { ix h.Mons m mZ with Outs:=ap (ix h.Mons m mZ).Outs [(zdE x.Prog x.Pc).X] } }:=by
 unfold zie zjy;rw [h1,h2,hh];rfl
theorem zIE {h:Host}{m:Int}{x:Guest}{w:Int}(h1:zgF x.Ctl.Traps w=false):zie h m x w=h:=zVz (by rw [h1];rfl)
theorem zB9 {h:Host}{m:Int}{x:Guest}{w:Int}(h1:ieq w 5=false):zie h m x w=h:=zVz (by rw [h1];cases zgF x.Ctl.Traps w<;>rfl)
theorem zHx (a:Int):(cond (ieq a a) true false)=true:=by rw [zfQ];rfl
theorem zgp {h:Host}{m g:Int}(hh:zcD h m g=false):zbE h m g=(h,false):=by
 unfold zbE;rw [hh];rfl
theorem zhq {h:Host}{m g:Int}(hh:zcD h m g=true):zbE h m g=zIx h m g (gOf h m g) (zN (gOf h m g)):=by
 unfold zbE;rw [hh];rfl
theorem zkd {a b:Bool}(h:(cond a b false)=true):a=true/\b=true:=by
 cases a
 ·cases h
 ·exact ⟨rfl,h⟩
theorem zhv {a b:Bool}(ha:a=true)(hb:b=true):(cond a b false)=true:=by
 rw [ha];exact hb
theorem zVC {h:Host}{m:Int}{x:Guest}{w:Int}(h6:ine w 6=true)(h0:ieq (ziT (ix h.Mons m mZ).Traps x.Ctl.Traps (zeU w)) 2=true)(h9:ilt (ix h.Mons m mZ).Own 1000000000=true):zfp h m x w={ h with Mons:=up h.Mons m { ix h.Mons m mZ with Own:=zq .i64 (ix h.Mons m mZ).Own 1 } }:=by
 unfold zfp owned;rw [h6,h0,h9];rfl
theorem zVA {h:Host}{m:Int}{x:Guest}{w:Int}(h0:ieq (ziT (ix h.Mons m mZ).Traps x.Ctl.Traps (zeU w)) 2=false):zfp h m x w=h:=by
 unfold zfp;rw [h0];cases ine w 6<;>rfl
theorem zVB {h:Host}{m:Int}{x:Guest}{w:Int}(h9:ilt (ix h.Mons m mZ).Own 1000000000=false):zfp h m x w=h:=by
 unfold zfp owned;rw [h9];cases (cond (ine w 6) (ieq (ziT (ix h.Mons m mZ).Traps x.Ctl.Traps (zeU w)) 2) false)<;>rfl
theorem z1p {h:Host}{m:Int}{x:Guest}:zfp h m x 6=h:=rfl
theorem zlq {h h':Host}{m g:Int}{x:Guest}{w:Int}(e:zfp h m x w=h'):zi4 h m g x w=zfF (zie h' m x w) m g (zfq x x.Ctl.Traps w):=by
 unfold zi4;rw [e]
theorem zZX (x:Guest):ieq (zN x) 0=true\/ieq (zN x) 1=true\/ieq (zN x) 2=true\/ieq (zN x) 3=true\/ieq (zN x) 4=true\/ieq (zN x) 5=true\/ieq (zN x) 6=true\/ieq (zN x) 7=true:=by
 cases h0:ieq (zN x) 0
 ·cases h1:ieq (zN x) 1
  ·cases h2:ieq (zN x) 2
   ·cases h3:ieq (zN x) 3
    ·cases h4:ieq (zN x) 4
     ·cases h5:ieq (zN x) 5
      ·cases h6:ieq (zN x) 6
       ·exact .inr (.inr (.inr (.inr (.inr (.inr (.inr (zXx x h0 h1 h2 h3 h4 h5 h6)))))))
       ·exact .inr (.inr (.inr (.inr (.inr (.inr (.inl rfl))))))
      ·exact .inr (.inr (.inr (.inr (.inr (.inl rfl)))))
     ·exact .inr (.inr (.inr (.inr (.inl rfl))))
    ·exact .inr (.inr (.inr (.inl rfl)))
   ·exact .inr (.inr (.inl rfl))
  ·exact .inr (.inl rfl)
 ·exact .inl rfl
@[reducible] def zAq (x:Guest):Bool:=bif zex x then ieq (zN x) 0 else false
def zm3:List AV->Option (Bool×List AV)
 | [.agg [.s .ins c,.i .i64 d,.i .i64 e,.s .slot f,.s .slot g,.i .i64 h,.i .i64 j,.b k,.i .i64 l,.i .i64 m,.i .i64 n,.b o,.i .i64 p,.b q,.s .int r]]=>some ((zAq (⟨c,d,e,f,g,⟨h,j,k⟩,l,⟨m,n,o,p⟩,q,r⟩:Guest)),[.one (.i .i64 0)])
 | _=>none
theorem zDk:Holds Tryz.prog 40 zm3:=by
 refine ⟨zcf.1,fun w avs xs rs hrep h=>?_⟩;unfold zm3 at h;split at h
 ·obtain ⟨hc,rfl⟩:=zl h;obtain ⟨h1,h2⟩:=zkd hc;exact zcf.2 w _ xs _ hrep (congr (congrArg (fun c v=>some (c,[AV.one (CV.i .i64 v)])) h1) (of_decide_eq_true h2))
 ·cases h
def zUV:zbQ:=[(40,zm3)]++zjL
theorem zV7:zbw zUV:=zn zDk zgs
@[simp,reducible] def zvh (h:Host)(m g:Int):Bool:=bif zeq h m g then ieq (zN (gOf h m g)) 0 else false
@[simp,reducible] def zvf (h:Host)(m g:Int):Host:=(zbE h m g).1
@[simp,reducible] def zvg (h:Host)(m g:Int):Bool:=(zbE h m g).2
def zq5:List AV->Option (Bool×List AV)
 | [.agg [.s (.sl .int) c,.s .mon d,.s .entry e,.s .entry f],.one (.i .i64 g),.one (.i .i64 h)]=>some ((zvh (⟨c,d,e,f⟩:Host) g h),[.agg (zA (zvf (⟨c,d,e,f⟩:Host) g h)),.one (.b (zvg (⟨c,d,e,f⟩:Host) g h))])
 | _=>none
def zlR (N:Nat)(a0:Host)(a1 a2:Int):Option Ans :=
 (cond (zer a0) (cond (zgk (zh a0) a1 a2) (cond (cond (zhQ (zh a0) a1 a2) false true) (some [(.agg (zA (zh a0))),(.one (.b false))]) (cond (inb a1 (ln (zh a0).Mons)) (cond (inb a2 (ln (ix (zh a0).Mons a1 zf).Guests)) (cond (zAq (ix (ix (zh a0).Mons a1 zf).Guests a2 zi)) (some [(.agg (zA (zh a0))),(.one (.b false))]) none) none) none)) none) none)
theorem zFP (N:Nat)(a0:Host)(a1 a2:Int):evalFn (cQ zUV zV zhM zlp) (zB []) N 12 18 [.agg (zA a0),.one (.i .i64 a1),.one (.i .i64 a2)]=zlR N a0 a1 a2:=by kernel_rfl
@[reducible] def zAr (x:Guest):Bool:=bif zex x then ieq (zN x) 1 else false
def zm4:List AV->Option (Bool×List AV)
 | [.agg [.s .ins c,.i .i64 d,.i .i64 e,.s .slot f,.s .slot g,.i .i64 h,.i .i64 j,.b k,.i .i64 l,.i .i64 m,.i .i64 n,.b o,.i .i64 p,.b q,.s .int r]]=>some ((zAr (⟨c,d,e,f,g,⟨h,j,k⟩,l,⟨m,n,o,p⟩,q,r⟩:Guest)),[.one (.i .i64 1)])
 | _=>none
theorem zDl:Holds Tryz.prog 40 zm4:=by
 refine ⟨zcf.1,fun w avs xs rs hrep h=>?_⟩;unfold zm4 at h;split at h
 ·obtain ⟨hc,rfl⟩:=zl h;obtain ⟨h1,h2⟩:=zkd hc;exact zcf.2 w _ xs _ hrep (congr (congrArg (fun c v=>some (c,[AV.one (CV.i .i64 v)])) h1) (of_decide_eq_true h2))
 ·cases h
def zUW:zbQ:=[(40,zm4)]++zjL
theorem zV8:zbw zUW:=zn zDl zgs
@[simp,reducible] def zvk (h:Host)(m g:Int):Bool:=bif zeq h m g then ieq (zN (gOf h m g)) 1 else false
@[simp,reducible] def zvi (h:Host)(m g:Int):Host:=(zbE h m g).1
@[simp,reducible] def zvj (h:Host)(m g:Int):Bool:=(zbE h m g).2
def zq6:List AV->Option (Bool×List AV)
 | [.agg [.s (.sl .int) c,.s .mon d,.s .entry e,.s .entry f],.one (.i .i64 g),.one (.i .i64 h)]=>some ((zvk (⟨c,d,e,f⟩:Host) g h),[.agg (zA (zvi (⟨c,d,e,f⟩:Host) g h)),.one (.b (zvj (⟨c,d,e,f⟩:Host) g h))])
 | _=>none
def zlS (N:Nat)(a0:Host)(a1 a2:Int):Option Ans :=
 (cond (zer a0) (cond (zgk (zh a0) a1 a2) (cond (cond (zhQ (zh a0) a1 a2) false true) (some [(.agg (zA (zh a0))),(.one (.b false))]) (cond (inb a1 (ln (zh a0).Mons)) (cond (inb a2 (ln (ix (zh a0).Mons a1 zf).Guests)) (cond (zAr (ix (ix (zh a0).Mons a1 zf).Guests a2 zi)) (cond (inb a1 (ln (zh a0).Mons)) (cond (znf (ix (ix (zh a0).Mons a1 zf).Guests a2 zi)) (cond (inb a2 (ln (ix (zh a0).Mons a1 zf).Guests)) (share (up (zh a0).Mons a1 ({ (ix (zh a0).Mons a1 zf) with Guests:=(up (ix (zh a0).Mons a1 zf).Guests a2 (ziq (ix (ix (zh a0).Mons a1 zf).Guests a2 zi))) }:Mon)) (fun x4=>(some [(.agg (zA ({ (zh a0) with Mons:=x4 }:Host))),(.one (.b true))]))) none) none) none) none) none) none)) none) none)
theorem zFQ (N:Nat)(a0:Host)(a1 a2:Int):evalFn (cQ zUW zV zhM zlp) (zB []) N 12 18 [.agg (zA a0),.one (.i .i64 a1),.one (.i .i64 a2)]=zlS N a0 a1 a2:=by kernel_rfl
@[reducible] def zAs (x:Guest):Bool:=bif zex x then ieq (zN x) 2 else false
def zm5:List AV->Option (Bool×List AV)
 | [.agg [.s .ins c,.i .i64 d,.i .i64 e,.s .slot f,.s .slot g,.i .i64 h,.i .i64 j,.b k,.i .i64 l,.i .i64 m,.i .i64 n,.b o,.i .i64 p,.b q,.s .int r]]=>some ((zAs (⟨c,d,e,f,g,⟨h,j,k⟩,l,⟨m,n,o,p⟩,q,r⟩:Guest)),[.one (.i .i64 2)])
 | _=>none
theorem zDm:Holds Tryz.prog 40 zm5:=by
 refine ⟨zcf.1,fun w avs xs rs hrep h=>?_⟩;unfold zm5 at h;split at h
 ·obtain ⟨hc,rfl⟩:=zl h;obtain ⟨h1,h2⟩:=zkd hc;exact zcf.2 w _ xs _ hrep (congr (congrArg (fun c v=>some (c,[AV.one (CV.i .i64 v)])) h1) (of_decide_eq_true h2))
 ·cases h
def zUX:zbQ:=[(40,zm5)]++zjL
theorem zV9:zbw zUX:=zn zDm zgs
@[simp,reducible] def zvn (h:Host)(m g:Int):Bool:=bif zeq h m g then ieq (zN (gOf h m g)) 2 else false
@[simp,reducible] def zvl (h:Host)(m g:Int):Host:=(zbE h m g).1
@[simp,reducible] def zvm (h:Host)(m g:Int):Bool:=(zbE h m g).2
def zq7:List AV->Option (Bool×List AV)
 | [.agg [.s (.sl .int) c,.s .mon d,.s .entry e,.s .entry f],.one (.i .i64 g),.one (.i .i64 h)]=>some ((zvn (⟨c,d,e,f⟩:Host) g h),[.agg (zA (zvl (⟨c,d,e,f⟩:Host) g h)),.one (.b (zvm (⟨c,d,e,f⟩:Host) g h))])
 | _=>none
def zlT (N:Nat)(a0:Host)(a1 a2:Int):Option Ans :=
 (cond (zer a0) (cond (zgk (zh a0) a1 a2) (cond (cond (zhQ (zh a0) a1 a2) false true) (some [(.agg (zA (zh a0))),(.one (.b false))]) (cond (inb a1 (ln (zh a0).Mons)) (cond (inb a2 (ln (ix (zh a0).Mons a1 zf).Guests)) (cond (zAs (ix (ix (zh a0).Mons a1 zf).Guests a2 zi)) (cond (inb a1 (ln (zh a0).Mons)) (cond (zxb (ix (ix (zh a0).Mons a1 zf).Guests a2 zi)) (cond (inb a2 (ln (ix (zh a0).Mons a1 zf).Guests)) (share (up (zh a0).Mons a1 ({ (ix (zh a0).Mons a1 zf) with Guests:=(up (ix (zh a0).Mons a1 zf).Guests a2 (zps (ix (ix (zh a0).Mons a1 zf).Guests a2 zi))) }:Mon)) (fun x4=>(some [(.agg (zA ({ (zh a0) with Mons:=x4 }:Host))),(.one (.b true))]))) none) none) none) none) none) none)) none) none)
theorem zFR (N:Nat)(a0:Host)(a1 a2:Int):evalFn (cQ zUX zV zhM zlp) (zB []) N 12 18 [.agg (zA a0),.one (.i .i64 a1),.one (.i .i64 a2)]=zlT N a0 a1 a2:=by kernel_rfl
@[reducible] def zAt (x:Guest):Bool:=bif zex x then ieq (zN x) 3 else false
def zm6:List AV->Option (Bool×List AV)
 | [.agg [.s .ins c,.i .i64 d,.i .i64 e,.s .slot f,.s .slot g,.i .i64 h,.i .i64 j,.b k,.i .i64 l,.i .i64 m,.i .i64 n,.b o,.i .i64 p,.b q,.s .int r]]=>some ((zAt (⟨c,d,e,f,g,⟨h,j,k⟩,l,⟨m,n,o,p⟩,q,r⟩:Guest)),[.one (.i .i64 3)])
 | _=>none
theorem zDn:Holds Tryz.prog 40 zm6:=by
 refine ⟨zcf.1,fun w avs xs rs hrep h=>?_⟩;unfold zm6 at h;split at h
 ·obtain ⟨hc,rfl⟩:=zl h;obtain ⟨h1,h2⟩:=zkd hc;exact zcf.2 w _ xs _ hrep (congr (congrArg (fun c v=>some (c,[AV.one (CV.i .i64 v)])) h1) (of_decide_eq_true h2))
 ·cases h
def zUY:zbQ:=[(40,zm6)]++zjL
theorem zWa:zbw zUY:=zn zDn zgs
@[simp,reducible] def zvq (h:Host)(m g:Int):Bool:=bif zeq h m g then ieq (zN (gOf h m g)) 3 else false
@[simp,reducible] def zvo (h:Host)(m g:Int):Host:=(zbE h m g).1
@[simp,reducible] def zvp (h:Host)(m g:Int):Bool:=(zbE h m g).2
def zq8:List AV->Option (Bool×List AV)
 | [.agg [.s (.sl .int) c,.s .mon d,.s .entry e,.s .entry f],.one (.i .i64 g),.one (.i .i64 h)]=>some ((zvq (⟨c,d,e,f⟩:Host) g h),[.agg (zA (zvo (⟨c,d,e,f⟩:Host) g h)),.one (.b (zvp (⟨c,d,e,f⟩:Host) g h))])
 | _=>none
def zlU (N:Nat)(a0:Host)(a1 a2:Int):Option Ans :=
 (cond (zer a0) (cond (zgk (zh a0) a1 a2) (cond (cond (zhQ (zh a0) a1 a2) false true) (some [(.agg (zA (zh a0))),(.one (.b false))]) (cond (inb a1 (ln (zh a0).Mons)) (cond (inb a2 (ln (ix (zh a0).Mons a1 zf).Guests)) (cond (zAt (ix (ix (zh a0).Mons a1 zf).Guests a2 zi)) (cond (zo3 (ix (ix (zh a0).Mons a1 zf).Guests a2 zi)) (cond (zhO (zL (ix (ix (zh a0).Mons a1 zf).Guests a2 zi))) (cond (zrP false) (cond (zo9 (zh a0) (zh a0).Buffer a1 a2 (zM (zL (ix (ix (zh a0).Mons a1 zf).Guests a2 zi))) (zba false) false) (cond (cond (zo8 (zh a0) (zh a0).Buffer a1 a2 (zM (zL (ix (ix (zh a0).Mons a1 zf).Guests a2 zi))) (zba false) false) false true) (cond (inb a1 (ln (zT (zh a0) (zh a0).Buffer a1 a2 (zM (zL (ix (ix (zh a0).Mons a1 zf).Guests a2 zi))) (zba false) false).Mons)) (cond (zhO (zL (ix (ix (zh a0).Mons a1 zf).Guests a2 zi))) (cond (zkW (zM (zL (ix (ix (zh a0).Mons a1 zf).Guests a2 zi))) false) (cond (zgh ({ (ix (ix (zh a0).Mons a1 zf).Guests a2 zi) with Prog:=(ix (ix (zT (zh a0) (zh a0).Buffer a1 a2 (zM (zL (ix (ix (zh a0).Mons a1 zf).Guests a2 zi))) (zba false) false).Mons a1 zf).Guests a2 zi).Prog,Written:=(ix (ix (zT (zh a0) (zh a0).Buffer a1 a2 (zM (zL (ix (ix (zh a0).Mons a1 zf).Guests a2 zi))) (zba false) false).Mons a1 zf).Guests a2 zi).Written,Live:=(ix (ix (zT (zh a0) (zh a0).Buffer a1 a2 (zM (zL (ix (ix (zh a0).Mons a1 zf).Guests a2 zi))) (zba false) false).Mons a1 zf).Guests a2 zi).Live,Seen:=(ix (ix (zT (zh a0) (zh a0).Buffer a1 a2 (zM (zL (ix (ix (zh a0).Mons a1 zf).Guests a2 zi))) (zba false) false).Mons a1 zf).Guests a2 zi).Seen }:Guest) (zgf (zM (zL (ix (ix (zh a0).Mons a1 zf).Guests a2 zi))) false)) (cond (inb a2 (ln (ix (zT (zh a0) (zh a0).Buffer a1 a2 (zM (zL (ix (ix (zh a0).Mons a1 zf).Guests a2 zi))) (zba false) false).Mons a1 zf).Guests)) (share (up (zT (zh a0) (zh a0).Buffer a1 a2 (zM (zL (ix (ix (zh a0).Mons a1 zf).Guests a2 zi))) (zba false) false).Mons a1 ({ (ix (zT (zh a0) (zh a0).Buffer a1 a2 (zM (zL (ix (ix (zh a0).Mons a1 zf).Guests a2 zi))) (zba false) false).Mons a1 zf) with Guests:=(up (ix (zT (zh a0) (zh a0).Buffer a1 a2 (zM (zL (ix (ix (zh a0).Mons a1 zf).Guests a2 zi))) (zba false) false).Mons a1 zf).Guests a2 (zgg ({ (ix (ix (zh a0).Mons a1 zf).Guests a2 zi) with Prog:=(ix (ix (zT (zh a0) (zh a0).Buffer a1 a2 (zM (zL (ix (ix (zh a0).Mons a1 zf).Guests a2 zi))) (zba false) false).Mons a1 zf).Guests a2 zi).Prog,Written:=(ix (ix (zT (zh a0) (zh a0).Buffer a1 a2 (zM (zL (ix (ix (zh a0).Mons a1 zf).Guests a2 zi))) (zba false) false).Mons a1 zf).Guests a2 zi).Written,Live:=(ix (ix (zT (zh a0) (zh a0).Buffer a1 a2 (zM (zL (ix (ix (zh a0).Mons a1 zf).Guests a2 zi))) (zba false) false).Mons a1 zf).Guests a2 zi).Live,Seen:=(ix (ix (zT (zh a0) (zh a0).Buffer a1 a2 (zM (zL (ix (ix (zh a0).Mons a1 zf).Guests a2 zi))) (zba false) false).Mons a1 zf).Guests a2 zi).Seen }:Guest) (zgf (zM (zL (ix (ix (zh a0).Mons a1 zf).Guests a2 zi))) false))) }:Mon)) (fun x4=>(some [(.agg (zA ({ (zT (zh a0) (zh a0).Buffer a1 a2 (zM (zL (ix (ix (zh a0).Mons a1 zf).Guests a2 zi))) (zba false) false) with Mons:=x4 }:Host))),(.one (.b true))]))) none) none) none) none) none) (cond (inb a1 (ln (zT (zh a0) (zh a0).Buffer a1 a2 (zM (zL (ix (ix (zh a0).Mons a1 zf).Guests a2 zi))) (zba false) false).Mons)) (cond (znc (zL (ix (ix (zh a0).Mons a1 zf).Guests a2 zi))) (cond (zz4 (zT (zh a0) (zh a0).Buffer a1 a2 (zM (zL (ix (ix (zh a0).Mons a1 zf).Guests a2 zi))) (zba false) false).Memory (zho (zh a0) (zh a0).Buffer a1 a2 (zM (zL (ix (ix (zh a0).Mons a1 zf).Guests a2 zi))) (zba false) false) (zf5 (zL (ix (ix (zh a0).Mons a1 zf).Guests a2 zi)))) (cond (zz7 ({ (ix (ix (zh a0).Mons a1 zf).Guests a2 zi) with Prog:=(ix (ix (zT (zh a0) (zh a0).Buffer a1 a2 (zM (zL (ix (ix (zh a0).Mons a1 zf).Guests a2 zi))) (zba false) false).Mons a1 zf).Guests a2 zi).Prog,Written:=(ix (ix (zT (zh a0) (zh a0).Buffer a1 a2 (zM (zL (ix (ix (zh a0).Mons a1 zf).Guests a2 zi))) (zba false) false).Mons a1 zf).Guests a2 zi).Written,Live:=(ix (ix (zT (zh a0) (zh a0).Buffer a1 a2 (zM (zL (ix (ix (zh a0).Mons a1 zf).Guests a2 zi))) (zba false) false).Mons a1 zf).Guests a2 zi).Live,Seen:=(ix (ix (zT (zh a0) (zh a0).Buffer a1 a2 (zM (zL (ix (ix (zh a0).Mons a1 zf).Guests a2 zi))) (zba false) false).Mons a1 zf).Guests a2 zi).Seen }:Guest) (zot (zT (zh a0) (zh a0).Buffer a1 a2 (zM (zL (ix (ix (zh a0).Mons a1 zf).Guests a2 zi))) (zba false) false).Memory (zho (zh a0) (zh a0).Buffer a1 a2 (zM (zL (ix (ix (zh a0).Mons a1 zf).Guests a2 zi))) (zba false) false) (zf5 (zL (ix (ix (zh a0).Mons a1 zf).Guests a2 zi))))) (cond (inb a2 (ln (ix (zT (zh a0) (zh a0).Buffer a1 a2 (zM (zL (ix (ix (zh a0).Mons a1 zf).Guests a2 zi))) (zba false) false).Mons a1 zf).Guests)) (share (up (zT (zh a0) (zh a0).Buffer a1 a2 (zM (zL (ix (ix (zh a0).Mons a1 zf).Guests a2 zi))) (zba false) false).Mons a1 ({ (ix (zT (zh a0) (zh a0).Buffer a1 a2 (zM (zL (ix (ix (zh a0).Mons a1 zf).Guests a2 zi))) (zba false) false).Mons a1 zf) with Guests:=(up (ix (zT (zh a0) (zh a0).Buffer a1 a2 (zM (zL (ix (ix (zh a0).Mons a1 zf).Guests a2 zi))) (zba false) false).Mons a1 zf).Guests a2 (zuC ({ (ix (ix (zh a0).Mons a1 zf).Guests a2 zi) with Prog:=(ix (ix (zT (zh a0) (zh a0).Buffer a1 a2 (zM (zL (ix (ix (zh a0).Mons a1 zf).Guests a2 zi))) (zba false) false).Mons a1 zf).Guests a2 zi).Prog,Written:=(ix (ix (zT (zh a0) (zh a0).Buffer a1 a2 (zM (zL (ix (ix (zh a0).Mons a1 zf).Guests a2 zi))) (zba false) false).Mons a1 zf).Guests a2 zi).Written,Live:=(ix (ix (zT (zh a0) (zh a0).Buffer a1 a2 (zM (zL (ix (ix (zh a0).Mons a1 zf).Guests a2 zi))) (zba false) false).Mons a1 zf).Guests a2 zi).Live,Seen:=(ix (ix (zT (zh a0) (zh a0).Buffer a1 a2 (zM (zL (ix (ix (zh a0).Mons a1 zf).Guests a2 zi))) (zba false) false).Mons a1 zf).Guests a2 zi).Seen }:Guest) (zot (zT (zh a0) (zh a0).Buffer a1 a2 (zM (zL (ix (ix (zh a0).Mons a1 zf).Guests a2 zi))) (zba false) false).Memory (zho (zh a0) (zh a0).Buffer a1 a2 (zM (zL (ix (ix (zh a0).Mons a1 zf).Guests a2 zi))) (zba false) false) (zf5 (zL (ix (ix (zh a0).Mons a1 zf).Guests a2 zi)))))) }:Mon)) (fun x4=>(some [(.agg (zA ({ (zT (zh a0) (zh a0).Buffer a1 a2 (zM (zL (ix (ix (zh a0).Mons a1 zf).Guests a2 zi))) (zba false) false) with Mons:=x4 }:Host))),(.one (.b true))]))) none) none) none) none) none)) none) none) none) none) none) none) none)) none) none)
theorem zFS (N:Nat)(a0:Host)(a1 a2:Int):evalFn (cQ zUY zV zhM zlp) (zB []) N 12 18 [.agg (zA a0),.one (.i .i64 a1),.one (.i .i64 a2)]=zlU N a0 a1 a2:=by kernel_rfl
@[reducible] def zAu (x:Guest):Bool:=bif zex x then ieq (zN x) 4 else false
def zm7:List AV->Option (Bool×List AV)
 | [.agg [.s .ins c,.i .i64 d,.i .i64 e,.s .slot f,.s .slot g,.i .i64 h,.i .i64 j,.b k,.i .i64 l,.i .i64 m,.i .i64 n,.b o,.i .i64 p,.b q,.s .int r]]=>some ((zAu (⟨c,d,e,f,g,⟨h,j,k⟩,l,⟨m,n,o,p⟩,q,r⟩:Guest)),[.one (.i .i64 4)])
 | _=>none
theorem zDo:Holds Tryz.prog 40 zm7:=by
 refine ⟨zcf.1,fun w avs xs rs hrep h=>?_⟩;unfold zm7 at h;split at h
 ·obtain ⟨hc,rfl⟩:=zl h;obtain ⟨h1,h2⟩:=zkd hc;exact zcf.2 w _ xs _ hrep (congr (congrArg (fun c v=>some (c,[AV.one (CV.i .i64 v)])) h1) (of_decide_eq_true h2))
 ·cases h
def zUZ:zbQ:=[(40,zm7)]++zjL
theorem zWb:zbw zUZ:=zn zDo zgs
@[simp,reducible] def zvt (h:Host)(m g:Int):Bool:=bif zeq h m g then ieq (zN (gOf h m g)) 4 else false
@[simp,reducible] def zvr (h:Host)(m g:Int):Host:=(zbE h m g).1
@[simp,reducible] def zvs (h:Host)(m g:Int):Bool:=(zbE h m g).2
def zq9:List AV->Option (Bool×List AV)
 | [.agg [.s (.sl .int) c,.s .mon d,.s .entry e,.s .entry f],.one (.i .i64 g),.one (.i .i64 h)]=>some ((zvt (⟨c,d,e,f⟩:Host) g h),[.agg (zA (zvr (⟨c,d,e,f⟩:Host) g h)),.one (.b (zvs (⟨c,d,e,f⟩:Host) g h))])
 | _=>none
def zlV (N:Nat)(a0:Host)(a1 a2:Int):Option Ans :=
 (cond (zer a0) (cond (zgk (zh a0) a1 a2) (cond (cond (zhQ (zh a0) a1 a2) false true) (some [(.agg (zA (zh a0))),(.one (.b false))]) (cond (inb a1 (ln (zh a0).Mons)) (cond (inb a2 (ln (ix (zh a0).Mons a1 zf).Guests)) (cond (zAu (ix (ix (zh a0).Mons a1 zf).Guests a2 zi)) (cond (zo3 (ix (ix (zh a0).Mons a1 zf).Guests a2 zi)) (cond (zhO (zL (ix (ix (zh a0).Mons a1 zf).Guests a2 zi))) (cond (zrP true) (cond (zo9 (zh a0) (zh a0).Buffer a1 a2 (zM (zL (ix (ix (zh a0).Mons a1 zf).Guests a2 zi))) (zba true) false) (cond (cond (zo8 (zh a0) (zh a0).Buffer a1 a2 (zM (zL (ix (ix (zh a0).Mons a1 zf).Guests a2 zi))) (zba true) false) false true) (cond (inb a1 (ln (zT (zh a0) (zh a0).Buffer a1 a2 (zM (zL (ix (ix (zh a0).Mons a1 zf).Guests a2 zi))) (zba true) false).Mons)) (cond (zhO (zL (ix (ix (zh a0).Mons a1 zf).Guests a2 zi))) (cond (zkW (zM (zL (ix (ix (zh a0).Mons a1 zf).Guests a2 zi))) true) (cond (zgh ({ (ix (ix (zh a0).Mons a1 zf).Guests a2 zi) with Prog:=(ix (ix (zT (zh a0) (zh a0).Buffer a1 a2 (zM (zL (ix (ix (zh a0).Mons a1 zf).Guests a2 zi))) (zba true) false).Mons a1 zf).Guests a2 zi).Prog,Written:=(ix (ix (zT (zh a0) (zh a0).Buffer a1 a2 (zM (zL (ix (ix (zh a0).Mons a1 zf).Guests a2 zi))) (zba true) false).Mons a1 zf).Guests a2 zi).Written,Live:=(ix (ix (zT (zh a0) (zh a0).Buffer a1 a2 (zM (zL (ix (ix (zh a0).Mons a1 zf).Guests a2 zi))) (zba true) false).Mons a1 zf).Guests a2 zi).Live,Seen:=(ix (ix (zT (zh a0) (zh a0).Buffer a1 a2 (zM (zL (ix (ix (zh a0).Mons a1 zf).Guests a2 zi))) (zba true) false).Mons a1 zf).Guests a2 zi).Seen }:Guest) (zgf (zM (zL (ix (ix (zh a0).Mons a1 zf).Guests a2 zi))) true)) (cond (inb a2 (ln (ix (zT (zh a0) (zh a0).Buffer a1 a2 (zM (zL (ix (ix (zh a0).Mons a1 zf).Guests a2 zi))) (zba true) false).Mons a1 zf).Guests)) (share (up (zT (zh a0) (zh a0).Buffer a1 a2 (zM (zL (ix (ix (zh a0).Mons a1 zf).Guests a2 zi))) (zba true) false).Mons a1 ({ (ix (zT (zh a0) (zh a0).Buffer a1 a2 (zM (zL (ix (ix (zh a0).Mons a1 zf).Guests a2 zi))) (zba true) false).Mons a1 zf) with Guests:=(up (ix (zT (zh a0) (zh a0).Buffer a1 a2 (zM (zL (ix (ix (zh a0).Mons a1 zf).Guests a2 zi))) (zba true) false).Mons a1 zf).Guests a2 (zgg ({ (ix (ix (zh a0).Mons a1 zf).Guests a2 zi) with Prog:=(ix (ix (zT (zh a0) (zh a0).Buffer a1 a2 (zM (zL (ix (ix (zh a0).Mons a1 zf).Guests a2 zi))) (zba true) false).Mons a1 zf).Guests a2 zi).Prog,Written:=(ix (ix (zT (zh a0) (zh a0).Buffer a1 a2 (zM (zL (ix (ix (zh a0).Mons a1 zf).Guests a2 zi))) (zba true) false).Mons a1 zf).Guests a2 zi).Written,Live:=(ix (ix (zT (zh a0) (zh a0).Buffer a1 a2 (zM (zL (ix (ix (zh a0).Mons a1 zf).Guests a2 zi))) (zba true) false).Mons a1 zf).Guests a2 zi).Live,Seen:=(ix (ix (zT (zh a0) (zh a0).Buffer a1 a2 (zM (zL (ix (ix (zh a0).Mons a1 zf).Guests a2 zi))) (zba true) false).Mons a1 zf).Guests a2 zi).Seen }:Guest) (zgf (zM (zL (ix (ix (zh a0).Mons a1 zf).Guests a2 zi))) true))) }:Mon)) (fun x4=>(some [(.agg (zA ({ (zT (zh a0) (zh a0).Buffer a1 a2 (zM (zL (ix (ix (zh a0).Mons a1 zf).Guests a2 zi))) (zba true) false) with Mons:=x4 }:Host))),(.one (.b true))]))) none) none) none) none) none) (cond (znc (zL (ix (ix (zh a0).Mons a1 zf).Guests a2 zi))) (cond (zuF (zT (zh a0) (zh a0).Buffer a1 a2 (zM (zL (ix (ix (zh a0).Mons a1 zf).Guests a2 zi))) (zba true) false).Memory (zho (zh a0) (zh a0).Buffer a1 a2 (zM (zL (ix (ix (zh a0).Mons a1 zf).Guests a2 zi))) (zba true) false) (zf5 (zL (ix (ix (zh a0).Mons a1 zf).Guests a2 zi))) (ix (ix (zh a0).Mons a1 zf).Guests a2 zi).A) (cond (inb a1 (ln (zT (zh a0) (zh a0).Buffer a1 a2 (zM (zL (ix (ix (zh a0).Mons a1 zf).Guests a2 zi))) (zba true) false).Mons)) (cond (zAd ({ (ix (ix (zh a0).Mons a1 zf).Guests a2 zi) with Prog:=(ix (ix (zT (zh a0) (zh a0).Buffer a1 a2 (zM (zL (ix (ix (zh a0).Mons a1 zf).Guests a2 zi))) (zba true) false).Mons a1 zf).Guests a2 zi).Prog,Written:=(ix (ix (zT (zh a0) (zh a0).Buffer a1 a2 (zM (zL (ix (ix (zh a0).Mons a1 zf).Guests a2 zi))) (zba true) false).Mons a1 zf).Guests a2 zi).Written,Live:=(ix (ix (zT (zh a0) (zh a0).Buffer a1 a2 (zM (zL (ix (ix (zh a0).Mons a1 zf).Guests a2 zi))) (zba true) false).Mons a1 zf).Guests a2 zi).Live,Seen:=(ix (ix (zT (zh a0) (zh a0).Buffer a1 a2 (zM (zL (ix (ix (zh a0).Mons a1 zf).Guests a2 zi))) (zba true) false).Mons a1 zf).Guests a2 zi).Seen }:Guest)) (cond (inb a2 (ln (ix (zT (zh a0) (zh a0).Buffer a1 a2 (zM (zL (ix (ix (zh a0).Mons a1 zf).Guests a2 zi))) (zba true) false).Mons a1 zf).Guests)) (share (up (zT (zh a0) (zh a0).Buffer a1 a2 (zM (zL (ix (ix (zh a0).Mons a1 zf).Guests a2 zi))) (zba true) false).Mons a1 ({ (ix (zT (zh a0) (zh a0).Buffer a1 a2 (zM (zL (ix (ix (zh a0).Mons a1 zf).Guests a2 zi))) (zba true) false).Mons a1 zf) with Guests:=(up (ix (zT (zh a0) (zh a0).Buffer a1 a2 (zM (zL (ix (ix (zh a0).Mons a1 zf).Guests a2 zi))) (zba true) false).Mons a1 zf).Guests a2 (zuE ({ (ix (ix (zh a0).Mons a1 zf).Guests a2 zi) with Prog:=(ix (ix (zT (zh a0) (zh a0).Buffer a1 a2 (zM (zL (ix (ix (zh a0).Mons a1 zf).Guests a2 zi))) (zba true) false).Mons a1 zf).Guests a2 zi).Prog,Written:=(ix (ix (zT (zh a0) (zh a0).Buffer a1 a2 (zM (zL (ix (ix (zh a0).Mons a1 zf).Guests a2 zi))) (zba true) false).Mons a1 zf).Guests a2 zi).Written,Live:=(ix (ix (zT (zh a0) (zh a0).Buffer a1 a2 (zM (zL (ix (ix (zh a0).Mons a1 zf).Guests a2 zi))) (zba true) false).Mons a1 zf).Guests a2 zi).Live,Seen:=(ix (ix (zT (zh a0) (zh a0).Buffer a1 a2 (zM (zL (ix (ix (zh a0).Mons a1 zf).Guests a2 zi))) (zba true) false).Mons a1 zf).Guests a2 zi).Seen }:Guest))) }:Mon)) (fun x4=>(some [(.agg (zA ({ (zT (zh a0) (zh a0).Buffer a1 a2 (zM (zL (ix (ix (zh a0).Mons a1 zf).Guests a2 zi))) (zba true) false) with Memory:=(znj (zT (zh a0) (zh a0).Buffer a1 a2 (zM (zL (ix (ix (zh a0).Mons a1 zf).Guests a2 zi))) (zba true) false).Memory (zho (zh a0) (zh a0).Buffer a1 a2 (zM (zL (ix (ix (zh a0).Mons a1 zf).Guests a2 zi))) (zba true) false) (zf5 (zL (ix (ix (zh a0).Mons a1 zf).Guests a2 zi))) (ix (ix (zh a0).Mons a1 zf).Guests a2 zi).A),Mons:=x4 }:Host))),(.one (.b true))]))) none) none) none) none) none)) none) none) none) none) none) none) none)) none) none)
theorem zFT (N:Nat)(a0:Host)(a1 a2:Int):evalFn (cQ zUZ zV zhM zlp) (zB []) N 12 18 [.agg (zA a0),.one (.i .i64 a1),.one (.i .i64 a2)]=zlV N a0 a1 a2:=by kernel_rfl
@[reducible] def zAv (x:Guest):Bool:=bif zex x then ieq (zN x) 5 else false
def zm8:List AV->Option (Bool×List AV)
 | [.agg [.s .ins c,.i .i64 d,.i .i64 e,.s .slot f,.s .slot g,.i .i64 h,.i .i64 j,.b k,.i .i64 l,.i .i64 m,.i .i64 n,.b o,.i .i64 p,.b q,.s .int r]]=>some ((zAv (⟨c,d,e,f,g,⟨h,j,k⟩,l,⟨m,n,o,p⟩,q,r⟩:Guest)),[.one (.i .i64 5)])
 | _=>none
theorem zDp:Holds Tryz.prog 40 zm8:=by
 refine ⟨zcf.1,fun w avs xs rs hrep h=>?_⟩;unfold zm8 at h;split at h
 ·obtain ⟨hc,rfl⟩:=zl h;obtain ⟨h1,h2⟩:=zkd hc;exact zcf.2 w _ xs _ hrep (congr (congrArg (fun c v=>some (c,[AV.one (CV.i .i64 v)])) h1) (of_decide_eq_true h2))
 ·cases h
def zU0:zbQ:=[(40,zm8)]++zjL
theorem zWc:zbw zU0:=zn zDp zgs
@[simp,reducible] def zvw (h:Host)(m g:Int):Bool:=bif zeq h m g then ieq (zN (gOf h m g)) 5 else false
@[simp,reducible] def zvu (h:Host)(m g:Int):Host:=(zbE h m g).1
@[simp,reducible] def zvv (h:Host)(m g:Int):Bool:=(zbE h m g).2
def zra:List AV->Option (Bool×List AV)
 | [.agg [.s (.sl .int) c,.s .mon d,.s .entry e,.s .entry f],.one (.i .i64 g),.one (.i .i64 h)]=>some ((zvw (⟨c,d,e,f⟩:Host) g h),[.agg (zA (zvu (⟨c,d,e,f⟩:Host) g h)),.one (.b (zvv (⟨c,d,e,f⟩:Host) g h))])
 | _=>none
def zlW (N:Nat)(a0:Host)(a1 a2:Int):Option Ans :=
 (cond (zer a0) (cond (zgk (zh a0) a1 a2) (cond (cond (zhQ (zh a0) a1 a2) false true) (some [(.agg (zA (zh a0))),(.one (.b false))]) (cond (inb a1 (ln (zh a0).Mons)) (cond (inb a2 (ln (ix (zh a0).Mons a1 zf).Guests)) (cond (zAv (ix (ix (zh a0).Mons a1 zf).Guests a2 zi)) (cond (inb a1 (ln (zh a0).Mons)) (cond (zo6 (ix (zh a0).Mons a1 zf).Traps (ix (ix (zh a0).Mons a1 zf).Guests a2 zi).Ctl.Traps 1) (cond (ieq (zlI (ix (zh a0).Mons a1 zf).Traps (ix (ix (zh a0).Mons a1 zf).Guests a2 zi).Ctl.Traps 1) 2) (cond (inb a1 (ln (zh a0).Mons)) (cond (ilt (ix (zh a0).Mons a1 zf).Own 1000000000) (cond (inb a1 (ln (zh a0).Mons)) (cond (inb a1 (ln (zh a0).Mons)) (share (up (zh a0).Mons a1 ({ (ix (zh a0).Mons a1 zf) with Own:=(zq .i64 (ix (zh a0).Mons a1 zf).Own 1) }:Mon)) (fun x4=>(cond (zdJ ({ (ix (ix (zh a0).Mons a1 zf).Guests a2 zi) with Prog:=(ix (ix x4 a1 zf).Guests a2 zi).Prog,Written:=(ix (ix x4 a1 zf).Guests a2 zi).Written,Live:=(ix (ix x4 a1 zf).Guests a2 zi).Live,Seen:=(ix (ix x4 a1 zf).Guests a2 zi).Seen }:Guest) (ix (ix (zh a0).Mons a1 zf).Guests a2 zi).Ctl.Traps 5) (cond (zc9 ({ (ix (ix (zh a0).Mons a1 zf).Guests a2 zi) with Prog:=(ix (ix x4 a1 zf).Guests a2 zi).Prog,Written:=(ix (ix x4 a1 zf).Guests a2 zi).Written,Live:=(ix (ix x4 a1 zf).Guests a2 zi).Live,Seen:=(ix (ix x4 a1 zf).Guests a2 zi).Seen }:Guest) (ix (ix (zh a0).Mons a1 zf).Guests a2 zi).Ctl.Traps 5) (cond (inb a1 (ln x4)) (cond (ilt (ln (ix x4 a1 zf).Outs) 40) (cond (inb a1 (ln x4)) (cond (ze0 (ix (ix x4 a1 zf).Guests a2 zi).Prog (ix (ix (zh a0).Mons a1 zf).Guests a2 zi).Pc) (cond (few (ln (ap (ix x4 a1 zf).Outs [(zbN (ix (ix x4 a1 zf).Guests a2 zi).Prog (ix (ix (zh a0).Mons a1 zf).Guests a2 zi).Pc).X]))) (cond (inb a1 (ln x4)) (cond (cond (ieq a1 a1) true false) (share (up x4 a1 ({ (ix x4 a1 zf) with Outs:=(ap (ix x4 a1 zf).Outs [(zbN (ix (ix x4 a1 zf).Guests a2 zi).Prog (ix (ix (zh a0).Mons a1 zf).Guests a2 zi).Pc).X]) }:Mon)) (fun x5=>(cond (inb a1 (ln x5)) (cond (inb a2 (ln (ix x5 a1 zf).Guests)) (share (up x5 a1 ({ (ix x5 a1 zf) with Guests:=(up (ix x5 a1 zf).Guests a2 (zbS ({ (ix (ix (zh a0).Mons a1 zf).Guests a2 zi) with Prog:=(ix (ix x4 a1 zf).Guests a2 zi).Prog,Written:=(ix (ix x4 a1 zf).Guests a2 zi).Written,Live:=(ix (ix x4 a1 zf).Guests a2 zi).Live,Seen:=(ix (ix x4 a1 zf).Guests a2 zi).Seen }:Guest) (ix (ix (zh a0).Mons a1 zf).Guests a2 zi).Ctl.Traps 5)) }:Mon)) (fun x6=>(some [(.agg (zA ({ (zh a0) with Mons:=x6 }:Host))),(.one (.b true))]))) none) none))) none) none) none) none) none) (cond (inb a1 (ln x4)) (cond (inb a2 (ln (ix x4 a1 zf).Guests)) (share (up x4 a1 ({ (ix x4 a1 zf) with Guests:=(up (ix x4 a1 zf).Guests a2 (zbS ({ (ix (ix (zh a0).Mons a1 zf).Guests a2 zi) with Prog:=(ix (ix x4 a1 zf).Guests a2 zi).Prog,Written:=(ix (ix x4 a1 zf).Guests a2 zi).Written,Live:=(ix (ix x4 a1 zf).Guests a2 zi).Live,Seen:=(ix (ix x4 a1 zf).Guests a2 zi).Seen }:Guest) (ix (ix (zh a0).Mons a1 zf).Guests a2 zi).Ctl.Traps 5)) }:Mon)) (fun x5=>(some [(.agg (zA ({ (zh a0) with Mons:=x5 }:Host))),(.one (.b true))]))) none) none)) none) (cond (inb a1 (ln x4)) (cond (inb a2 (ln (ix x4 a1 zf).Guests)) (share (up x4 a1 ({ (ix x4 a1 zf) with Guests:=(up (ix x4 a1 zf).Guests a2 (zbS ({ (ix (ix (zh a0).Mons a1 zf).Guests a2 zi) with Prog:=(ix (ix x4 a1 zf).Guests a2 zi).Prog,Written:=(ix (ix x4 a1 zf).Guests a2 zi).Written,Live:=(ix (ix x4 a1 zf).Guests a2 zi).Live,Seen:=(ix (ix x4 a1 zf).Guests a2 zi).Seen }:Guest) (ix (ix (zh a0).Mons a1 zf).Guests a2 zi).Ctl.Traps 5)) }:Mon)) (fun x5=>(some [(.agg (zA ({ (zh a0) with Mons:=x5 }:Host))),(.one (.b true))]))) none) none)) none))) none) none) (cond (zdJ (ix (ix (zh a0).Mons a1 zf).Guests a2 zi) (ix (ix (zh a0).Mons a1 zf).Guests a2 zi).Ctl.Traps 5) (cond (zc9 (ix (ix (zh a0).Mons a1 zf).Guests a2 zi) (ix (ix (zh a0).Mons a1 zf).Guests a2 zi).Ctl.Traps 5) (cond (inb a1 (ln (zh a0).Mons)) (cond (ilt (ln (ix (zh a0).Mons a1 zf).Outs) 40) (cond (inb a1 (ln (zh a0).Mons)) (cond (ze0 (ix (ix (zh a0).Mons a1 zf).Guests a2 zi).Prog (ix (ix (zh a0).Mons a1 zf).Guests a2 zi).Pc) (cond (few (ln (ap (ix (zh a0).Mons a1 zf).Outs [(zbN (ix (ix (zh a0).Mons a1 zf).Guests a2 zi).Prog (ix (ix (zh a0).Mons a1 zf).Guests a2 zi).Pc).X]))) (cond (inb a1 (ln (zh a0).Mons)) (cond (cond (ieq a1 a1) true false) (share (up (zh a0).Mons a1 ({ (ix (zh a0).Mons a1 zf) with Outs:=(ap (ix (zh a0).Mons a1 zf).Outs [(zbN (ix (ix (zh a0).Mons a1 zf).Guests a2 zi).Prog (ix (ix (zh a0).Mons a1 zf).Guests a2 zi).Pc).X]) }:Mon)) (fun x4=>(cond (inb a1 (ln x4)) (cond (inb a2 (ln (ix x4 a1 zf).Guests)) (share (up x4 a1 ({ (ix x4 a1 zf) with Guests:=(up (ix x4 a1 zf).Guests a2 (zbS (ix (ix (zh a0).Mons a1 zf).Guests a2 zi) (ix (ix (zh a0).Mons a1 zf).Guests a2 zi).Ctl.Traps 5)) }:Mon)) (fun x5=>(some [(.agg (zA ({ (zh a0) with Mons:=x5 }:Host))),(.one (.b true))]))) none) none))) none) none) none) none) none) (cond (inb a1 (ln (zh a0).Mons)) (cond (inb a2 (ln (ix (zh a0).Mons a1 zf).Guests)) (share (up (zh a0).Mons a1 ({ (ix (zh a0).Mons a1 zf) with Guests:=(up (ix (zh a0).Mons a1 zf).Guests a2 (zbS (ix (ix (zh a0).Mons a1 zf).Guests a2 zi) (ix (ix (zh a0).Mons a1 zf).Guests a2 zi).Ctl.Traps 5)) }:Mon)) (fun x4=>(some [(.agg (zA ({ (zh a0) with Mons:=x4 }:Host))),(.one (.b true))]))) none) none)) none) (cond (inb a1 (ln (zh a0).Mons)) (cond (inb a2 (ln (ix (zh a0).Mons a1 zf).Guests)) (share (up (zh a0).Mons a1 ({ (ix (zh a0).Mons a1 zf) with Guests:=(up (ix (zh a0).Mons a1 zf).Guests a2 (zbS (ix (ix (zh a0).Mons a1 zf).Guests a2 zi) (ix (ix (zh a0).Mons a1 zf).Guests a2 zi).Ctl.Traps 5)) }:Mon)) (fun x4=>(some [(.agg (zA ({ (zh a0) with Mons:=x4 }:Host))),(.one (.b true))]))) none) none)) none)) none) (cond (zdJ (ix (ix (zh a0).Mons a1 zf).Guests a2 zi) (ix (ix (zh a0).Mons a1 zf).Guests a2 zi).Ctl.Traps 5) (cond (zc9 (ix (ix (zh a0).Mons a1 zf).Guests a2 zi) (ix (ix (zh a0).Mons a1 zf).Guests a2 zi).Ctl.Traps 5) (cond (inb a1 (ln (zh a0).Mons)) (cond (ilt (ln (ix (zh a0).Mons a1 zf).Outs) 40) (cond (inb a1 (ln (zh a0).Mons)) (cond (ze0 (ix (ix (zh a0).Mons a1 zf).Guests a2 zi).Prog (ix (ix (zh a0).Mons a1 zf).Guests a2 zi).Pc) (cond (few (ln (ap (ix (zh a0).Mons a1 zf).Outs [(zbN (ix (ix (zh a0).Mons a1 zf).Guests a2 zi).Prog (ix (ix (zh a0).Mons a1 zf).Guests a2 zi).Pc).X]))) (cond (inb a1 (ln (zh a0).Mons)) (cond (cond (ieq a1 a1) true false) (share (up (zh a0).Mons a1 ({ (ix (zh a0).Mons a1 zf) with Outs:=(ap (ix (zh a0).Mons a1 zf).Outs [(zbN (ix (ix (zh a0).Mons a1 zf).Guests a2 zi).Prog (ix (ix (zh a0).Mons a1 zf).Guests a2 zi).Pc).X]) }:Mon)) (fun x4=>(cond (inb a1 (ln x4)) (cond (inb a2 (ln (ix x4 a1 zf).Guests)) (share (up x4 a1 ({ (ix x4 a1 zf) with Guests:=(up (ix x4 a1 zf).Guests a2 (zbS (ix (ix (zh a0).Mons a1 zf).Guests a2 zi) (ix (ix (zh a0).Mons a1 zf).Guests a2 zi).Ctl.Traps 5)) }:Mon)) (fun x5=>(some [(.agg (zA ({ (zh a0) with Mons:=x5 }:Host))),(.one (.b true))]))) none) none))) none) none) none) none) none) (cond (inb a1 (ln (zh a0).Mons)) (cond (inb a2 (ln (ix (zh a0).Mons a1 zf).Guests)) (share (up (zh a0).Mons a1 ({ (ix (zh a0).Mons a1 zf) with Guests:=(up (ix (zh a0).Mons a1 zf).Guests a2 (zbS (ix (ix (zh a0).Mons a1 zf).Guests a2 zi) (ix (ix (zh a0).Mons a1 zf).Guests a2 zi).Ctl.Traps 5)) }:Mon)) (fun x4=>(some [(.agg (zA ({ (zh a0) with Mons:=x4 }:Host))),(.one (.b true))]))) none) none)) none) (cond (inb a1 (ln (zh a0).Mons)) (cond (inb a2 (ln (ix (zh a0).Mons a1 zf).Guests)) (share (up (zh a0).Mons a1 ({ (ix (zh a0).Mons a1 zf) with Guests:=(up (ix (zh a0).Mons a1 zf).Guests a2 (zbS (ix (ix (zh a0).Mons a1 zf).Guests a2 zi) (ix (ix (zh a0).Mons a1 zf).Guests a2 zi).Ctl.Traps 5)) }:Mon)) (fun x4=>(some [(.agg (zA ({ (zh a0) with Mons:=x4 }:Host))),(.one (.b true))]))) none) none)) none)) none) none) none) none) none)) none) none)
theorem zFU (N:Nat)(a0:Host)(a1 a2:Int):evalFn (cQ zU0 zV zhM zlp) (zB []) N 12 18 [.agg (zA a0),.one (.i .i64 a1),.one (.i .i64 a2)]=zlW N a0 a1 a2:=by kernel_rfl
@[reducible] def zAw (x:Guest):Bool:=bif zex x then ieq (zN x) 6 else false
def zm9:List AV->Option (Bool×List AV)
 | [.agg [.s .ins c,.i .i64 d,.i .i64 e,.s .slot f,.s .slot g,.i .i64 h,.i .i64 j,.b k,.i .i64 l,.i .i64 m,.i .i64 n,.b o,.i .i64 p,.b q,.s .int r]]=>some ((zAw (⟨c,d,e,f,g,⟨h,j,k⟩,l,⟨m,n,o,p⟩,q,r⟩:Guest)),[.one (.i .i64 6)])
 | _=>none
theorem zDq:Holds Tryz.prog 40 zm9:=by
 refine ⟨zcf.1,fun w avs xs rs hrep h=>?_⟩;unfold zm9 at h;split at h
 ·obtain ⟨hc,rfl⟩:=zl h;obtain ⟨h1,h2⟩:=zkd hc;exact zcf.2 w _ xs _ hrep (congr (congrArg (fun c v=>some (c,[AV.one (CV.i .i64 v)])) h1) (of_decide_eq_true h2))
 ·cases h
def zU1:zbQ:=[(40,zm9)]++zjL
theorem zWd:zbw zU1:=zn zDq zgs
@[simp,reducible] def zvz (h:Host)(m g:Int):Bool:=bif zeq h m g then ieq (zN (gOf h m g)) 6 else false
@[simp,reducible] def zvx (h:Host)(m g:Int):Host:=(zbE h m g).1
@[simp,reducible] def zvy (h:Host)(m g:Int):Bool:=(zbE h m g).2
def zrb:List AV->Option (Bool×List AV)
 | [.agg [.s (.sl .int) c,.s .mon d,.s .entry e,.s .entry f],.one (.i .i64 g),.one (.i .i64 h)]=>some ((zvz (⟨c,d,e,f⟩:Host) g h),[.agg (zA (zvx (⟨c,d,e,f⟩:Host) g h)),.one (.b (zvy (⟨c,d,e,f⟩:Host) g h))])
 | _=>none
def zlX (N:Nat)(a0:Host)(a1 a2:Int):Option Ans :=
 (cond (zer a0) (cond (zgk (zh a0) a1 a2) (cond (cond (zhQ (zh a0) a1 a2) false true) (some [(.agg (zA (zh a0))),(.one (.b false))]) (cond (inb a1 (ln (zh a0).Mons)) (cond (inb a2 (ln (ix (zh a0).Mons a1 zf).Guests)) (cond (zAw (ix (ix (zh a0).Mons a1 zf).Guests a2 zi)) (cond (zdJ (ix (ix (zh a0).Mons a1 zf).Guests a2 zi) (ix (ix (zh a0).Mons a1 zf).Guests a2 zi).Ctl.Traps 6) (cond (zc9 (ix (ix (zh a0).Mons a1 zf).Guests a2 zi) (ix (ix (zh a0).Mons a1 zf).Guests a2 zi).Ctl.Traps 6) (cond (inb a1 (ln (zh a0).Mons)) (cond (inb a2 (ln (ix (zh a0).Mons a1 zf).Guests)) (share (up (zh a0).Mons a1 ({ (ix (zh a0).Mons a1 zf) with Guests:=(up (ix (zh a0).Mons a1 zf).Guests a2 (zbS (ix (ix (zh a0).Mons a1 zf).Guests a2 zi) (ix (ix (zh a0).Mons a1 zf).Guests a2 zi).Ctl.Traps 6)) }:Mon)) (fun x4=>(some [(.agg (zA ({ (zh a0) with Mons:=x4 }:Host))),(.one (.b true))]))) none) none) (cond (inb a1 (ln (zh a0).Mons)) (cond (inb a2 (ln (ix (zh a0).Mons a1 zf).Guests)) (share (up (zh a0).Mons a1 ({ (ix (zh a0).Mons a1 zf) with Guests:=(up (ix (zh a0).Mons a1 zf).Guests a2 (zbS (ix (ix (zh a0).Mons a1 zf).Guests a2 zi) (ix (ix (zh a0).Mons a1 zf).Guests a2 zi).Ctl.Traps 6)) }:Mon)) (fun x4=>(some [(.agg (zA ({ (zh a0) with Mons:=x4 }:Host))),(.one (.b true))]))) none) none)) none) none) none) none)) none) none)
theorem zFV (N:Nat)(a0:Host)(a1 a2:Int):evalFn (cQ zU1 zV zhM zlp) (zB []) N 12 18 [.agg (zA a0),.one (.i .i64 a1),.one (.i .i64 a2)]=zlX N a0 a1 a2:=by kernel_rfl
@[reducible] def zAx (x:Guest):Bool:=bif zex x then ieq (zN x) 7 else false
def zna:List AV->Option (Bool×List AV)
 | [.agg [.s .ins c,.i .i64 d,.i .i64 e,.s .slot f,.s .slot g,.i .i64 h,.i .i64 j,.b k,.i .i64 l,.i .i64 m,.i .i64 n,.b o,.i .i64 p,.b q,.s .int r]]=>some ((zAx (⟨c,d,e,f,g,⟨h,j,k⟩,l,⟨m,n,o,p⟩,q,r⟩:Guest)),[.one (.i .i64 7)])
 | _=>none
theorem zDr:Holds Tryz.prog 40 zna:=by
 refine ⟨zcf.1,fun w avs xs rs hrep h=>?_⟩;unfold zna at h;split at h
 ·obtain ⟨hc,rfl⟩:=zl h;obtain ⟨h1,h2⟩:=zkd hc;exact zcf.2 w _ xs _ hrep (congr (congrArg (fun c v=>some (c,[AV.one (CV.i .i64 v)])) h1) (of_decide_eq_true h2))
 ·cases h
def zU2:zbQ:=[(40,zna)]++zjL
theorem zWe:zbw zU2:=zn zDr zgs
@[simp,reducible] def zvC (h:Host)(m g:Int):Bool:=bif zeq h m g then ieq (zN (gOf h m g)) 7 else false
@[simp,reducible] def zvA (h:Host)(m g:Int):Host:=(zbE h m g).1
@[simp,reducible] def zvB (h:Host)(m g:Int):Bool:=(zbE h m g).2
def zrd:List AV->Option (Bool×List AV)
 | [.agg [.s (.sl .int) c,.s .mon d,.s .entry e,.s .entry f],.one (.i .i64 g),.one (.i .i64 h)]=>some ((zvC (⟨c,d,e,f⟩:Host) g h),[.agg (zA (zvA (⟨c,d,e,f⟩:Host) g h)),.one (.b (zvB (⟨c,d,e,f⟩:Host) g h))])
 | _=>none
def zlY (N:Nat)(a0:Host)(a1 a2:Int):Option Ans :=
 (cond (zer a0) (cond (zgk (zh a0) a1 a2) (cond (cond (zhQ (zh a0) a1 a2) false true) (some [(.agg (zA (zh a0))),(.one (.b false))]) (cond (inb a1 (ln (zh a0).Mons)) (cond (inb a2 (ln (ix (zh a0).Mons a1 zf).Guests)) (cond (zAx (ix (ix (zh a0).Mons a1 zf).Guests a2 zi)) (cond (inb a1 (ln (zh a0).Mons)) (cond (zo6 (ix (zh a0).Mons a1 zf).Traps (ix (ix (zh a0).Mons a1 zf).Guests a2 zi).Ctl.Traps 2) (cond (ieq (zlI (ix (zh a0).Mons a1 zf).Traps (ix (ix (zh a0).Mons a1 zf).Guests a2 zi).Ctl.Traps 2) 2) (cond (inb a1 (ln (zh a0).Mons)) (cond (ilt (ix (zh a0).Mons a1 zf).Own 1000000000) (cond (inb a1 (ln (zh a0).Mons)) (cond (inb a1 (ln (zh a0).Mons)) (share (up (zh a0).Mons a1 ({ (ix (zh a0).Mons a1 zf) with Own:=(zq .i64 (ix (zh a0).Mons a1 zf).Own 1) }:Mon)) (fun x4=>(cond (zdJ ({ (ix (ix (zh a0).Mons a1 zf).Guests a2 zi) with Prog:=(ix (ix x4 a1 zf).Guests a2 zi).Prog,Written:=(ix (ix x4 a1 zf).Guests a2 zi).Written,Live:=(ix (ix x4 a1 zf).Guests a2 zi).Live,Seen:=(ix (ix x4 a1 zf).Guests a2 zi).Seen }:Guest) (ix (ix (zh a0).Mons a1 zf).Guests a2 zi).Ctl.Traps 7) (cond (zc9 ({ (ix (ix (zh a0).Mons a1 zf).Guests a2 zi) with Prog:=(ix (ix x4 a1 zf).Guests a2 zi).Prog,Written:=(ix (ix x4 a1 zf).Guests a2 zi).Written,Live:=(ix (ix x4 a1 zf).Guests a2 zi).Live,Seen:=(ix (ix x4 a1 zf).Guests a2 zi).Seen }:Guest) (ix (ix (zh a0).Mons a1 zf).Guests a2 zi).Ctl.Traps 7) (cond (inb a1 (ln x4)) (cond (inb a2 (ln (ix x4 a1 zf).Guests)) (share (up x4 a1 ({ (ix x4 a1 zf) with Guests:=(up (ix x4 a1 zf).Guests a2 (zbS ({ (ix (ix (zh a0).Mons a1 zf).Guests a2 zi) with Prog:=(ix (ix x4 a1 zf).Guests a2 zi).Prog,Written:=(ix (ix x4 a1 zf).Guests a2 zi).Written,Live:=(ix (ix x4 a1 zf).Guests a2 zi).Live,Seen:=(ix (ix x4 a1 zf).Guests a2 zi).Seen }:Guest) (ix (ix (zh a0).Mons a1 zf).Guests a2 zi).Ctl.Traps 7)) }:Mon)) (fun x5=>(some [(.agg (zA ({ (zh a0) with Mons:=x5 }:Host))),(.one (.b true))]))) none) none) (cond (inb a1 (ln x4)) (cond (inb a2 (ln (ix x4 a1 zf).Guests)) (share (up x4 a1 ({ (ix x4 a1 zf) with Guests:=(up (ix x4 a1 zf).Guests a2 (zbS ({ (ix (ix (zh a0).Mons a1 zf).Guests a2 zi) with Prog:=(ix (ix x4 a1 zf).Guests a2 zi).Prog,Written:=(ix (ix x4 a1 zf).Guests a2 zi).Written,Live:=(ix (ix x4 a1 zf).Guests a2 zi).Live,Seen:=(ix (ix x4 a1 zf).Guests a2 zi).Seen }:Guest) (ix (ix (zh a0).Mons a1 zf).Guests a2 zi).Ctl.Traps 7)) }:Mon)) (fun x5=>(some [(.agg (zA ({ (zh a0) with Mons:=x5 }:Host))),(.one (.b true))]))) none) none)) none))) none) none) (cond (zdJ (ix (ix (zh a0).Mons a1 zf).Guests a2 zi) (ix (ix (zh a0).Mons a1 zf).Guests a2 zi).Ctl.Traps 7) (cond (zc9 (ix (ix (zh a0).Mons a1 zf).Guests a2 zi) (ix (ix (zh a0).Mons a1 zf).Guests a2 zi).Ctl.Traps 7) (cond (inb a1 (ln (zh a0).Mons)) (cond (inb a2 (ln (ix (zh a0).Mons a1 zf).Guests)) (share (up (zh a0).Mons a1 ({ (ix (zh a0).Mons a1 zf) with Guests:=(up (ix (zh a0).Mons a1 zf).Guests a2 (zbS (ix (ix (zh a0).Mons a1 zf).Guests a2 zi) (ix (ix (zh a0).Mons a1 zf).Guests a2 zi).Ctl.Traps 7)) }:Mon)) (fun x4=>(some [(.agg (zA ({ (zh a0) with Mons:=x4 }:Host))),(.one (.b true))]))) none) none) (cond (inb a1 (ln (zh a0).Mons)) (cond (inb a2 (ln (ix (zh a0).Mons a1 zf).Guests)) (share (up (zh a0).Mons a1 ({ (ix (zh a0).Mons a1 zf) with Guests:=(up (ix (zh a0).Mons a1 zf).Guests a2 (zbS (ix (ix (zh a0).Mons a1 zf).Guests a2 zi) (ix (ix (zh a0).Mons a1 zf).Guests a2 zi).Ctl.Traps 7)) }:Mon)) (fun x4=>(some [(.agg (zA ({ (zh a0) with Mons:=x4 }:Host))),(.one (.b true))]))) none) none)) none)) none) (cond (zdJ (ix (ix (zh a0).Mons a1 zf).Guests a2 zi) (ix (ix (zh a0).Mons a1 zf).Guests a2 zi).Ctl.Traps 7) (cond (zc9 (ix (ix (zh a0).Mons a1 zf).Guests a2 zi) (ix (ix (zh a0).Mons a1 zf).Guests a2 zi).Ctl.Traps 7) (cond (inb a1 (ln (zh a0).Mons)) (cond (inb a2 (ln (ix (zh a0).Mons a1 zf).Guests)) (share (up (zh a0).Mons a1 ({ (ix (zh a0).Mons a1 zf) with Guests:=(up (ix (zh a0).Mons a1 zf).Guests a2 (zbS (ix (ix (zh a0).Mons a1 zf).Guests a2 zi) (ix (ix (zh a0).Mons a1 zf).Guests a2 zi).Ctl.Traps 7)) }:Mon)) (fun x4=>(some [(.agg (zA ({ (zh a0) with Mons:=x4 }:Host))),(.one (.b true))]))) none) none) (cond (inb a1 (ln (zh a0).Mons)) (cond (inb a2 (ln (ix (zh a0).Mons a1 zf).Guests)) (share (up (zh a0).Mons a1 ({ (ix (zh a0).Mons a1 zf) with Guests:=(up (ix (zh a0).Mons a1 zf).Guests a2 (zbS (ix (ix (zh a0).Mons a1 zf).Guests a2 zi) (ix (ix (zh a0).Mons a1 zf).Guests a2 zi).Ctl.Traps 7)) }:Mon)) (fun x4=>(some [(.agg (zA ({ (zh a0) with Mons:=x4 }:Host))),(.one (.b true))]))) none) none)) none)) none) none) none) none) none)) none) none)
theorem zFW (N:Nat)(a0:Host)(a1 a2:Int):evalFn (cQ zU2 zV zhM zlp) (zB []) N 12 18 [.agg (zA a0),.one (.i .i64 a1),.one (.i .i64 a2)]=zlY N a0 a1 a2:=by kernel_rfl
theorem zDx (a0:Host)(a1 a2:Int)(hb:zG big [.agg (zA a0),.one (.i .i64 a1),.one (.i .i64 a2)])(hc:(zvh a0 a1 a2)=true):∃N,zlR N a0 a1 a2=some [.agg (zA (zvf a0 a1 a2)),.one (.b (zvg a0 a1 a2))]:=by
 obtain ⟨hc,hw⟩:=zkd hc;have hs:=(zbo a0).1 (zJ.1 hc);refine ⟨0,?_⟩
 show _=some (zdN (zbE a0 a1 a2))
 unfold zlR;refine must (zbt ((zbo _).2 hs)) (must (zbt ((zbo _).2 hs)) (brN (fun hh=>?_) (fun hh=>?_)))
 ·rw [zgp hh];rfl
 obtain ⟨g1,g2,g3⟩:=zcJ hh;have hx:=ziu hs g2 g3;have hk:zN (gOf a0 a1 a2)=0:=of_decide_eq_true hw;rw [zhq hh,hk];refine must (zF g2) (must (zF g3) (must (zhv rfl hw) ?_));rfl
theorem znq:Holds Tryz.prog 18 zq5:=zo zV7 zD zem zfK (zC (by kernel_rfl)) fun avs rs hb h=>by
 unfold zq5 at h;split at h
 ·obtain ⟨hc,rfl⟩:=zl h;exact (zd3 zDx zFP hc hb :)
 ·cases h
theorem zDy (a0:Host)(a1 a2:Int)(hb:zG big [.agg (zA a0),.one (.i .i64 a1),.one (.i .i64 a2)])(hc:(zvk a0 a1 a2)=true):∃N,zlS N a0 a1 a2=some [.agg (zA (zvi a0 a1 a2)),.one (.b (zvj a0 a1 a2))]:=by
 obtain ⟨hc,hw⟩:=zkd hc;have hs:=(zbo a0).1 (zJ.1 hc);refine ⟨0,?_⟩
 show _=some (zdN (zbE a0 a1 a2))
 unfold zlS;refine must (zbt ((zbo _).2 hs)) (must (zbt ((zbo _).2 hs)) (brN (fun hh=>?_) (fun hh=>?_)))
 ·rw [zgp hh];rfl
 obtain ⟨g1,g2,g3⟩:=zcJ hh;have hx:=ziu hs g2 g3;have hk:zN (gOf a0 a1 a2)=1:=of_decide_eq_true hw;rw [zhq hh,hk];refine must (zF g2) (must (zF g3) (must (zhv rfl hw) ?_))
 show _=some (zdN (zfF a0 a1 a2 (interrupted (gOf a0 a1 a2)),true))
 exact must (zF g2) (must (zbt hx) (must (zF g3) rfl))
theorem zAE:Holds Tryz.prog 18 zq6:=zo zV8 zD zem zfK (zC (by kernel_rfl)) fun avs rs hb h=>by
 unfold zq6 at h;split at h
 ·obtain ⟨hc,rfl⟩:=zl h;exact (zd3 zDy zFQ hc hb :)
 ·cases h
theorem zDz (a0:Host)(a1 a2:Int)(hb:zG big [.agg (zA a0),.one (.i .i64 a1),.one (.i .i64 a2)])(hc:(zvn a0 a1 a2)=true):∃N,zlT N a0 a1 a2=some [.agg (zA (zvl a0 a1 a2)),.one (.b (zvm a0 a1 a2))]:=by
 obtain ⟨hc,hw⟩:=zkd hc;have hs:=(zbo a0).1 (zJ.1 hc);refine ⟨0,?_⟩
 show _=some (zdN (zbE a0 a1 a2))
 unfold zlT;refine must (zbt ((zbo _).2 hs)) (must (zbt ((zbo _).2 hs)) (brN (fun hh=>?_) (fun hh=>?_)))
 ·rw [zgp hh];rfl
 obtain ⟨g1,g2,g3⟩:=zcJ hh;have hx:=ziu hs g2 g3;have hk:zN (gOf a0 a1 a2)=2:=of_decide_eq_true hw;rw [zhq hh,hk];refine must (zF g2) (must (zF g3) (must (zhv rfl hw) ?_))
 show _=some (zdN (zfF a0 a1 a2 (plainly (gOf a0 a1 a2)),true))
 exact must (zF g2) (must (zbt hx) (must (zF g3) rfl))
theorem zAF:Holds Tryz.prog 18 zq7:=zo zV9 zD zem zfK (zC (by kernel_rfl)) fun avs rs hb h=>by
 unfold zq7 at h;split at h
 ·obtain ⟨hc,rfl⟩:=zl h;exact (zd3 zDz zFR hc hb :)
 ·cases h
theorem zDA (a0:Host)(a1 a2:Int)(hb:zG big [.agg (zA a0),.one (.i .i64 a1),.one (.i .i64 a2)])(hc:(zvq a0 a1 a2)=true):∃N,zlU N a0 a1 a2=some [.agg (zA (zvo a0 a1 a2)),.one (.b (zvp a0 a1 a2))]:=by
 obtain ⟨hc,hw⟩:=zkd hc;have hs:=(zbo a0).1 (zJ.1 hc);refine ⟨0,?_⟩
 show _=some (zdN (zbE a0 a1 a2))
 unfold zlU;refine must (zbt ((zbo _).2 hs)) (must (zbt ((zbo _).2 hs)) (brN (fun hh=>?_) (fun hh=>?_)))
 ·rw [zgp hh];rfl
 obtain ⟨g1,g2,g3⟩:=zcJ hh;have hx:=ziu hs g2 g3;have hk:zN (gOf a0 a1 a2)=3:=of_decide_eq_true hw;rw [zhq hh,hk];refine must (zF g2) (must (zF g3) (must (zhv rfl hw) ?_))
 show _=some (zdN (zht (zhy a0 a1 a2 (gOf a0 a1 a2) false) a1 a2 (gOf a0 a1 a2) false,true))
 have k:=zCA (b:=a0.Buffer) (page:=zdw (address (gOf a0 a1 a2))) (need:=zeP false) (io:=false) hs hh;have F:=zj2 k g2 g3;have e3:(ix (ix (zT (zh a0) (zh a0).Buffer a1 a2 (zM (zL (ix (ix (zh a0).Mons a1 zf).Guests a2 zi))) (zba false) false).Mons a1 zf).Guests a2 zi)=(ix (ix (zh a0).Mons a1 zf).Guests a2 zi):=congrArg (fun l=>ix l a2 gZ) (zGE k.gs a1);rw [e3];unfold zht;refine must rfl (must rfl (must rfl (must (zbt ((zbo _).2 hs)) (brN (fun h=>?_) (fun h=>?_)))))
 ·rw [show (zhy a0 a1 a2 (gOf a0 a1 a2) false).2.2=false from h]
  exact must (zF F.hm) (must rfl (must rfl (must (zbt hx) (must (zF F.hg) rfl))))
 ·rw [show (zhy a0 a1 a2 (gOf a0 a1 a2) false).2.2=true from h]
  exact must (zF F.hm) (must rfl (must rfl (must (zbt hx) (must (zF F.hg) rfl))))
theorem zAG:Holds Tryz.prog 18 zq8:=zo zWa zD zem zfK (zC (by kernel_rfl)) fun avs rs hb h=>by
 unfold zq8 at h;split at h
 ·obtain ⟨hc,rfl⟩:=zl h;exact (zd3 zDA zFS hc hb :)
 ·cases h
theorem zDB (a0:Host)(a1 a2:Int)(hb:zG big [.agg (zA a0),.one (.i .i64 a1),.one (.i .i64 a2)])(hc:(zvt a0 a1 a2)=true):∃N,zlV N a0 a1 a2=some [.agg (zA (zvr a0 a1 a2)),.one (.b (zvs a0 a1 a2))]:=by
 obtain ⟨hc,hw⟩:=zkd hc;have hs:=(zbo a0).1 (zJ.1 hc);refine ⟨0,?_⟩
 show _=some (zdN (zbE a0 a1 a2))
 unfold zlV;refine must (zbt ((zbo _).2 hs)) (must (zbt ((zbo _).2 hs)) (brN (fun hh=>?_) (fun hh=>?_)))
 ·rw [zgp hh];rfl
 obtain ⟨g1,g2,g3⟩:=zcJ hh;have hx:=ziu hs g2 g3;have hk:zN (gOf a0 a1 a2)=4:=of_decide_eq_true hw;rw [zhq hh,hk];refine must (zF g2) (must (zF g3) (must (zhv rfl hw) ?_))
 show _=some (zdN (zht (zhy a0 a1 a2 (gOf a0 a1 a2) true) a1 a2 (gOf a0 a1 a2) true,true))
 have k:=zCA (b:=a0.Buffer) (page:=zdw (address (gOf a0 a1 a2))) (need:=zeP true) (io:=false) hs hh;have F:=zj2 k g2 g3;have e3:(ix (ix (zT (zh a0) (zh a0).Buffer a1 a2 (zM (zL (ix (ix (zh a0).Mons a1 zf).Guests a2 zi))) (zba true) false).Mons a1 zf).Guests a2 zi)=(ix (ix (zh a0).Mons a1 zf).Guests a2 zi):=congrArg (fun l=>ix l a2 gZ) (zGE k.gs a1);rw [e3];unfold zht;refine must rfl (must rfl (must rfl (must (zbt ((zbo _).2 hs)) (brN (fun h=>?_) (fun h=>?_)))))
 ·rw [show (zhy a0 a1 a2 (gOf a0 a1 a2) true).2.2=false from h]
  exact must (zF F.hm) (must rfl (must rfl (must (zbt hx) (must (zF F.hg) rfl))))
 ·rw [show (zhy a0 a1 a2 (gOf a0 a1 a2) true).2.2=true from h]
  exact must rfl (must (zbt k.shape.1.1) (must (zF F.hm) (must (zbt hx) (must (zF F.hg) rfl))))
theorem zAH:Holds Tryz.prog 18 zq9:=zo zWb zD zem zfK (zC (by kernel_rfl)) fun avs rs hb h=>by
 unfold zq9 at h;split at h
 ·obtain ⟨hc,rfl⟩:=zl h;exact (zd3 zDB zFT hc hb :)
 ·cases h
theorem z0m {a0:Host}{a1 a2:Int}(hx:SmG (gOf a0 a1 a2))(g2:hasB a1 (ln a0.Mons)=true)(g3:hasB a2 (ln (ix a0.Mons a1 mZ).Guests)=true) :
 (cond (zdJ (ix (ix (zh a0).Mons a1 zf).Guests a2 zi) (ix (ix (zh a0).Mons a1 zf).Guests a2 zi).Ctl.Traps 5) (cond (zc9 (ix (ix (zh a0).Mons a1 zf).Guests a2 zi) (ix (ix (zh a0).Mons a1 zf).Guests a2 zi).Ctl.Traps 5) (cond (inb a1 (ln (zh a0).Mons)) (cond (ilt (ln (ix (zh a0).Mons a1 zf).Outs) 40) (cond (inb a1 (ln (zh a0).Mons)) (cond (ze0 (ix (ix (zh a0).Mons a1 zf).Guests a2 zi).Prog (ix (ix (zh a0).Mons a1 zf).Guests a2 zi).Pc) (cond (few (ln (ap (ix (zh a0).Mons a1 zf).Outs [(zbN (ix (ix (zh a0).Mons a1 zf).Guests a2 zi).Prog (ix (ix (zh a0).Mons a1 zf).Guests a2 zi).Pc).X]))) (cond (inb a1 (ln (zh a0).Mons)) (cond (cond (ieq a1 a1) true false) (share (up (zh a0).Mons a1 ({ (ix (zh a0).Mons a1 zf) with Outs:=(ap (ix (zh a0).Mons a1 zf).Outs [(zbN (ix (ix (zh a0).Mons a1 zf).Guests a2 zi).Prog (ix (ix (zh a0).Mons a1 zf).Guests a2 zi).Pc).X]) }:Mon)) (fun x4=>(cond (inb a1 (ln x4)) (cond (inb a2 (ln (ix x4 a1 zf).Guests)) (share (up x4 a1 ({ (ix x4 a1 zf) with Guests:=(up (ix x4 a1 zf).Guests a2 (zbS (ix (ix (zh a0).Mons a1 zf).Guests a2 zi) (ix (ix (zh a0).Mons a1 zf).Guests a2 zi).Ctl.Traps 5)) }:Mon)) (fun x5=>(some [(.agg (zA ({ (zh a0) with Mons:=x5 }:Host))),(.one (.b true))]))) none) none))) none) none) none) none) none) (cond (inb a1 (ln (zh a0).Mons)) (cond (inb a2 (ln (ix (zh a0).Mons a1 zf).Guests)) (share (up (zh a0).Mons a1 ({ (ix (zh a0).Mons a1 zf) with Guests:=(up (ix (zh a0).Mons a1 zf).Guests a2 (zbS (ix (ix (zh a0).Mons a1 zf).Guests a2 zi) (ix (ix (zh a0).Mons a1 zf).Guests a2 zi).Ctl.Traps 5)) }:Mon)) (fun x4=>(some [(.agg (zA ({ (zh a0) with Mons:=x4 }:Host))),(.one (.b true))]))) none) none)) none) (cond (inb a1 (ln (zh a0).Mons)) (cond (inb a2 (ln (ix (zh a0).Mons a1 zf).Guests)) (share (up (zh a0).Mons a1 ({ (ix (zh a0).Mons a1 zf) with Guests:=(up (ix (zh a0).Mons a1 zf).Guests a2 (zbS (ix (ix (zh a0).Mons a1 zf).Guests a2 zi) (ix (ix (zh a0).Mons a1 zf).Guests a2 zi).Ctl.Traps 5)) }:Mon)) (fun x4=>(some [(.agg (zA ({ (zh a0) with Mons:=x4 }:Host))),(.one (.b true))]))) none) none)) none)=some (zdN (zfF (zie a0 a1 (gOf a0 a1 a2) 5) a1 a2 (zfq (gOf a0 a1 a2) (gOf a0 a1 a2).Ctl.Traps 5),true)):=by
 refine must (zbt hx) (br (fun h1=>must (zF g2) (br (fun h3=>?_) (fun h3=>?_))) (fun h1=>?_))
 ·rw [zSb (h:=a0) (m:=a1) (x:=gOf a0 a1 a2) (w:=5) h1 rfl h3];refine must (zF g2) (must rfl (must (zOP h3) (must (zF g2) (must (zHx _) (shr (must (zF (zeb g2)) (must ?_ rfl)))))));rw [zmA g2];exact zF g3
 ·rw [zMk (h:=a0) (m:=a1) (x:=gOf a0 a1 a2) (w:=5) h3];exact must (zF g2) (must (zF g3) rfl)
 ·rw [zIE (h:=a0) (m:=a1) (x:=gOf a0 a1 a2) (w:=5) h1];exact must (zF g2) (must (zF g3) rfl)
theorem z2p {a0:Host}{x4:List Mon}{a1 a2:Int}(hx:SmG (gOf a0 a1 a2))(g2:hasB a1 (ln x4)=true)(g3:hasB a2 (ln (ix x4 a1 mZ).Guests)=true)(e:(ix (ix x4 a1 zf).Guests a2 zi)=gOf a0 a1 a2) :
 (cond (zdJ ({ (ix (ix (zh a0).Mons a1 zf).Guests a2 zi) with Prog:=(ix (ix x4 a1 zf).Guests a2 zi).Prog,Written:=(ix (ix x4 a1 zf).Guests a2 zi).Written,Live:=(ix (ix x4 a1 zf).Guests a2 zi).Live,Seen:=(ix (ix x4 a1 zf).Guests a2 zi).Seen }:Guest) (ix (ix (zh a0).Mons a1 zf).Guests a2 zi).Ctl.Traps 5) (cond (zc9 ({ (ix (ix (zh a0).Mons a1 zf).Guests a2 zi) with Prog:=(ix (ix x4 a1 zf).Guests a2 zi).Prog,Written:=(ix (ix x4 a1 zf).Guests a2 zi).Written,Live:=(ix (ix x4 a1 zf).Guests a2 zi).Live,Seen:=(ix (ix x4 a1 zf).Guests a2 zi).Seen }:Guest) (ix (ix (zh a0).Mons a1 zf).Guests a2 zi).Ctl.Traps 5) (cond (inb a1 (ln x4)) (cond (ilt (ln (ix x4 a1 zf).Outs) 40) (cond (inb a1 (ln x4)) (cond (ze0 (ix (ix x4 a1 zf).Guests a2 zi).Prog (ix (ix (zh a0).Mons a1 zf).Guests a2 zi).Pc) (cond (few (ln (ap (ix x4 a1 zf).Outs [(zbN (ix (ix x4 a1 zf).Guests a2 zi).Prog (ix (ix (zh a0).Mons a1 zf).Guests a2 zi).Pc).X]))) (cond (inb a1 (ln x4)) (cond (cond (ieq a1 a1) true false) (share (up x4 a1 ({ (ix x4 a1 zf) with Outs:=(ap (ix x4 a1 zf).Outs [(zbN (ix (ix x4 a1 zf).Guests a2 zi).Prog (ix (ix (zh a0).Mons a1 zf).Guests a2 zi).Pc).X]) }:Mon)) (fun x5=>(cond (inb a1 (ln x5)) (cond (inb a2 (ln (ix x5 a1 zf).Guests)) (share (up x5 a1 ({ (ix x5 a1 zf) with Guests:=(up (ix x5 a1 zf).Guests a2 (zbS ({ (ix (ix (zh a0).Mons a1 zf).Guests a2 zi) with Prog:=(ix (ix x4 a1 zf).Guests a2 zi).Prog,Written:=(ix (ix x4 a1 zf).Guests a2 zi).Written,Live:=(ix (ix x4 a1 zf).Guests a2 zi).Live,Seen:=(ix (ix x4 a1 zf).Guests a2 zi).Seen }:Guest) (ix (ix (zh a0).Mons a1 zf).Guests a2 zi).Ctl.Traps 5)) }:Mon)) (fun x6=>(some [(.agg (zA ({ (zh a0) with Mons:=x6 }:Host))),(.one (.b true))]))) none) none))) none) none) none) none) none) (cond (inb a1 (ln x4)) (cond (inb a2 (ln (ix x4 a1 zf).Guests)) (share (up x4 a1 ({ (ix x4 a1 zf) with Guests:=(up (ix x4 a1 zf).Guests a2 (zbS ({ (ix (ix (zh a0).Mons a1 zf).Guests a2 zi) with Prog:=(ix (ix x4 a1 zf).Guests a2 zi).Prog,Written:=(ix (ix x4 a1 zf).Guests a2 zi).Written,Live:=(ix (ix x4 a1 zf).Guests a2 zi).Live,Seen:=(ix (ix x4 a1 zf).Guests a2 zi).Seen }:Guest) (ix (ix (zh a0).Mons a1 zf).Guests a2 zi).Ctl.Traps 5)) }:Mon)) (fun x5=>(some [(.agg (zA ({ (zh a0) with Mons:=x5 }:Host))),(.one (.b true))]))) none) none)) none) (cond (inb a1 (ln x4)) (cond (inb a2 (ln (ix x4 a1 zf).Guests)) (share (up x4 a1 ({ (ix x4 a1 zf) with Guests:=(up (ix x4 a1 zf).Guests a2 (zbS ({ (ix (ix (zh a0).Mons a1 zf).Guests a2 zi) with Prog:=(ix (ix x4 a1 zf).Guests a2 zi).Prog,Written:=(ix (ix x4 a1 zf).Guests a2 zi).Written,Live:=(ix (ix x4 a1 zf).Guests a2 zi).Live,Seen:=(ix (ix x4 a1 zf).Guests a2 zi).Seen }:Guest) (ix (ix (zh a0).Mons a1 zf).Guests a2 zi).Ctl.Traps 5)) }:Mon)) (fun x5=>(some [(.agg (zA ({ (zh a0) with Mons:=x5 }:Host))),(.one (.b true))]))) none) none)) none)=some (zdN (zfF (zie { a0 with Mons:=x4 } a1 (gOf a0 a1 a2) 5) a1 a2 (zfq (gOf a0 a1 a2) (gOf a0 a1 a2).Ctl.Traps 5),true)):=by
 rw [e];refine must (zbt hx) (br (fun h1=>must (zF g2) (br (fun h3=>?_) (fun h3=>?_))) (fun h1=>?_))
 ·rw [zSb (h:={ a0 with Mons:=x4 }) (m:=a1) (x:=gOf a0 a1 a2) (w:=5) h1 rfl h3];refine must (zF g2) (must rfl (must (zOP h3) (must (zF g2) (must (zHx _) (shr (must (zF (zeb (h:={ a0 with Mons:=x4 }) g2)) (must ?_ rfl)))))));rw [zmA (h:={ a0 with Mons:=x4 }) g2];exact zF g3
 ·rw [zMk (h:={ a0 with Mons:=x4 }) (m:=a1) (x:=gOf a0 a1 a2) (w:=5) h3];exact must (zF g2) (must (zF g3) rfl)
 ·rw [zIE (h:={ a0 with Mons:=x4 }) (m:=a1) (x:=gOf a0 a1 a2) (w:=5) h1];exact must (zF g2) (must (zF g3) rfl)
theorem zDC (a0:Host)(a1 a2:Int)(hb:zG big [.agg (zA a0),.one (.i .i64 a1),.one (.i .i64 a2)])(hc:(zvw a0 a1 a2)=true):∃N,zlW N a0 a1 a2=some [.agg (zA (zvu a0 a1 a2)),.one (.b (zvv a0 a1 a2))]:=by
 obtain ⟨hc,hw⟩:=zkd hc;have hs:=(zbo a0).1 (zJ.1 hc);refine ⟨0,?_⟩
 show _=some (zdN (zbE a0 a1 a2))
 unfold zlW;refine must (zbt ((zbo _).2 hs)) (must (zbt ((zbo _).2 hs)) (brN (fun hh=>?_) (fun hh=>?_)))
 ·rw [zgp hh];rfl
 obtain ⟨g1,g2,g3⟩:=zcJ hh;have hx:=ziu hs g2 g3;have hk:zN (gOf a0 a1 a2)=5:=of_decide_eq_true hw;rw [zhq hh,hk];refine must (zF g2) (must (zF g3) (must (zhv rfl hw) ?_))
 show _=some (zdN (zi4 a0 a1 a2 (gOf a0 a1 a2) 5,true))
 refine must (zF g2) (must rfl (br (fun h0=>must (zF g2) (br (fun h9=>must (zF g2) (must (zF g2) (shr ?_))) (fun h9=>?_))) (fun h0=>?_)))
 ·rw [zlq (zVC (h:=a0) (m:=a1) (x:=gOf a0 a1 a2) (w:=5) rfl h0 h9)];have eM:=zmA g2 { ix a0.Mons a1 mZ with Own:=zq .i64 (ix a0.Mons a1 mZ).Own 1 };refine z2p hx (zeb g2) ?_ ?_
  ·show hasB a2 (ln (ix (up a0.Mons a1 _) a1 mZ).Guests)=true
   rw [eM];exact g3
  ·show ix (ix (up a0.Mons a1 _) a1 mZ).Guests a2 gZ=_
   rw [eM];rfl
 ·rw [zlq (zVB (h:=a0) (m:=a1) (x:=gOf a0 a1 a2) (w:=5) h9)];exact z0m hx g2 g3
 ·rw [zlq (zVA (h:=a0) (m:=a1) (x:=gOf a0 a1 a2) (w:=5) h0)];exact z0m hx g2 g3
theorem zAI:Holds Tryz.prog 18 zra:=zo zWc zD zem zfK (zC (by kernel_rfl)) fun avs rs hb h=>by
 unfold zra at h;split at h
 ·obtain ⟨hc,rfl⟩:=zl h;exact (zd3 zDC zFU hc hb :)
 ·cases h
theorem zDD (a0:Host)(a1 a2:Int)(hb:zG big [.agg (zA a0),.one (.i .i64 a1),.one (.i .i64 a2)])(hc:(zvz a0 a1 a2)=true):∃N,zlX N a0 a1 a2=some [.agg (zA (zvx a0 a1 a2)),.one (.b (zvy a0 a1 a2))]:=by
 obtain ⟨hc,hw⟩:=zkd hc;have hs:=(zbo a0).1 (zJ.1 hc);refine ⟨0,?_⟩
 show _=some (zdN (zbE a0 a1 a2))
 unfold zlX;refine must (zbt ((zbo _).2 hs)) (must (zbt ((zbo _).2 hs)) (brN (fun hh=>?_) (fun hh=>?_)))
 ·rw [zgp hh];rfl
 obtain ⟨g1,g2,g3⟩:=zcJ hh;have hx:=ziu hs g2 g3;have hk:zN (gOf a0 a1 a2)=6:=of_decide_eq_true hw;rw [zhq hh,hk];refine must (zF g2) (must (zF g3) (must (zhv rfl hw) ?_))
 show _=some (zdN (zi4 a0 a1 a2 (gOf a0 a1 a2) 6,true))
 rw [zlq (z1p (h:=a0) (m:=a1) (x:=gOf a0 a1 a2)),zB9 (w:=6) rfl];exact must (zbt hx) (br (fun h1=>must (zF g2) (must (zF g3) rfl)) (fun h1=>must (zF g2) (must (zF g3) rfl)))
theorem zAJ:Holds Tryz.prog 18 zrb:=zo zWd zD zem zfK (zC (by kernel_rfl)) fun avs rs hb h=>by
 unfold zrb at h;split at h
 ·obtain ⟨hc,rfl⟩:=zl h;exact (zd3 zDD zFV hc hb :)
 ·cases h
theorem z0n {a0:Host}{a1 a2:Int}(hx:SmG (gOf a0 a1 a2))(g2:hasB a1 (ln a0.Mons)=true)(g3:hasB a2 (ln (ix a0.Mons a1 mZ).Guests)=true) :
 (cond (zdJ (ix (ix (zh a0).Mons a1 zf).Guests a2 zi) (ix (ix (zh a0).Mons a1 zf).Guests a2 zi).Ctl.Traps 7) (cond (zc9 (ix (ix (zh a0).Mons a1 zf).Guests a2 zi) (ix (ix (zh a0).Mons a1 zf).Guests a2 zi).Ctl.Traps 7) (cond (inb a1 (ln (zh a0).Mons)) (cond (inb a2 (ln (ix (zh a0).Mons a1 zf).Guests)) (share (up (zh a0).Mons a1 ({ (ix (zh a0).Mons a1 zf) with Guests:=(up (ix (zh a0).Mons a1 zf).Guests a2 (zbS (ix (ix (zh a0).Mons a1 zf).Guests a2 zi) (ix (ix (zh a0).Mons a1 zf).Guests a2 zi).Ctl.Traps 7)) }:Mon)) (fun x4=>(some [(.agg (zA ({ (zh a0) with Mons:=x4 }:Host))),(.one (.b true))]))) none) none) (cond (inb a1 (ln (zh a0).Mons)) (cond (inb a2 (ln (ix (zh a0).Mons a1 zf).Guests)) (share (up (zh a0).Mons a1 ({ (ix (zh a0).Mons a1 zf) with Guests:=(up (ix (zh a0).Mons a1 zf).Guests a2 (zbS (ix (ix (zh a0).Mons a1 zf).Guests a2 zi) (ix (ix (zh a0).Mons a1 zf).Guests a2 zi).Ctl.Traps 7)) }:Mon)) (fun x4=>(some [(.agg (zA ({ (zh a0) with Mons:=x4 }:Host))),(.one (.b true))]))) none) none)) none)=some (zdN (zfF a0 a1 a2 (zfq (gOf a0 a1 a2) (gOf a0 a1 a2).Ctl.Traps 7),true)) :=
 must (zbt hx) (br (fun h1=>must (zF g2) (must (zF g3) rfl)) (fun h1=>must (zF g2) (must (zF g3) rfl)))
theorem z2q {a0:Host}{x4:List Mon}{a1 a2:Int}(hx:SmG (gOf a0 a1 a2))(g2:hasB a1 (ln x4)=true)(g3:hasB a2 (ln (ix x4 a1 mZ).Guests)=true)(e:(ix (ix x4 a1 zf).Guests a2 zi)=gOf a0 a1 a2) :
 (cond (zdJ ({ (ix (ix (zh a0).Mons a1 zf).Guests a2 zi) with Prog:=(ix (ix x4 a1 zf).Guests a2 zi).Prog,Written:=(ix (ix x4 a1 zf).Guests a2 zi).Written,Live:=(ix (ix x4 a1 zf).Guests a2 zi).Live,Seen:=(ix (ix x4 a1 zf).Guests a2 zi).Seen }:Guest) (ix (ix (zh a0).Mons a1 zf).Guests a2 zi).Ctl.Traps 7) (cond (zc9 ({ (ix (ix (zh a0).Mons a1 zf).Guests a2 zi) with Prog:=(ix (ix x4 a1 zf).Guests a2 zi).Prog,Written:=(ix (ix x4 a1 zf).Guests a2 zi).Written,Live:=(ix (ix x4 a1 zf).Guests a2 zi).Live,Seen:=(ix (ix x4 a1 zf).Guests a2 zi).Seen }:Guest) (ix (ix (zh a0).Mons a1 zf).Guests a2 zi).Ctl.Traps 7) (cond (inb a1 (ln x4)) (cond (inb a2 (ln (ix x4 a1 zf).Guests)) (share (up x4 a1 ({ (ix x4 a1 zf) with Guests:=(up (ix x4 a1 zf).Guests a2 (zbS ({ (ix (ix (zh a0).Mons a1 zf).Guests a2 zi) with Prog:=(ix (ix x4 a1 zf).Guests a2 zi).Prog,Written:=(ix (ix x4 a1 zf).Guests a2 zi).Written,Live:=(ix (ix x4 a1 zf).Guests a2 zi).Live,Seen:=(ix (ix x4 a1 zf).Guests a2 zi).Seen }:Guest) (ix (ix (zh a0).Mons a1 zf).Guests a2 zi).Ctl.Traps 7)) }:Mon)) (fun x5=>(some [(.agg (zA ({ (zh a0) with Mons:=x5 }:Host))),(.one (.b true))]))) none) none) (cond (inb a1 (ln x4)) (cond (inb a2 (ln (ix x4 a1 zf).Guests)) (share (up x4 a1 ({ (ix x4 a1 zf) with Guests:=(up (ix x4 a1 zf).Guests a2 (zbS ({ (ix (ix (zh a0).Mons a1 zf).Guests a2 zi) with Prog:=(ix (ix x4 a1 zf).Guests a2 zi).Prog,Written:=(ix (ix x4 a1 zf).Guests a2 zi).Written,Live:=(ix (ix x4 a1 zf).Guests a2 zi).Live,Seen:=(ix (ix x4 a1 zf).Guests a2 zi).Seen }:Guest) (ix (ix (zh a0).Mons a1 zf).Guests a2 zi).Ctl.Traps 7)) }:Mon)) (fun x5=>(some [(.agg (zA ({ (zh a0) with Mons:=x5 }:Host))),(.one (.b true))]))) none) none)) none)=some (zdN (zfF { a0 with Mons:=x4 } a1 a2 (zfq (gOf a0 a1 a2) (gOf a0 a1 a2).Ctl.Traps 7),true)):=by
 rw [e];exact must (zbt hx) (br (fun h1=>must (zF g2) (must (zF g3) rfl)) (fun h1=>must (zF g2) (must (zF g3) rfl)))
theorem zDE (a0:Host)(a1 a2:Int)(hb:zG big [.agg (zA a0),.one (.i .i64 a1),.one (.i .i64 a2)])(hc:(zvC a0 a1 a2)=true):∃N,zlY N a0 a1 a2=some [.agg (zA (zvA a0 a1 a2)),.one (.b (zvB a0 a1 a2))]:=by
 obtain ⟨hc,hw⟩:=zkd hc;have hs:=(zbo a0).1 (zJ.1 hc);refine ⟨0,?_⟩
 show _=some (zdN (zbE a0 a1 a2))
 unfold zlY;refine must (zbt ((zbo _).2 hs)) (must (zbt ((zbo _).2 hs)) (brN (fun hh=>?_) (fun hh=>?_)))
 ·rw [zgp hh];rfl
 obtain ⟨g1,g2,g3⟩:=zcJ hh;have hx:=ziu hs g2 g3;have hk:zN (gOf a0 a1 a2)=7:=of_decide_eq_true hw;rw [zhq hh,hk];refine must (zF g2) (must (zF g3) (must (zhv rfl hw) ?_))
 show _=some (zdN (zi4 a0 a1 a2 (gOf a0 a1 a2) 7,true))
 refine must (zF g2) (must rfl (br (fun h0=>must (zF g2) (br (fun h9=>must (zF g2) (must (zF g2) (shr ?_))) (fun h9=>?_))) (fun h0=>?_)))
 ·rw [zlq (zVC (h:=a0) (m:=a1) (x:=gOf a0 a1 a2) (w:=7) rfl h0 h9),zB9 (w:=7) rfl];have eM:=zmA g2 { ix a0.Mons a1 mZ with Own:=zq .i64 (ix a0.Mons a1 mZ).Own 1 };refine z2q hx (zeb g2) ?_ ?_
  ·show hasB a2 (ln (ix (up a0.Mons a1 _) a1 mZ).Guests)=true
   rw [eM];exact g3
  ·show ix (ix (up a0.Mons a1 _) a1 mZ).Guests a2 gZ=_
   rw [eM];rfl
 ·rw [zlq (zVB (h:=a0) (m:=a1) (x:=gOf a0 a1 a2) (w:=7) h9),zB9 (w:=7) rfl];exact z0n hx g2 g3
 ·rw [zlq (zVA (h:=a0) (m:=a1) (x:=gOf a0 a1 a2) (w:=7) h0),zB9 (w:=7) rfl];exact z0n hx g2 g3
theorem zAK:Holds Tryz.prog 18 zrd:=zo zWe zD zem zfK (zC (by kernel_rfl)) fun avs rs hb h=>by
 unfold zrd at h;split at h
 ·obtain ⟨hc,rfl⟩:=zl h;exact (zd3 zDE zFW hc hb :)
 ·cases h
def zol:List AV->Option (Bool×List AV)
 | [.agg [.s (.sl .int) c,.s .mon d,.s .entry e,.s .entry f],.one (.i .i64 g),.one (.i .i64 h)]=>some ((zeq (⟨c,d,e,f⟩:Host) g h),[.agg (zA (zeQ (⟨c,d,e,f⟩:Host) g h)),.one (.b (zB0 (⟨c,d,e,f⟩:Host) g h))])
 | _=>none
theorem zFg:Holds Tryz.prog 18 zol:=by
 refine ⟨znq.1,fun w avs xs rs hrep h=>?_⟩;unfold zol at h;split at h
 ·rename_i a0_0 a0_1 a0_2 a0_3 a1 a2;obtain ⟨hc,rfl⟩:=zl h;rcases zZX (gOf (⟨a0_0,a0_1,a0_2,a0_3⟩:Host) a1 a2) with e|e|e|e|e|e|e|e
  ·exact znq.2 w _ xs _ hrep (congrArg (fun c=>some (c,zdN (zbE (⟨a0_0,a0_1,a0_2,a0_3⟩:Host) a1 a2))) (zhv hc e))
  ·exact zAE.2 w _ xs _ hrep (congrArg (fun c=>some (c,zdN (zbE (⟨a0_0,a0_1,a0_2,a0_3⟩:Host) a1 a2))) (zhv hc e))
  ·exact zAF.2 w _ xs _ hrep (congrArg (fun c=>some (c,zdN (zbE (⟨a0_0,a0_1,a0_2,a0_3⟩:Host) a1 a2))) (zhv hc e))
  ·exact zAG.2 w _ xs _ hrep (congrArg (fun c=>some (c,zdN (zbE (⟨a0_0,a0_1,a0_2,a0_3⟩:Host) a1 a2))) (zhv hc e))
  ·exact zAH.2 w _ xs _ hrep (congrArg (fun c=>some (c,zdN (zbE (⟨a0_0,a0_1,a0_2,a0_3⟩:Host) a1 a2))) (zhv hc e))
  ·exact zAI.2 w _ xs _ hrep (congrArg (fun c=>some (c,zdN (zbE (⟨a0_0,a0_1,a0_2,a0_3⟩:Host) a1 a2))) (zhv hc e))
  ·exact zAJ.2 w _ xs _ hrep (congrArg (fun c=>some (c,zdN (zbE (⟨a0_0,a0_1,a0_2,a0_3⟩:Host) a1 a2))) (zhv hc e))
  ·exact zAK.2 w _ xs _ hrep (congrArg (fun c=>some (c,zdN (zbE (⟨a0_0,a0_1,a0_2,a0_3⟩:Host) a1 a2))) (zhv hc e))
 ·cases h
@[simp,reducible] def zzL (h:Host)(m g page need:Int)(io:Bool):Bool:=pc (zea h)
@[simp,reducible] def zzI (h:Host)(m g page need:Int)(io:Bool):Host:=(lookOf h (zrj h io) m g page need io).1
@[simp,reducible] def zzJ (h:Host)(m g page need:Int)(io:Bool):Int:=(lookOf h (zrj h io) m g page need io).2.1
@[simp,reducible] def zzK (h:Host)(m g page need:Int)(io:Bool):Bool:=(lookOf h (zrj h io) m g page need io).2.2
def ztK:List AV->Option (Bool×List AV)
 | [.agg [.s (.sl .int) c,.s .mon d,.s .entry e,.s .entry f],.one (.i .i64 g),.one (.i .i64 h),.one (.i .i64 j),.one (.i .i64 k),.one (.b l)]=>some ((zzL (⟨c,d,e,f⟩:Host) g h j k l),[.agg (zA (zzI (⟨c,d,e,f⟩:Host) g h j k l)),.one (.i .i64 (zzJ (⟨c,d,e,f⟩:Host) g h j k l)),.one (.b (zzK (⟨c,d,e,f⟩:Host) g h j k l))])
 | _=>none
@[reducible] def zdS (u9_10:List (List Int))(u9_11:List Mon)(u9_12:List Entry)(u9_13:List Entry)(u9_0:Int)(u9_4:Int)(u9_3:Int):Mon :=
 (ix (zh4 (⟨u9_10,u9_11,u9_12,u9_13⟩:Host) u9_0 u9_4 u9_3).Mons u9_0 zf)
def zpE (N:Nat)(u10_0:Int)(u10_1:Int)(u10_2:Int)(u10_3:Int)(u10_8:List (List Int))(u10_9:List Mon)(u10_10:List Entry)(u10_11:List Entry):Option Ans :=
 (cond (zmk u10_11 (⟨u10_1,u10_0,u10_2,u10_3⟩:Entry)) (some [(.agg (zA (⟨u10_8,u10_9,u10_10,(zmj u10_11 (⟨u10_1,u10_0,u10_2,u10_3⟩:Entry))⟩:Host))),(.one (.i .i64 u10_2)),(.one (.b true))]) none)
def zi5 (N:Nat)(u9_10:List (List Int))(u9_11:List Mon)(u9_12:List Entry)(u9_13:List Entry)(u9_0:Int)(u9_4:Int)(u9_3:Int)(u9_1:Int)(u9_2:Int)(r10:((Int×(Int×(Int×(Int×((List (List Int))×((List Mon)×((List Entry)×((List Entry)×((List (List Int))×((List Mon)×((List Entry)×((List Entry)×Unit)))))))))))))->Option Ans)(u9_5:Int)(u9_6:List (List Int))(u9_7:List Mon)(u9_8:List Entry)(u9_9:List Entry):Option Ans :=
 (cond (zFn (⟨u9_10,u9_11,u9_12,u9_13⟩:Host) u9_0 u9_4 u9_3) (cond (inb u9_0 (ln (zh4 (⟨u9_10,u9_11,u9_12,u9_13⟩:Host) u9_0 u9_4 u9_3).Mons)) (cond (inb u9_1 (ln (zdS u9_10 u9_11 u9_12 u9_13 u9_0 u9_4 u9_3).Tables)) (cond (inb u9_1 (ln (zdS u9_10 u9_11 u9_12 u9_13 u9_0 u9_4 u9_3).Guests)) (cond (zFm (ix (zdS u9_10 u9_11 u9_12 u9_13 u9_0 u9_4 u9_3).Tables u9_1 zbD) (ix (zdS u9_10 u9_11 u9_12 u9_13 u9_0 u9_4 u9_3).Guests u9_1 zi).Live (zdS u9_10 u9_11 u9_12 u9_13 u9_0 u9_4 u9_3).Outer u9_2) (cond (inb u9_1 (ln (zdS u9_10 u9_11 u9_12 u9_13 u9_0 u9_4 u9_3).Tables)) (share (up (zh4 (⟨u9_10,u9_11,u9_12,u9_13⟩:Host) u9_0 u9_4 u9_3).Mons u9_0 ({ (zdS u9_10 u9_11 u9_12 u9_13 u9_0 u9_4 u9_3) with Tables:=(up (zdS u9_10 u9_11 u9_12 u9_13 u9_0 u9_4 u9_3).Tables u9_1 (zHw (ix (zdS u9_10 u9_11 u9_12 u9_13 u9_0 u9_4 u9_3).Tables u9_1 zbD) (ix (zdS u9_10 u9_11 u9_12 u9_13 u9_0 u9_4 u9_3).Guests u9_1 zi).Live (zdS u9_10 u9_11 u9_12 u9_13 u9_0 u9_4 u9_3).Outer u9_2)) }:Mon)) (fun x11=>(cond (inb u9_1 (ln (ix x11 u9_0 zf).Tables)) (cond (zxv (ix (ix x11 u9_0 zf).Tables u9_1 zbD) u9_2) (r10 (u9_2,(u9_5,((ziA (ix (ix x11 u9_0 zf).Tables u9_1 zbD) u9_2).Page,((ziA (ix (ix x11 u9_0 zf).Tables u9_1 zbD) u9_2).Rights,(u9_6,(u9_7,(u9_8,(u9_9,((zh4 (⟨u9_10,u9_11,u9_12,u9_13⟩:Host) u9_0 u9_4 u9_3).Memory,(x11,((zh4 (⟨u9_10,u9_11,u9_12,u9_13⟩:Host) u9_0 u9_4 u9_3).Buffer,((zh4 (⟨u9_10,u9_11,u9_12,u9_13⟩:Host) u9_0 u9_4 u9_3).IoBuffer,()))))))))))))) none) none))) none) none) none) none) none) none)
def zlP (N:Nat)(u9_11:List Mon)(u9_0:Int)(u9_1:Int)(u9_2:Int)(u9_10:List (List Int))(u9_12:List Entry)(u9_13:List Entry)(u9_4:Int)(u9_3:Int)(r10:((Int×(Int×(Int×(Int×((List (List Int))×((List Mon)×((List Entry)×((List Entry)×((List (List Int))×((List Mon)×((List Entry)×((List Entry)×Unit)))))))))))))->Option Ans)(u9_5:Int)(u9_6:List (List Int))(u9_7:List Mon)(u9_8:List Entry)(u9_9:List Entry):Option Ans :=
 (cond (cond (zCy (ix (ix u9_11 u9_0 zf).Tables u9_1 zbD) u9_2) false true) (zi5 N u9_10 u9_11 u9_12 u9_13 u9_0 u9_4 u9_3 u9_1 u9_2 r10 u9_5 u9_6 u9_7 u9_8 u9_9) (cond (ieq (ziA (ix (ix u9_11 u9_0 zf).Tables u9_1 zbD) u9_2).Page (-1)) (zi5 N u9_10 u9_11 u9_12 u9_13 u9_0 u9_4 u9_3 u9_1 u9_2 r10 u9_5 u9_6 u9_7 u9_8 u9_9) (cond (zdg (ziA (ix (ix u9_11 u9_0 zf).Tables u9_1 zbD) u9_2).Rights u9_3) (cond (cond (zdL (ziA (ix (ix u9_11 u9_0 zf).Tables u9_1 zbD) u9_2).Rights u9_3) false true) (zi5 N u9_10 u9_11 u9_12 u9_13 u9_0 u9_4 u9_3 u9_1 u9_2 r10 u9_5 u9_6 u9_7 u9_8 u9_9) (r10 (u9_2,(u9_5,((ziA (ix (ix u9_11 u9_0 zf).Tables u9_1 zbD) u9_2).Page,((ziA (ix (ix u9_11 u9_0 zf).Tables u9_1 zbD) u9_2).Rights,(u9_6,(u9_7,(u9_8,(u9_9,(u9_10,(u9_11,(u9_12,(u9_13,())))))))))))))) none)))
def zpF (N:Nat)(u9_0:Int)(u9_1:Int)(u9_2:Int)(u9_3:Int)(u9_4:Int)(u9_5:Int)(u9_6:List (List Int))(u9_7:List Mon)(u9_8:List Entry)(u9_9:List Entry)(u9_10:List (List Int))(u9_11:List Mon)(u9_12:List Entry)(u9_13:List Entry):Option Ans :=
 (cond (inb u9_0 (ln u9_11)) (cond (inb u9_1 (ln (ix u9_11 u9_0 zf).Tables)) (cond (zxv (ix (ix u9_11 u9_0 zf).Tables u9_1 zbD) u9_2) (share (fun (s10:(Int×(Int×(Int×(Int×((List (List Int))×((List Mon)×((List Entry)×((List Entry)×((List (List Int))×((List Mon)×((List Entry)×((List Entry)×Unit)))))))))))))=>(zpE N s10.1 s10.2.1 s10.2.2.1 s10.2.2.2.1 s10.2.2.2.2.2.2.2.2.1 s10.2.2.2.2.2.2.2.2.2.1 s10.2.2.2.2.2.2.2.2.2.2.1 s10.2.2.2.2.2.2.2.2.2.2.2.1)) (fun r10=>(zlP N u9_11 u9_0 u9_1 u9_2 u9_10 u9_12 u9_13 u9_4 u9_3 r10 u9_5 u9_6 u9_7 u9_8 u9_9))) none) none) none)
def zpG (N:Nat)(u10_0:Int)(u10_1:Int)(u10_2:Int)(u10_3:Int)(u10_8:List (List Int))(u10_9:List Mon)(u10_10:List Entry)(u10_11:List Entry):Option Ans :=
 (cond (zmk u10_10 (⟨u10_1,u10_0,u10_2,u10_3⟩:Entry)) (some [(.agg (zA (⟨u10_8,u10_9,(zmj u10_10 (⟨u10_1,u10_0,u10_2,u10_3⟩:Entry)),u10_11⟩:Host))),(.one (.i .i64 u10_2)),(.one (.b true))]) none)
def zpH (N:Nat)(u9_0:Int)(u9_1:Int)(u9_2:Int)(u9_3:Int)(u9_4:Int)(u9_5:Int)(u9_6:List (List Int))(u9_7:List Mon)(u9_8:List Entry)(u9_9:List Entry)(u9_10:List (List Int))(u9_11:List Mon)(u9_12:List Entry)(u9_13:List Entry):Option Ans :=
 (cond (inb u9_0 (ln u9_11)) (cond (inb u9_1 (ln (ix u9_11 u9_0 zf).Tables)) (cond (zxv (ix (ix u9_11 u9_0 zf).Tables u9_1 zbD) u9_2) (share (fun (s10:(Int×(Int×(Int×(Int×((List (List Int))×((List Mon)×((List Entry)×((List Entry)×((List (List Int))×((List Mon)×((List Entry)×((List Entry)×Unit)))))))))))))=>(zpG N s10.1 s10.2.1 s10.2.2.1 s10.2.2.2.1 s10.2.2.2.2.2.2.2.2.1 s10.2.2.2.2.2.2.2.2.2.1 s10.2.2.2.2.2.2.2.2.2.2.1 s10.2.2.2.2.2.2.2.2.2.2.2.1)) (fun r10=>(zlP N u9_11 u9_0 u9_1 u9_2 u9_10 u9_12 u9_13 u9_4 u9_3 r10 u9_5 u9_6 u9_7 u9_8 u9_9))) none) none) none)
def zpI (N:Nat)(u8_0:Int)(u8_1:Int)(u8_2:Int)(u8_3:Int)(u8_4:Bool)(u8_5:Int)(u8_6:List (List Int))(u8_7:List Mon)(u8_8:List Entry)(u8_9:List Entry)(u8_10:List (List Int))(u8_11:List Mon)(u8_12:List Entry)(u8_13:List Entry):Option Ans :=
 (cond u8_4 (cond (zu0 u8_0 u8_1) (share (fun (s9:(Int×(Int×(Int×(Int×(Int×(Int×((List (List Int))×((List Mon)×((List Entry)×((List Entry)×((List (List Int))×((List Mon)×((List Entry)×((List Entry)×Unit)))))))))))))))=>(zpF N s9.1 s9.2.1 s9.2.2.1 s9.2.2.2.1 s9.2.2.2.2.1 s9.2.2.2.2.2.1 s9.2.2.2.2.2.2.1 s9.2.2.2.2.2.2.2.1 s9.2.2.2.2.2.2.2.2.1 s9.2.2.2.2.2.2.2.2.2.1 s9.2.2.2.2.2.2.2.2.2.2.1 s9.2.2.2.2.2.2.2.2.2.2.2.1 s9.2.2.2.2.2.2.2.2.2.2.2.2.1 s9.2.2.2.2.2.2.2.2.2.2.2.2.2.1)) (fun r9=>(cond (zkO u8_13 (zek u8_0 u8_1) u8_2) (cond (zil u8_13 (zek u8_0 u8_1) u8_2) (cond (zdg (zeu u8_13 (zek u8_0 u8_1) u8_2).Rights u8_3) (cond (zdL (zeu u8_13 (zek u8_0 u8_1) u8_2).Rights u8_3) (some [(.agg (zA (⟨u8_10,u8_11,u8_12,u8_13⟩:Host))),(.one (.i .i64 (zeu u8_13 (zek u8_0 u8_1) u8_2).Host)),(.one (.b true))]) (r9 (u8_0,(u8_1,(u8_2,(u8_3,(u8_5,((zek u8_0 u8_1),(u8_6,(u8_7,(u8_8,(u8_9,(u8_10,(u8_11,(u8_12,(u8_13,())))))))))))))))) none) (r9 (u8_0,(u8_1,(u8_2,(u8_3,(u8_5,((zek u8_0 u8_1),(u8_6,(u8_7,(u8_8,(u8_9,(u8_10,(u8_11,(u8_12,(u8_13,())))))))))))))))) none))) none) (cond (zu0 u8_0 u8_1) (share (fun (s9:(Int×(Int×(Int×(Int×(Int×(Int×((List (List Int))×((List Mon)×((List Entry)×((List Entry)×((List (List Int))×((List Mon)×((List Entry)×((List Entry)×Unit)))))))))))))))=>(zpH N s9.1 s9.2.1 s9.2.2.1 s9.2.2.2.1 s9.2.2.2.2.1 s9.2.2.2.2.2.1 s9.2.2.2.2.2.2.1 s9.2.2.2.2.2.2.2.1 s9.2.2.2.2.2.2.2.2.1 s9.2.2.2.2.2.2.2.2.2.1 s9.2.2.2.2.2.2.2.2.2.2.1 s9.2.2.2.2.2.2.2.2.2.2.2.1 s9.2.2.2.2.2.2.2.2.2.2.2.2.1 s9.2.2.2.2.2.2.2.2.2.2.2.2.2.1)) (fun r9=>(cond (zkO u8_12 (zek u8_0 u8_1) u8_2) (cond (zil u8_12 (zek u8_0 u8_1) u8_2) (cond (zdg (zeu u8_12 (zek u8_0 u8_1) u8_2).Rights u8_3) (cond (zdL (zeu u8_12 (zek u8_0 u8_1) u8_2).Rights u8_3) (some [(.agg (zA (⟨u8_10,u8_11,u8_12,u8_13⟩:Host))),(.one (.i .i64 (zeu u8_12 (zek u8_0 u8_1) u8_2).Host)),(.one (.b true))]) (r9 (u8_0,(u8_1,(u8_2,(u8_3,(u8_5,((zek u8_0 u8_1),(u8_6,(u8_7,(u8_8,(u8_9,(u8_10,(u8_11,(u8_12,(u8_13,())))))))))))))))) none) (r9 (u8_0,(u8_1,(u8_2,(u8_3,(u8_5,((zek u8_0 u8_1),(u8_6,(u8_7,(u8_8,(u8_9,(u8_10,(u8_11,(u8_12,(u8_13,())))))))))))))))) none))) none))
def zpJ (N:Nat)(u7_0:Int)(u7_1:Int)(u7_2:Int)(u7_3:Int)(u7_4:Bool)(u7_8:List (List Int))(u7_9:List Mon)(u7_10:List Entry)(u7_11:List Entry)(u7_12:List (List Int))(u7_13:List Mon)(u7_14:List Entry)(u7_15:List Entry)(u7_19:List Guest):Option Ans :=
 (cond (inb u7_1 (ln u7_19)) (cond (zim (ix u7_19 u7_1 zi).Live u7_2 u7_3) (cond (cond (zfN (ix u7_19 u7_1 zi).Live u7_2 u7_3) false true) (some [(.agg (zA (⟨u7_12,u7_13,u7_14,u7_15⟩:Host))),(.one (.i .i64 (-1))),(.one (.b false))]) (share (fun (s8:(Int×(Int×(Int×(Int×(Bool×(Int×((List (List Int))×((List Mon)×((List Entry)×((List Entry)×((List (List Int))×((List Mon)×((List Entry)×((List Entry)×Unit)))))))))))))))=>(zpI N s8.1 s8.2.1 s8.2.2.1 s8.2.2.2.1 s8.2.2.2.2.1 s8.2.2.2.2.2.1 s8.2.2.2.2.2.2.1 s8.2.2.2.2.2.2.2.1 s8.2.2.2.2.2.2.2.2.1 s8.2.2.2.2.2.2.2.2.2.1 s8.2.2.2.2.2.2.2.2.2.2.1 s8.2.2.2.2.2.2.2.2.2.2.2.1 s8.2.2.2.2.2.2.2.2.2.2.2.2.1 s8.2.2.2.2.2.2.2.2.2.2.2.2.2.1)) (fun r8=>(cond (ieq u7_3 2) (cond (inb u7_0 (ln u7_13)) (cond (inb (zb4 (ix u7_19 u7_1 zi).Live u7_2 u7_3) (ln (ix u7_13 u7_0 zf).Dirty)) (share (up u7_13 u7_0 ({ (ix u7_13 u7_0 zf) with Dirty:=(up (ix u7_13 u7_0 zf).Dirty (zb4 (ix u7_19 u7_1 zi).Live u7_2 u7_3) true) }:Mon)) (fun x9=>r8 (u7_0,(u7_1,(u7_2,(u7_3,(u7_4,((zb4 (ix u7_19 u7_1 zi).Live u7_2 u7_3),(u7_8,(u7_9,(u7_10,(u7_11,(u7_12,(x9,(u7_14,(u7_15,())))))))))))))))) none) none) (r8 (u7_0,(u7_1,(u7_2,(u7_3,(u7_4,((zb4 (ix u7_19 u7_1 zi).Live u7_2 u7_3),(u7_8,(u7_9,(u7_10,(u7_11,(u7_12,(u7_13,(u7_14,(u7_15,()))))))))))))))))))) none) none)
def zym (N:Nat)(a0:Host)(a1 a2:Int)(a3 a4:Int)(a5:Bool):Option Ans :=
 (cond (zjq a0) (cond (zpi a0 a1) (share (fun (s7:(Int×(Int×(Int×(Int×(Bool×(Int×(Int×(Int×((List (List Int))×((List Mon)×((List Entry)×((List Entry)×((List (List Int))×((List Mon)×((List Entry)×((List Entry)×((List Slot)×((List (List Int))×((List Bool)×((List Guest)×((List Int)×((List Kept)×Unit)))))))))))))))))))))))=>(zpJ N s7.1 s7.2.1 s7.2.2.1 s7.2.2.2.1 s7.2.2.2.2.1 s7.2.2.2.2.2.2.2.2.1 s7.2.2.2.2.2.2.2.2.2.1 s7.2.2.2.2.2.2.2.2.2.2.1 s7.2.2.2.2.2.2.2.2.2.2.2.1 s7.2.2.2.2.2.2.2.2.2.2.2.2.1 s7.2.2.2.2.2.2.2.2.2.2.2.2.2.1 s7.2.2.2.2.2.2.2.2.2.2.2.2.2.2.1 s7.2.2.2.2.2.2.2.2.2.2.2.2.2.2.2.1 s7.2.2.2.2.2.2.2.2.2.2.2.2.2.2.2.2.2.2.2.1)) (fun r7=>(cond (zrn a0) (cond (cond (zsZ a0) false true) (some [(.agg (zA (zS a0))),(.one (.i .i64 (-1))),(.one (.b false))]) (cond (cond (zjj a0 a1) false true) (some [(.agg (zA (zS a0))),(.one (.i .i64 (-1))),(.one (.b false))]) (cond (zcz a2 (ln (zbl a0 a1).Guests)) (cond (cond (zcS a2 (ln (zbl a0 a1).Guests)) false true) (some [(.agg (zA (zS a0))),(.one (.i .i64 (-1))),(.one (.b false))]) (cond (ine a4 1) (cond (ine a4 2) (some [(.agg (zA (zS a0))),(.one (.i .i64 (-1))),(.one (.b false))]) (r7 (a1,(a2,(a3,(a4,(a5,((zbl a0 a1).Pending,((zbl a0 a1).Traps,((zbl a0 a1).Own,([],([],([],([],((zS a0).Memory,((zS a0).Mons,((zS a0).Buffer,((zS a0).IoBuffer,((zbl a0 a1).Outer,((zbl a0 a1).Out,((zbl a0 a1).Dirty,((zbl a0 a1).Guests,((zbl a0 a1).Outs,((zbl a0 a1).Tables,())))))))))))))))))))))))) (r7 (a1,(a2,(a3,(a4,(a5,((zbl a0 a1).Pending,((zbl a0 a1).Traps,((zbl a0 a1).Own,([],([],([],([],((zS a0).Memory,((zS a0).Mons,((zS a0).Buffer,((zS a0).IoBuffer,((zbl a0 a1).Outer,((zbl a0 a1).Out,((zbl a0 a1).Dirty,((zbl a0 a1).Guests,((zbl a0 a1).Outs,((zbl a0 a1).Tables,()))))))))))))))))))))))))) none))) none))) none) none)
def zSj:FuncId->Nat->Option Tmpl:=zB [(124,999999,{ n:=0,tm:=[],lo:=[],ro:=[] }),(124,1007055,{ n:=200,tm:=[(1,.i .i64),(2,.i .i64),(3,.i .i64),(4,.i .i64),(5,.b),(12,.lp 0 0),(15,.lp 1 0),(16,.lp 2 0)],lo:=[(0,[.sl 0 [],.sl 1 [],.sl 2 [],.sl 3 []]),(1,[.sl 4 [],.sl 5 [],.sl 6 [],.sl 7 []]),(2,[.sl 8 [],.sl 9 [],.sl 10 [],.sl 11 [],.sl 12 [],.i .i64,.i .i64,.sl 13 [],.i .i64])],ro:=[(0,(.sl .int),true),(1,.mon,true),(2,.entry,true),(3,.entry,true),(4,(.sl .int),true),(5,.mon,true),(6,.entry,true),(7,.entry,true),(8,.slot,true),(9,(.sl .int),true),(10,.bool,true),(11,.guest,true),(12,.int,true),(13,.kept,true)] }),(124,1005039,{ n:=200,tm:=[(1,.i .i64),(2,.i .i64),(3,.i .i64),(4,.i .i64),(5,.b),(12,.lp 0 0),(15,.lp 1 0),(18,.i .i64)],lo:=[(0,[.sl 0 [],.sl 1 [],.sl 2 [],.sl 3 []]),(1,[.sl 4 [],.sl 5 [],.sl 6 [],.sl 7 []])],ro:=[(0,(.sl .int),true),(1,.mon,true),(2,.entry,true),(3,.entry,true),(4,(.sl .int),true),(5,.mon,true),(6,.entry,true),(7,.entry,true)] }),(124,1009019,{ n:=200,tm:=[(1,.i .i64),(2,.i .i64),(3,.i .i64),(4,.i .i64),(12,.lp 0 0),(15,.lp 1 0),(18,.i .i64),(20,.lp 1 3),(21,.i .i64)],lo:=[(0,[.sl 0 [],.sl 1 [],.sl 2 [],.sl 3 []]),(1,[.sl 4 [],.sl 5 [],.sl 6 [],.sl 7 []])],ro:=[(0,(.sl .int),true),(1,.mon,true),(2,.entry,true),(3,.entry,true),(4,(.sl .int),true),(5,.mon,true),(6,.entry,true),(7,.entry,true)] }),(124,1011005,{ n:=200,tm:=[(3,.i .i64),(12,.lp 0 0),(15,.lp 1 0),(20,.lp 1 3),(21,.i .i64),(24,.lp 2 0)],lo:=[(0,[.sl 0 [],.sl 1 [],.sl 2 [],.sl 3 []]),(1,[.sl 4 [],.sl 5 [],.sl 6 [],.sl 7 []]),(2,[.i .i64,.i .i64])],ro:=[(0,(.sl .int),true),(1,.mon,true),(2,.entry,true),(3,.entry,true),(4,(.sl .int),true),(5,.mon,true),(6,.entry,true),(7,.entry,true)] }),(124,1001009019,{ n:=200,tm:=[(1,.i .i64),(2,.i .i64),(3,.i .i64),(4,.i .i64),(12,.lp 0 0),(15,.lp 1 0),(18,.i .i64),(20,.lp 1 2),(21,.i .i64)],lo:=[(0,[.sl 0 [],.sl 1 [],.sl 2 [],.sl 3 []]),(1,[.sl 4 [],.sl 5 [],.sl 6 [],.sl 7 []])],ro:=[(0,(.sl .int),true),(1,.mon,true),(2,.entry,true),(3,.entry,true),(4,(.sl .int),true),(5,.mon,true),(6,.entry,true),(7,.entry,true)] }),(124,1001011005,{ n:=200,tm:=[(3,.i .i64),(12,.lp 0 0),(15,.lp 1 0),(20,.lp 1 2),(21,.i .i64),(24,.lp 2 0)],lo:=[(0,[.sl 0 [],.sl 1 [],.sl 2 [],.sl 3 []]),(1,[.sl 4 [],.sl 5 [],.sl 6 [],.sl 7 []]),(2,[.i .i64,.i .i64])],ro:=[(0,(.sl .int),true),(1,.mon,true),(2,.entry,true),(3,.entry,true),(4,(.sl .int),true),(5,.mon,true),(6,.entry,true),(7,.entry,true)] })]
theorem zTN (N:Nat)(a0:Host)(a1 a2:Int)(a3 a4:Int)(a5:Bool):evalFn (cQ zjL zV zhM zlp) zSj N 12 124 [.agg (zA a0),.one (.i .i64 a1),.one (.i .i64 a2),.one (.i .i64 a3),.one (.i .i64 a4),.one (.b a5)]=zym N a0 a1 a2 a3 a4 a5:=by kernel_rfl
theorem z0q {N:Nat}{r:Host}{m g page:Int}(hi:r.IoBuffer.length<=1048576) :
 zpE N page (zi3 m g) (ze2 (zcP r m g) page).Page (ze2 (zcP r m g) page).Rights r.Memory r.Mons r.Buffer r.IoBuffer=some (zid (zeM r m g page true)):=by
 unfold zpE;exact must (zbt hi) rfl
theorem z0s {N:Nat}{r:Host}{m g page:Int}(hi:r.Buffer.length<=1048576) :
 zpG N page (zi3 m g) (ze2 (zcP r m g) page).Page (ze2 (zcP r m g) page).Rights r.Memory r.Mons r.Buffer r.IoBuffer=some (zid (zeM r m g page false)):=by
 unfold zpG;exact must (zbt hi) rfl
theorem zZu {N:Nat}{r:Host}{m g page need q:Int}{R:Option Ans}{r10}{u5 u6 u7 u8 u9}(A:LookAt r m g q need)(hr:r10 (page,(u5,((ze2 (zcP (zc0 (mended r m q need) m g page) m g) page).Page,((ze2 (zcP (zc0 (mended r m q need) m g page) m g) page).Rights,(u6,(u7,(u8,(u9,((zc0 (mended r m q need) m g page).Memory,((zc0 (mended r m q need) m g page).Mons,((zc0 (mended r m q need) m g page).Buffer,((zc0 (mended r m q need) m g page).IoBuffer,()))))))))))))=R) :
 zi5 N r.Memory r.Mons r.Buffer r.IoBuffer m q need g page r10 u5 u6 u7 u8 u9=R:=by
 have M:=zj2 A.kp A.hm A.hg;have F:=zj2 (A.fill page) A.hm A.hg;unfold zi5;exact must (zbt A.mend) (must (zF M.hm) (must (zF M.ht) (must (zF M.hg) (must (zbt M.hk) (must (zF M.ht) (shr (must (zF F.ht) (must rfl hr))))))))
theorem z1Q {N:Nat}{r:Host}{m g page need q:Int}{io:Bool}{r10}{u5 u6 u7 u8 u9}(A:LookAt r m g q need)(h1:r10 (page,(u5,((ze2 (zcP (zc0 (mended r m q need) m g page) m g) page).Page,((ze2 (zcP (zc0 (mended r m q need) m g page) m g) page).Rights,(u6,(u7,(u8,(u9,((zc0 (mended r m q need) m g page).Memory,((zc0 (mended r m q need) m g page).Mons,((zc0 (mended r m q need) m g page).Buffer,((zc0 (mended r m q need) m g page).IoBuffer,()))))))))))))=some (zid (zeM (zc0 (mended r m q need) m g page) m g page io)))(h2:r10 (page,(u5,((ze2 (zcP r m g) page).Page,((ze2 (zcP r m g) page).Rights,(u6,(u7,(u8,(u9,(r.Memory,(r.Mons,(r.Buffer,(r.IoBuffer,()))))))))))))=some (zid (zeM r m g page io))) :
 zlP N r.Mons m g page r.Memory r.Buffer r.IoBuffer q need r10 u5 u6 u7 u8 u9=some (zid (cond (zeD r m g page need) (zeM (zc0 (mended r m q need) m g page) m g page io) (zeM r m g page io))):=by
 unfold zlP;refine brN (fun f1=>?_) (fun f1=>br (fun f2=>?_) (fun f2=>must rfl (brN (fun f3=>?_) (fun f3=>?_))))
 ·rw [zr0 (zVt f1)];exact zZu A h1
 ·rw [zr0 (zVu f2)];exact zZu A h1
 ·rw [zr0 (zVv f3)];exact zZu A h1
 ·rw [zVe (zVw f1 f2 f3)];exact h2
theorem z0r {N:Nat}{r:Host}{m g page need q:Int}{u6 u7 u8 u9}(A:LookAt r m g q need) :
 zpF N m g page need q (zi3 m g) u6 u7 u8 u9 r.Memory r.Mons r.Buffer r.IoBuffer=some (zid (cond (zeD r m g page need) (zeM (zc0 (mended r m q need) m g page) m g page true) (zeM r m g page true))):=by
 have M:=zj2 ⟨A.fit.1,rfl⟩ A.hm A.hg;have F:=zj2 (A.fill page) A.hm A.hg;unfold zpF;exact must (zF M.hm) (must (zF M.ht) (must rfl (shr (z1Q A (z0q (r:=zc0 (mended r m q need) m g page) (m:=m) (g:=g) F.hi) (z0q (r:=r) (m:=m) (g:=g) M.hi)))))
theorem z0t {N:Nat}{r:Host}{m g page need q:Int}{u6 u7 u8 u9}(A:LookAt r m g q need) :
 zpH N m g page need q (zi3 m g) u6 u7 u8 u9 r.Memory r.Mons r.Buffer r.IoBuffer=some (zid (cond (zeD r m g page need) (zeM (zc0 (mended r m q need) m g page) m g page false) (zeM r m g page false))):=by
 have M:=zj2 ⟨A.fit.1,rfl⟩ A.hm A.hg;have F:=zj2 (A.fill page) A.hm A.hg;unfold zpH;exact must (zF M.hm) (must (zF M.ht) (must rfl (shr (z1Q A (z0s (r:=zc0 (mended r m q need) m g page) (m:=m) (g:=g) F.hb) (z0s (r:=r) (m:=m) (g:=g) M.hb)))))
theorem z0u {N:Nat}{r:Host}{m g page need q:Int}{io:Bool}{u6 u7 u8 u9}(A:LookAt r m g q need) :
 zpI N m g page need io q u6 u7 u8 u9 r.Memory r.Mons r.Buffer r.IoBuffer=some (zid (zhx r (zrj r io) m g page need q io)):=by
 unfold zpI;cases io
 ·show _=some (zid (zhx r r.Buffer m g page need q false))
  refine zeN rfl (must rfl (shr (must rfl (br (fun f1=>must rfl (br (fun f2=>?_) (fun f2=>?_))) (fun f1=>?_)))))
  ·rw [zCD (zlv f1 f2)];rfl
  ·rw [zlC (zlv f1 f2)];exact z0t A
  ·rw [zlC (zCv f1)];exact z0t A
 ·show _=some (zid (zhx r r.IoBuffer m g page need q true))
  refine must rfl (must rfl (shr (must rfl (br (fun f1=>must rfl (br (fun f2=>?_) (fun f2=>?_))) (fun f1=>?_)))))
  ·rw [zCD (zlv f1 f2)];rfl
  ·rw [zlC (zlv f1 f2)];exact z0r A
  ·rw [zlC (zCv f1)];exact z0r A
theorem z2l (r:Host)(m q:Int)(io:Bool):zrj (zb6 r m q) io=zrj r io:=by
 cases io<;>rfl
theorem z0v {N:Nat}{r:Host}{m g page need:Int}{io:Bool}{z1 z2 z3 z4}(hs:SmH r)(hg:zcD r m g=true)(hn:zgy need=true) :
 zpJ N m g page need io z1 z2 z3 z4 r.Memory r.Mons r.Buffer r.IoBuffer (ix r.Mons m mZ).Guests=some (zid (lookOf r (zrj r io) m g page need io)):=by
 obtain ⟨g1,g2,g3⟩:=zcJ hg;unfold zpJ;refine must (zF g3) (must rfl (brN (fun hw=>?_) (fun hw=>?_)))
 ·have:zdI r m g page need=false:=by
   unfold zdI;rw [hg,hn,show zfX (zdr r m g) page need=false from hw]
   rfl
  rw [ziO this];rfl
 ·have hl:zdI r m g page need=true:=by
   unfold zdI;rw [hg,hn,show zfX (zdr r m g) page need=true from hw]
   rfl
  obtain ⟨A,B⟩:=zBN hs hl;rw [zQ3 hl];have hd:hasB (zcR (zdr r m g) page need) (ln (ix r.Mons m mZ).Dirty)=true:=zda (zck A.fit.1 g2).2.2.2.1 A.hq;refine shr (br (fun h2=>?_) (fun h2=>?_))
  ·rw [h2]
   show _=some (zid (zhx (zb6 r m (zcR (zdr r m g) page need)) (zrj r io) m g page need (zcR (zdr r m g) page need) io))
   rw [<- z2l r m (zcR (zdr r m g) page need) io];exact must (zF g2) (must (zF hd) (shr (z0u (r:=zb6 r m (zcR (zdr r m g) page need)) B)))
  ·rw [h2];exact z0u A
theorem zQi (a0:Host)(a1 a2:Int)(a3 a4:Int)(a5:Bool)(hb:zG big [.agg (zA a0),.one (.i .i64 a1),.one (.i .i64 a2),.one (.i .i64 a3),.one (.i .i64 a4),.one (.b a5)])(hc:(zzL a0 a1 a2 a3 a4 a5)=true):∃N,zym N a0 a1 a2 a3 a4 a5=some [.agg (zA (zzI a0 a1 a2 a3 a4 a5)),.one (.i .i64 (zzJ a0 a1 a2 a3 a4 a5)),.one (.b (zzK a0 a1 a2 a3 a4 a5))]:=by
 have hs:=(zbo a0).1 (zJ.1 hc);refine ⟨0,?_⟩
 show _=some (zid (lookOf a0 (zrj a0 a5) a1 a2 a3 a4 a5))
 unfold zym;refine must (zbt ((zbo _).2 hs)) (must (zbt ((zbo _).2 hs)) (shr (must rfl (brN (fun h1=>?_) (fun h1=>?_)))))
 ·rw [ziO (zlD (zCx h1))];rfl
 refine brN (fun h2=>?_) (fun h2=>?_)
 ·rw [ziO (zlD (zI9 h2))];rfl
 have eM:zbl a0 a1=ix a0.Mons a1 mZ:=by
  unfold zbl;rw [show hasB a1 (ln a0.Mons)=true from h2]
  rfl
 rw [eM];refine must rfl (brN (fun h3=>?_) (fun h3=>?_))
 ·rw [ziO (zlD (zJa h3))];rfl
 have hg:=zJb h1 h2 h3;have hno:∀{n:Int},zgy n=false->zdI a0 a1 a2 a3 n=false:=fun {n} h=>by
  unfold zdI;rw [hg,h];rfl
 rw [zjW,zjW];cases h4:ieq a4 1
 ·cases h5:ieq a4 2
  ·have:zgy a4=false:=by unfold zgy;rw [h4,h5];rfl
   rw [ziO (hno this)];rfl
  ·exact z0v (r:=a0) hs hg (by unfold zgy;rw [h4,h5];rfl)
 ·exact z0v (r:=a0) hs hg (by unfold zgy;rw [h4];rfl)
theorem zJC:Holds Tryz.prog 124 ztK:=zo zgs zD zem zfK (zC (by kernel_rfl)) fun avs rs hb h=>by
 unfold ztK at h;split at h
 ·obtain ⟨hc,rfl⟩:=zl h;exact (z2L zQi zTN hc hb :)
 ·cases h
def zWf:zbQ:=[(124,ztK),(18,zol)]++zjL
theorem zPq:zbw zWf:=zn zJC (zn zFg zgs)
@[simp,reducible] def zzB (h:Host)(m g page need:Int):Bool:=pc (zea h)
@[simp,reducible] def zro (h:Host)(m g page need:Int):Host:=(lookOf h h.Buffer m g page need false).1
@[simp,reducible] def zrp (h:Host)(m g page need:Int):Int:=(lookOf h h.Buffer m g page need false).2.1
@[simp,reducible] def zzA (h:Host)(m g page need:Int):Bool:=(lookOf h h.Buffer m g page need false).2.2
def ztu:List AV->Option (Bool×List AV)
 | [.agg [.s (.sl .int) c,.s .mon d,.s .entry e,.s .entry f],.one (.i .i64 g),.one (.i .i64 h),.one (.i .i64 j),.one (.i .i64 k)]=>some ((zzB (⟨c,d,e,f⟩:Host) g h j k),[.agg (zA (zro (⟨c,d,e,f⟩:Host) g h j k)),.one (.i .i64 (zrp (⟨c,d,e,f⟩:Host) g h j k)),.one (.b (zzA (⟨c,d,e,f⟩:Host) g h j k))])
 | _=>none
def zx7 (N:Nat)(a0:Host)(a1 a2:Int)(a3 a4:Int):Option Ans :=
 (cond (zzL a0 a1 a2 a3 a4 false) (some [(.agg (zA (zzI a0 a1 a2 a3 a4 false))),(.one (.i .i64 (zzJ a0 a1 a2 a3 a4 false))),(.one (.b (zzK a0 a1 a2 a3 a4 false)))]) none)
theorem zTx (N:Nat)(a0:Host)(a1 a2:Int)(a3 a4:Int):evalFn (cQ zWf zV zhM zlp) (zB []) N 12 55 [.agg (zA a0),.one (.i .i64 a1),.one (.i .i64 a2),.one (.i .i64 a3),.one (.i .i64 a4)]=zx7 N a0 a1 a2 a3 a4:=by kernel_rfl
theorem zP2 (a0:Host)(a1 a2:Int)(a3 a4:Int)(hb:zG big [.agg (zA a0),.one (.i .i64 a1),.one (.i .i64 a2),.one (.i .i64 a3),.one (.i .i64 a4)])(hc:(zzB a0 a1 a2 a3 a4)=true):∃N,zx7 N a0 a1 a2 a3 a4=some [.agg (zA (zro a0 a1 a2 a3 a4)),.one (.i .i64 (zrp a0 a1 a2 a3 a4)),.one (.b (zzA a0 a1 a2 a3 a4))]:=by
 refine ⟨0,?_⟩;unfold zx7;exact must hc rfl
theorem zJm:Holds Tryz.prog 55 ztu:=zo zPq zD zem zfK (zC (by kernel_rfl)) fun avs rs hb h=>by
 unfold ztu at h;split at h
 ·obtain ⟨hc,rfl⟩:=zl h;exact (z2K zP2 zTx hc hb :)
 ·cases h
def z0i:zbQ:=[(55,ztu)]++zWf
theorem zZe:zbw z0i:=zn zJm zPq
def brought (n a b:Int):Int:=bif ilt n a then a else (cond (ilt b a) a (zFt n b))
@[simp,reducible] def zDT (_ _ _:Int):Bool:=true
@[simp,reducible] def zuZ (n a b:Int):Int:=brought n a b
def zqb:List AV->Option (Bool×List AV)
 | [.one (.i .i64 b),.one (.i .i64 c),.one (.i .i64 d)]=>some ((zDT b c d),[.one (.i .i64 (zuZ b c d))])
 | _=>none
def zvM (N:Nat)(a0 a1 a2:Int):Option Ans :=
 (cond (ilt a0 a1) (some [(.one (.i .i64 a1))]) (cond (ilt a2 a1) (some [(.one (.i .i64 a1))]) (some [(.one (.i .i64 (zFt a0 a2)))])))
theorem zQ9 (N:Nat)(a0 a1 a2:Int):evalFn (cQ zze zV zK zO) (zB []) N 12 34 [.one (.i .i64 a0),.one (.i .i64 a1),.one (.i .i64 a2)]=zvM N a0 a1 a2:=by kernel_rfl
theorem zMT (a0 a1 a2:Int)(hb:zG big [.one (.i .i64 a0),.one (.i .i64 a1),.one (.i .i64 a2)])(hc:(zDT a0 a1 a2)=true):∃N,zvM N a0 a1 a2=some [.one (.i .i64 (zuZ a0 a1 a2))]:=by
 refine ⟨0,?_⟩;unfold zvM;refine br (fun _=>?_) (fun _=>br (fun _=>?_) (fun _=>?_))
 all_goals first|rfl|(simp only [*,zuZ,brought,cT,cF]<;>rfl)|simp_all [Ty.cells,zuZ,brought]
theorem zGI:Holds Tryz.prog 34 zqb:=zo znE zD zu zy (zC (by kernel_rfl)) fun avs rs hb h=>by
 unfold zqb at h;split at h
 ·obtain ⟨hc,rfl⟩:=zl h;exact (zd3 zMT zQ9 hc hb :)
 ·cases h
@[simp,reducible] def zD4 (_ _ _:Int):Bool:=true
@[simp,reducible] def zBY (n a b:Int):Int:=brought n a b
def zqH:List AV->Option (Bool×List AV)
 | [.one (.i .i64 b),.one (.i .i64 c),.one (.i .i64 d)]=>some ((zD4 b c d),[.one (.i .i64 (zBY b c d))])
 | _=>none
def zwg (N:Nat)(a0 a1 a2:Int):Option Ans :=
 (cond (ilt a2 a1) (some [(.one (.i .i64 a1))]) (cond (ilt a0 a1) (some [(.one (.i .i64 a1))]) (cond (igt a0 a2) (some [(.one (.i .i64 a2))]) (some [(.one (.i .i64 a0))]))))
theorem zRE (N:Nat)(a0 a1 a2:Int):evalFn (cQ zze zV zK zO) (zB []) N 12 33 [.one (.i .i64 a0),.one (.i .i64 a1),.one (.i .i64 a2)]=zwg N a0 a1 a2:=by kernel_rfl
theorem zNo (a0 a1 a2:Int)(hb:zG big [.one (.i .i64 a0),.one (.i .i64 a1),.one (.i .i64 a2)])(hc:(zD4 a0 a1 a2)=true):∃N,zwg N a0 a1 a2=some [.one (.i .i64 (zBY a0 a1 a2))]:=by
 refine ⟨0,?_⟩;unfold zwg;unfold zBY brought zFt;cases h1:ilt a2 a1<;>cases h2:ilt a0 a1<;>cases h3:igt a0 a2<;>simp [igt] at * <;> omega
theorem zHd:Holds Tryz.prog 33 zqH:=zo znE zD zu zy (zC (by kernel_rfl)) fun avs rs hb h=>by
 unfold zqH at h;split at h
 ·obtain ⟨hc,rfl⟩:=zl h;exact (zd3 zNo zRE hc hb :)
 ·cases h
structure RI (a:List Bare) (i:Nat) (l:List Bare):Prop where
 len:l.length=a.length
 sm:zVJ l
 eq:∀k,i<=k->l[k]?=a[k]?
theorem RI.up {a l:List Bare}{i:Nat}(h:RI a i l)(x:Bare)(hx:SmB x):RI a (i+1) (up l (i:Int) x) :=
 ⟨by rw [zuM];exact h.len,z1o h.sm hx,fun k hk=>by rw [z1J (by omega)];exact h.eq k (by omega)⟩
structure RJ (l:List Bare) (i:Nat) (l':List Bare):Prop where
 len:l'.length=l.length
 sm:SmB (ix l' (i:Int) (Ty.dflt .bare))
 up:∀x,E.up l' (i:Int) x=E.up l (i:Int) x
theorem RJ.next {l l':List Bare}{i:Nat}(h:RJ l i l')(hi:i<l.length)(x:Bare)(hx:SmB x):RJ l i (E.up l' (i:Int) x) :=
 ⟨by rw [zuM];exact h.len,by rw [ze3 (by rw [h.len];exact hi)];exact hx,fun y=>by rw [zCR];exact h.up y⟩
def zPr:zbQ:=[(66,znT)]++z0i
theorem zLX:zbw zPr:=zn zEL zZe
@[simp,reducible] def zs4 (h:Host)(m g:Int):Bool:=pc (zea h)
@[simp,reducible] def zep (h:Host)(m g:Int):Host:=(zbE h m g).1
@[simp,reducible] def zs3 (h:Host)(m g:Int):Bool:=(zbE h m g).2
def znW:List AV->Option (Bool×List AV)
 | [.agg [.s (.sl .int) c,.s .mon d,.s .entry e,.s .entry f],.one (.i .i64 g),.one (.i .i64 h)]=>some ((zs4 (⟨c,d,e,f⟩:Host) g h),[.agg (zA (zep (⟨c,d,e,f⟩:Host) g h)),.one (.b (zs3 (⟨c,d,e,f⟩:Host) g h))])
 | _=>none
@[reducible] def zca (a0:Host)(a1 a2:Int):Int :=
 (zbr (ix (zbl a0 a1).Guests a2 zi))
@[reducible] def zbx (a0:Host)(a1 a2:Int):Int :=
 (zbp (ix (zbl a0 a1).Guests a2 zi))
@[reducible] def zbT (a0:Host)(a1 a2:Int):Host :=
 (zro a0 a1 a2 (zbH (zca a0 a1 a2)) (zcr (ieq (zbx a0 a1 a2) 4)))
@[reducible] def zbJ (a0:Host)(a1 a2:Int):Guest :=
 (ix (ix (zS a0).Mons a1 zf).Guests a2 zi)
@[reducible] def zb1 (x4:List Mon)(a1 a2:Int):Guest :=
 (ix (ix x4 a1 zf).Guests a2 zi)
@[reducible] def zgl (a0:Host)(a1 a2:Int):Int :=
 (zrp a0 a1 a2 (zbH (zca a0 a1 a2)) (zcr (ieq (zbx a0 a1 a2) 4)))
def zjG (N:Nat)(a0:Host)(a1 a2:Int):Option Ans :=
 (cond (zfv (zca a0 a1 a2)) (cond (zmi (ieq (zbx a0 a1 a2) 4)) (cond (zzB a0 a1 a2 (zbH (zca a0 a1 a2)) (zcr (ieq (zbx a0 a1 a2) 4))) (cond (cond (zzA a0 a1 a2 (zbH (zca a0 a1 a2)) (zcr (ieq (zbx a0 a1 a2) 4))) false true) (cond (zfv (zca a0 a1 a2)) (cond (zik (zbH (zca a0 a1 a2)) (ieq (zbx a0 a1 a2) 4)) (cond (zfj (ix (zbl a0 a1).Guests a2 zi) (zdY (zbH (zca a0 a1 a2)) (ieq (zbx a0 a1 a2) 4))) (cond (inb a1 (ln (zbT a0 a1 a2).Mons)) (cond (inb a2 (ln (ix (zbT a0 a1 a2).Mons a1 zf).Guests)) (share (up (zbT a0 a1 a2).Mons a1 ({ (ix (zbT a0 a1 a2).Mons a1 zf) with Guests:=(up (ix (zbT a0 a1 a2).Mons a1 zf).Guests a2 (zdV (ix (zbl a0 a1).Guests a2 zi) (zdY (zbH (zca a0 a1 a2)) (ieq (zbx a0 a1 a2) 4)))) }:Mon)) (fun x4=>(some [(.agg (zA ({ (zbT a0 a1 a2) with Mons:=x4 }:Host))),(.one (.b true))]))) none) none) none) none) none) (cond (ieq (zbx a0 a1 a2) 4) (cond (zfu (zca a0 a1 a2)) (cond (zjn (zbT a0 a1 a2).Memory (zgl a0 a1 a2) (zcl (zca a0 a1 a2)) (ix (zbl a0 a1).Guests a2 zi).A) (cond (zml (ix (zbl a0 a1).Guests a2 zi)) (cond (inb a1 (ln (zbT a0 a1 a2).Mons)) (cond (inb a2 (ln (ix (zbT a0 a1 a2).Mons a1 zf).Guests)) (share (up (zbT a0 a1 a2).Mons a1 ({ (ix (zbT a0 a1 a2).Mons a1 zf) with Guests:=(up (ix (zbT a0 a1 a2).Mons a1 zf).Guests a2 (zh2 (ix (zbl a0 a1).Guests a2 zi))) }:Mon)) (fun x4=>(some [(.agg (zA ({ (zbT a0 a1 a2) with Memory:=(zf1 (zbT a0 a1 a2).Memory (zgl a0 a1 a2) (zcl (zca a0 a1 a2)) (ix (zbl a0 a1).Guests a2 zi).A),Mons:=x4 }:Host))),(.one (.b true))]))) none) none) none) none) none) (cond (zfu (zca a0 a1 a2)) (cond (zmf (zbT a0 a1 a2).Memory (zgl a0 a1 a2) (zcl (zca a0 a1 a2))) (cond (zmh (ix (zbl a0 a1).Guests a2 zi) (zfL (zbT a0 a1 a2).Memory (zgl a0 a1 a2) (zcl (zca a0 a1 a2)))) (cond (inb a1 (ln (zbT a0 a1 a2).Mons)) (cond (inb a2 (ln (ix (zbT a0 a1 a2).Mons a1 zf).Guests)) (share (up (zbT a0 a1 a2).Mons a1 ({ (ix (zbT a0 a1 a2).Mons a1 zf) with Guests:=(up (ix (zbT a0 a1 a2).Mons a1 zf).Guests a2 (zhY (ix (zbl a0 a1).Guests a2 zi) (zfL (zbT a0 a1 a2).Memory (zgl a0 a1 a2) (zcl (zca a0 a1 a2))))) }:Mon)) (fun x4=>(some [(.agg (zA ({ (zbT a0 a1 a2) with Mons:=x4 }:Host))),(.one (.b true))]))) none) none) none) none) none))) none) none) none)
def zjH (N:Nat)(a0:Host)(a1 a2:Int)(x4:List Mon):Option Ans :=
 (cond (zef ({ (zbJ a0 a1 a2) with Prog:=(zb1 x4 a1 a2).Prog,Written:=(zb1 x4 a1 a2).Written,Live:=(zb1 x4 a1 a2).Live,Seen:=(zb1 x4 a1 a2).Seen }:Guest)) (cond (inb a2 (ln (ix x4 a1 zf).Guests)) (share (up x4 a1 ({ (ix x4 a1 zf) with Guests:=(up (ix x4 a1 zf).Guests a2 (zdb ({ (zbJ a0 a1 a2) with Prog:=(zb1 x4 a1 a2).Prog,Written:=(zb1 x4 a1 a2).Written,Live:=(zb1 x4 a1 a2).Live,Seen:=(zb1 x4 a1 a2).Seen }:Guest))) }:Mon)) (fun x5=>(some [(.agg (zA ({ (zS a0) with Mons:=x5 }:Host))),(.one (.b true))]))) none) none)
def zjI (N:Nat)(a0:Host)(a1 a2:Int):Option Ans :=
 (cond (ieq (zbx a0 a1 a2) 7) (cond (zk2 (zbJ a0 a1 a2)) (cond (inb a2 (ln (ix (zS a0).Mons a1 zf).Guests)) (share (up (zS a0).Mons a1 ({ (ix (zS a0).Mons a1 zf) with Guests:=(up (ix (zS a0).Mons a1 zf).Guests a2 (zji (zbJ a0 a1 a2))) }:Mon)) (fun x4=>(some [(.agg (zA ({ (zS a0) with Mons:=x4 }:Host))),(.one (.b true))]))) none) none) (cond (ilt (ln (ix (zS a0).Mons a1 zf).Outs) 40) (cond (zfw (zbJ a0 a1 a2).Prog (zbJ a0 a1 a2).Pc) (cond (few (ln (ap (ix (zS a0).Mons a1 zf).Outs [(zb3 (zbJ a0 a1 a2).Prog (zbJ a0 a1 a2).Pc).X]))) (cond (cond (ieq a1 a1) true false) (share (up (zS a0).Mons a1 ({ (ix (zS a0).Mons a1 zf) with Outs:=(ap (ix (zS a0).Mons a1 zf).Outs [(zb3 (zbJ a0 a1 a2).Prog (zbJ a0 a1 a2).Pc).X]) }:Mon)) (fun x4=>(zjH N a0 a1 a2 x4))) none) none) none) (cond (zef (zbJ a0 a1 a2)) (cond (inb a2 (ln (ix (zS a0).Mons a1 zf).Guests)) (share (up (zS a0).Mons a1 ({ (ix (zS a0).Mons a1 zf) with Guests:=(up (ix (zS a0).Mons a1 zf).Guests a2 (zdb (zbJ a0 a1 a2))) }:Mon)) (fun x4=>(some [(.agg (zA ({ (zS a0) with Mons:=x4 }:Host))),(.one (.b true))]))) none) none)))
def zjJ (N:Nat)(a1:Int)(a0:Host)(a2:Int):Option Ans :=
 (cond (inb a1 (ln (zS a0).Mons)) (cond (inb a2 (ln (ix (zS a0).Mons a1 zf).Guests)) (cond (zmo (zbx a0 a1 a2)) (cond (zwE (ix (zS a0).Mons a1 zf).Traps (zbJ a0 a1 a2).Ctl.Traps (zfP (zbx a0 a1 a2))) (cond (ieq (zjk (ix (zS a0).Mons a1 zf).Traps (zbJ a0 a1 a2).Ctl.Traps (zfP (zbx a0 a1 a2))) 1) (cond (zkB (zbJ a0 a1 a2) (zbx a0 a1 a2)) (cond (inb a2 (ln (ix (zS a0).Mons a1 zf).Guests)) (share (up (zS a0).Mons a1 ({ (ix (zS a0).Mons a1 zf) with Guests:=(up (ix (zS a0).Mons a1 zf).Guests a2 (zg2 (zbJ a0 a1 a2) (zbx a0 a1 a2))) }:Mon)) (fun x4=>(some [(.agg (zA ({ (zS a0) with Mons:=x4 }:Host))),(.one (.b true))]))) none) none) (cond (ieq (zjk (ix (zS a0).Mons a1 zf).Traps (zbJ a0 a1 a2).Ctl.Traps (zfP (zbx a0 a1 a2))) 2) (cond (ilt (ix (zS a0).Mons a1 zf).Own 1000000000) (share (up (zS a0).Mons a1 ({ (ix (zS a0).Mons a1 zf) with Own:=(zq .i64 (ix (zS a0).Mons a1 zf).Own 1) }:Mon)) (fun x4=>(cond (ieq (zbx a0 a1 a2) 7) (cond (zk2 ({ (zbJ a0 a1 a2) with Prog:=(zb1 x4 a1 a2).Prog,Written:=(zb1 x4 a1 a2).Written,Live:=(zb1 x4 a1 a2).Live,Seen:=(zb1 x4 a1 a2).Seen }:Guest)) (cond (inb a2 (ln (ix x4 a1 zf).Guests)) (share (up x4 a1 ({ (ix x4 a1 zf) with Guests:=(up (ix x4 a1 zf).Guests a2 (zji ({ (zbJ a0 a1 a2) with Prog:=(zb1 x4 a1 a2).Prog,Written:=(zb1 x4 a1 a2).Written,Live:=(zb1 x4 a1 a2).Live,Seen:=(zb1 x4 a1 a2).Seen }:Guest))) }:Mon)) (fun x5=>(some [(.agg (zA ({ (zS a0) with Mons:=x5 }:Host))),(.one (.b true))]))) none) none) (cond (ilt (ln (ix x4 a1 zf).Outs) 40) (cond (zfw (zb1 x4 a1 a2).Prog (zbJ a0 a1 a2).Pc) (cond (few (ln (ap (ix x4 a1 zf).Outs [(zb3 (zb1 x4 a1 a2).Prog (zbJ a0 a1 a2).Pc).X]))) (cond (cond (ieq a1 a1) true false) (share (up x4 a1 ({ (ix x4 a1 zf) with Outs:=(ap (ix x4 a1 zf).Outs [(zb3 (zb1 x4 a1 a2).Prog (zbJ a0 a1 a2).Pc).X]) }:Mon)) (fun x5=>(cond (zef ({ (zbJ a0 a1 a2) with Prog:=(ix (ix x5 a1 zf).Guests a2 zi).Prog,Written:=(ix (ix x5 a1 zf).Guests a2 zi).Written,Live:=(ix (ix x5 a1 zf).Guests a2 zi).Live,Seen:=(ix (ix x5 a1 zf).Guests a2 zi).Seen }:Guest)) (cond (inb a2 (ln (ix x5 a1 zf).Guests)) (share (up x5 a1 ({ (ix x5 a1 zf) with Guests:=(up (ix x5 a1 zf).Guests a2 (zdb ({ (zbJ a0 a1 a2) with Prog:=(ix (ix x5 a1 zf).Guests a2 zi).Prog,Written:=(ix (ix x5 a1 zf).Guests a2 zi).Written,Live:=(ix (ix x5 a1 zf).Guests a2 zi).Live,Seen:=(ix (ix x5 a1 zf).Guests a2 zi).Seen }:Guest))) }:Mon)) (fun x6=>(some [(.agg (zA ({ (zS a0) with Mons:=x6 }:Host))),(.one (.b true))]))) none) none))) none) none) none) (zjH N a0 a1 a2 x4))))) (zjI N a0 a1 a2)) (zjI N a0 a1 a2))) none) none) none) none)
def zhz (N:Nat)(a0:Host)(a1 a2:Int):Option Ans :=
 (cond (zzF a0 a1) (cond (zsV (znL a0 a1) a2) (cond (inb a1 (ln (zS a0).Mons)) (share (up (zS a0).Mons a1 ({ (ix (zS a0).Mons a1 zf) with Guests:=(zhD (znL a0 a1) a2).Guests }:Mon)) (fun x4=>(some [(.agg (zA ({ (zS a0) with Mons:=x4 }:Host))),(.one (.b true))]))) none) none) none)
def ze4 (N:Nat)(a0:Host)(a1 a2:Int):Option Ans :=
 (cond (ieq (zbx a0 a1 a2) 5) (cond (ieq (zbx a0 a1 a2) 5) (zjJ N a1 a0 a2) (zhz N a0 a1 a2)) (cond (ieq (zbx a0 a1 a2) 7) (zjJ N a1 a0 a2) (zhz N a0 a1 a2)))
def zsc (N:Nat)(a0:Host)(a1 a2:Int):Option Ans :=
 (cond (zjq a0) (cond (zpi a0 a1) (cond (zrn a0) (cond (cond (zsZ a0) false true) (some [(.agg (zA (zS a0))),(.one (.b false))]) (cond (cond (zjj a0 a1) false true) (some [(.agg (zA (zS a0))),(.one (.b false))]) (cond (zcz a2 (ln (zbl a0 a1).Guests)) (cond (cond (zcS a2 (ln (zbl a0 a1).Guests)) false true) (some [(.agg (zA (zS a0))),(.one (.b false))]) (cond (inb a2 (ln (zbl a0 a1).Guests)) (cond (zh3 (ix (zbl a0 a1).Guests a2 zi)) (cond (ieq (zbx a0 a1 a2) 0) (some [(.agg (zA (zS a0))),(.one (.b false))]) (cond (inb a2 (ln (zbl a0 a1).Guests)) (cond (zh3 (ix (zbl a0 a1).Guests a2 zi)) (cond (zoM (ix (zbl a0 a1).Guests a2 zi)) (cond (ieq (zbx a0 a1 a2) 3) (cond (ieq (zbx a0 a1 a2) 3) (zjG N a0 a1 a2) (ze4 N a0 a1 a2)) (cond (ieq (zbx a0 a1 a2) 4) (zjG N a0 a1 a2) (ze4 N a0 a1 a2))) none) none) none)) none) none)) none))) none) none) none)
theorem zNK (N:Nat)(a0:Host)(a1 a2:Int):evalFn (cQ zPr zV zhM zlp) (zB []) N 12 23 [.agg (zA a0),.one (.i .i64 a1),.one (.i .i64 a2)]=zsc N a0 a1 a2:=by kernel_rfl
theorem zQ7 {h:Host}{m:Int}(hm:hasB m (ln h.Mons)=true):zbl h m=ix h.Mons m mZ:=by
 unfold zbl;rw [hm];rfl
theorem z1N {N:Nat}{a0:Host}{a1 a2:Int}(hs:SmH a0)(hh:zcD a0 a1 a2=true) :
 zjG N a0 a1 a2=some (zdN (zht (zhy a0 a1 a2 (gOf a0 a1 a2) (ieq (zN (gOf a0 a1 a2)) 4)) a1 a2 (gOf a0 a1 a2) (ieq (zN (gOf a0 a1 a2)) 4),true)):=by
 obtain ⟨g1,g2,g3⟩:=zcJ hh;have hx:=ziu hs g2 g3;have k:=zCA (b:=a0.Buffer) (page:=zdw (address (gOf a0 a1 a2))) (need:=zeP (ieq (zN (gOf a0 a1 a2)) 4)) (io:=false) hs hh;have F:=zj2 k g2 g3;have eM:=zQ7 g2;have e3:zbx a0 a1 a2=zN (gOf a0 a1 a2):=by
  show zbp (ix (zbl a0 a1).Guests a2 gZ)=_
  rw [eM];rfl
 have e4:zca a0 a1 a2=address (gOf a0 a1 a2):=by
  show zbr (ix (zbl a0 a1).Guests a2 gZ)=_
  rw [eM];rfl
 have e1:zbT a0 a1 a2=(zhy a0 a1 a2 (gOf a0 a1 a2) (ieq (zN (gOf a0 a1 a2)) 4)).1:=by
  show zro a0 a1 a2 (zbH (zca a0 a1 a2)) (zcr (ieq (zbx a0 a1 a2) 4))=_
  rw [e3,e4];rfl
 have e6:zgl a0 a1 a2=(zhy a0 a1 a2 (gOf a0 a1 a2) (ieq (zN (gOf a0 a1 a2)) 4)).2.1:=by
  show zrp a0 a1 a2 (zbH (zca a0 a1 a2)) (zcr (ieq (zbx a0 a1 a2) 4))=_
  rw [e3,e4];rfl
 unfold zjG;rw [e1,e3,e4,e6,eM];unfold zht;refine must rfl (must rfl (must (zbt ((zbo _).2 hs)) (brN (fun h=>?_) (fun h=>?_))))
 ·rw [show (zhy a0 a1 a2 (gOf a0 a1 a2) (ieq (zN (gOf a0 a1 a2)) 4)).2.2=false from h]
  exact must rfl (must rfl (must (zbt hx) (must (zF F.hm) (must (zF F.hg) rfl))))
 ·rw [show (zhy a0 a1 a2 (gOf a0 a1 a2) (ieq (zN (gOf a0 a1 a2)) 4)).2.2=true from h]
  refine br (fun h4=>?_) (fun h4=>?_)
  ·have kk:=k.shape.1.1;rw [h4] at F kk ⊢;exact must rfl (must (zbt kk) (must (zbt hx) (must (zF F.hm) (must (zF F.hg) rfl))))
  ·rw [h4] at F ⊢;exact must rfl (must rfl (must (zbt hx) (must (zF F.hm) (must (zF F.hg) rfl))))
theorem z2N {N:Nat}{a0:Host}{x4:List Mon}{a1 a2:Int}(hx:SmG (gOf a0 a1 a2))(g3:hasB a2 (ln (ix x4 a1 mZ).Guests)=true)(e:zb1 x4 a1 a2=zbJ a0 a1 a2) :
 zjH N a0 a1 a2 x4=some (zdN (zfF { a0 with Mons:=x4 } a1 a2 (zb7 (gOf a0 a1 a2)),true)):=by
 unfold zjH;rw [e];exact must (zbt hx) (must (zF g3) rfl)
def leftG (x:Guest)(w:Int):Guest:=bif ieq w 7 then held x else zb7 x
def zzT (h:Host)(m:Int)(x:Guest)(w:Int):Host:=bif ieq w 7 then h else zjy h m (zdE x.Prog x.Pc).X
theorem zxI {h:Host}{m:Int}{x:Guest}{w:Int}(hh:ieq w 7=true):leftG x w=held x/\zzT h m x w=h:=by
 unfold leftG zzT;rw [hh];exact ⟨rfl,rfl⟩
theorem zkD {h:Host}{m:Int}{x:Guest}{w:Int}(hh:ieq w 7=false):leftG x w=zb7 x/\zzT h m x w=zjy h m (zdE x.Prog x.Pc).X:=by
 unfold leftG zzT;rw [hh];exact ⟨rfl,rfl⟩
theorem zVj {h:Host}{m n:Int}(hh:ilt (ln (ix h.Mons m mZ).Outs) 40=true):zjy h m n={ h with Mons:=up h.Mons m { ix h.Mons m mZ with Outs:=ap (ix h.Mons m mZ).Outs [n] } }:=by
 unfold zjy;rw [hh];rfl
theorem zVi {h:Host}{m n:Int}(hh:ilt (ln (ix h.Mons m mZ).Outs) 40=false):zjy h m n=h:=by
 unfold zjy;rw [hh];rfl
theorem z2O {N:Nat}{a0:Host}{a1 a2:Int}(hs:SmH a0)(g2:hasB a1 (ln a0.Mons)=true)(g3:hasB a2 (ln (ix a0.Mons a1 mZ).Guests)=true)(eW:zbx a0 a1 a2=zN (gOf a0 a1 a2)) :
 zjI N a0 a1 a2=some (zdN (zfF (zzT a0 a1 (gOf a0 a1 a2) (zN (gOf a0 a1 a2))) a1 a2 (leftG (gOf a0 a1 a2) (zN (gOf a0 a1 a2))),true)):=by
 have hx:=ziu hs g2 g3;unfold zjI;rw [eW];refine br (fun h7=>?_) (fun h7=>br (fun h3=>?_) (fun h3=>?_))
 ·rw [(zxI (x:=gOf a0 a1 a2) (h:=a0) (m:=a1) h7).1,(zxI (x:=gOf a0 a1 a2) h7).2];exact must (zbt hx) (must (zF g3) rfl)
 ·rw [(zkD (x:=gOf a0 a1 a2) (h:=a0) (m:=a1) h7).1,(zkD (x:=gOf a0 a1 a2) h7).2,zVj h3];refine must rfl (must (zOP h3) (must (zHx _) (shr (z2N hx ?_ ?_))))
  ·rw [zmA g2];exact g3
  ·show ix (ix (up a0.Mons a1 _) a1 mZ).Guests a2 gZ=_
   rw [zmA g2]
 ·rw [(zkD (x:=gOf a0 a1 a2) (h:=a0) (m:=a1) h7).1,(zkD (x:=gOf a0 a1 a2) h7).2,zVi h3];exact must (zbt hx) (must (zF g3) rfl)
theorem z16 {h:Host}{m g:Int}{x:Guest}{w:Int}(h6:ieq w 6=false)(h57:ieq w 5=false->ieq w 6=false->ieq w 7=true)(hT:zdl x.Ctl.Traps (zeU w)=false):zi4 h m g x w=zfF (zzT (zfp h m x w) m x w) m g (leftG x w):=by
 unfold zi4;cases h7:ieq w 7
 ·have h5:ieq w 5=true:=by
   cases h5:ieq w 5
   ·have:=h57 h5 h6;rw [h7] at this;cases this
   ·rfl
  obtain ⟨e1,e2⟩:=tr3 x x.Ctl.Traps w h6 h7 hT h5;rw [(zkD (x:=x) (h:=zfp h m x w) (m:=m) h7).1,(zkD (x:=x) h7).2,e1];unfold zie;rw [e2,h5];rfl
 ·have h5:ieq w 5=false:=by
   have:w=7:=of_decide_eq_true h7;rw [this];rfl
  rw [(zxI (x:=x) (h:=zfp h m x w) (m:=m) h7).1,(zxI (x:=x) h7).2,tr4 x x.Ctl.Traps w h6 h57 hT h5,zB9 h5]
theorem z2R {a0:Host}{x5:List Mon}{a1 a2:Int}(hx:SmG (gOf a0 a1 a2))(g3:hasB a2 (ln (ix x5 a1 mZ).Guests)=true)(e:(ix (ix x5 a1 zf).Guests a2 zi)=gOf a0 a1 a2) :
 (cond (zef ({ (ix (ix (zS a0).Mons a1 zf).Guests a2 zi) with Prog:=(ix (ix x5 a1 zf).Guests a2 zi).Prog,Written:=(ix (ix x5 a1 zf).Guests a2 zi).Written,Live:=(ix (ix x5 a1 zf).Guests a2 zi).Live,Seen:=(ix (ix x5 a1 zf).Guests a2 zi).Seen }:Guest)) (cond (inb a2 (ln (ix x5 a1 zf).Guests)) (share (up x5 a1 ({ (ix x5 a1 zf) with Guests:=(up (ix x5 a1 zf).Guests a2 (zdb ({ (ix (ix (zS a0).Mons a1 zf).Guests a2 zi) with Prog:=(ix (ix x5 a1 zf).Guests a2 zi).Prog,Written:=(ix (ix x5 a1 zf).Guests a2 zi).Written,Live:=(ix (ix x5 a1 zf).Guests a2 zi).Live,Seen:=(ix (ix x5 a1 zf).Guests a2 zi).Seen }:Guest))) }:Mon)) (fun x6=>(some [(.agg (zA ({ (zS a0) with Mons:=x6 }:Host))),(.one (.b true))]))) none) none)=some (zdN (zfF { a0 with Mons:=x5 } a1 a2 (zb7 (gOf a0 a1 a2)),true)):=by
 rw [e];exact must (zbt hx) (must (zF g3) rfl)
theorem z2Q {a0:Host}{x4:List Mon}{a1 a2:Int}(hx:SmG (gOf a0 a1 a2))(g2:hasB a1 (ln x4)=true)(g3:hasB a2 (ln (ix x4 a1 mZ).Guests)=true)(e:(ix (ix x4 a1 zf).Guests a2 zi)=gOf a0 a1 a2) :
 (cond (ieq (zN (gOf a0 a1 a2)) 7) (cond (zk2 ({ (ix (ix (zS a0).Mons a1 zf).Guests a2 zi) with Prog:=(ix (ix x4 a1 zf).Guests a2 zi).Prog,Written:=(ix (ix x4 a1 zf).Guests a2 zi).Written,Live:=(ix (ix x4 a1 zf).Guests a2 zi).Live,Seen:=(ix (ix x4 a1 zf).Guests a2 zi).Seen }:Guest)) (cond (inb a2 (ln (ix x4 a1 zf).Guests)) (share (up x4 a1 ({ (ix x4 a1 zf) with Guests:=(up (ix x4 a1 zf).Guests a2 (zji ({ (ix (ix (zS a0).Mons a1 zf).Guests a2 zi) with Prog:=(ix (ix x4 a1 zf).Guests a2 zi).Prog,Written:=(ix (ix x4 a1 zf).Guests a2 zi).Written,Live:=(ix (ix x4 a1 zf).Guests a2 zi).Live,Seen:=(ix (ix x4 a1 zf).Guests a2 zi).Seen }:Guest))) }:Mon)) (fun x5=>(some [(.agg (zA ({ (zS a0) with Mons:=x5 }:Host))),(.one (.b true))]))) none) none) (cond (ilt (ln (ix x4 a1 zf).Outs) 40) (cond (zfw (ix (ix x4 a1 zf).Guests a2 zi).Prog (ix (ix (zS a0).Mons a1 zf).Guests a2 zi).Pc) (cond (few (ln (ap (ix x4 a1 zf).Outs [(zb3 (ix (ix x4 a1 zf).Guests a2 zi).Prog (ix (ix (zS a0).Mons a1 zf).Guests a2 zi).Pc).X]))) (cond (cond (ieq a1 a1) true false) (share (up x4 a1 ({ (ix x4 a1 zf) with Outs:=(ap (ix x4 a1 zf).Outs [(zb3 (ix (ix x4 a1 zf).Guests a2 zi).Prog (ix (ix (zS a0).Mons a1 zf).Guests a2 zi).Pc).X]) }:Mon)) (fun x5=>(cond (zef ({ (ix (ix (zS a0).Mons a1 zf).Guests a2 zi) with Prog:=(ix (ix x5 a1 zf).Guests a2 zi).Prog,Written:=(ix (ix x5 a1 zf).Guests a2 zi).Written,Live:=(ix (ix x5 a1 zf).Guests a2 zi).Live,Seen:=(ix (ix x5 a1 zf).Guests a2 zi).Seen }:Guest)) (cond (inb a2 (ln (ix x5 a1 zf).Guests)) (share (up x5 a1 ({ (ix x5 a1 zf) with Guests:=(up (ix x5 a1 zf).Guests a2 (zdb ({ (ix (ix (zS a0).Mons a1 zf).Guests a2 zi) with Prog:=(ix (ix x5 a1 zf).Guests a2 zi).Prog,Written:=(ix (ix x5 a1 zf).Guests a2 zi).Written,Live:=(ix (ix x5 a1 zf).Guests a2 zi).Live,Seen:=(ix (ix x5 a1 zf).Guests a2 zi).Seen }:Guest))) }:Mon)) (fun x6=>(some [(.agg (zA ({ (zS a0) with Mons:=x6 }:Host))),(.one (.b true))]))) none) none))) none) none) none) (cond (zef ({ (ix (ix (zS a0).Mons a1 zf).Guests a2 zi) with Prog:=(ix (ix x4 a1 zf).Guests a2 zi).Prog,Written:=(ix (ix x4 a1 zf).Guests a2 zi).Written,Live:=(ix (ix x4 a1 zf).Guests a2 zi).Live,Seen:=(ix (ix x4 a1 zf).Guests a2 zi).Seen }:Guest)) (cond (inb a2 (ln (ix x4 a1 zf).Guests)) (share (up x4 a1 ({ (ix x4 a1 zf) with Guests:=(up (ix x4 a1 zf).Guests a2 (zdb ({ (ix (ix (zS a0).Mons a1 zf).Guests a2 zi) with Prog:=(ix (ix x4 a1 zf).Guests a2 zi).Prog,Written:=(ix (ix x4 a1 zf).Guests a2 zi).Written,Live:=(ix (ix x4 a1 zf).Guests a2 zi).Live,Seen:=(ix (ix x4 a1 zf).Guests a2 zi).Seen }:Guest))) }:Mon)) (fun x5=>(some [(.agg (zA ({ (zS a0) with Mons:=x5 }:Host))),(.one (.b true))]))) none) none)))=some (zdN (zfF (zzT { a0 with Mons:=x4 } a1 (gOf a0 a1 a2) (zN (gOf a0 a1 a2))) a1 a2 (leftG (gOf a0 a1 a2) (zN (gOf a0 a1 a2))),true)):=by
 rw [e];refine br (fun h7=>?_) (fun h7=>br (fun h3=>?_) (fun h3=>?_))
 ·rw [(zxI (x:=gOf a0 a1 a2) (h:={ a0 with Mons:=x4 }) (m:=a1) h7).1,(zxI (x:=gOf a0 a1 a2) h7).2];exact must (zbt hx) (must (zF g3) rfl)
 ·rw [(zkD (x:=gOf a0 a1 a2) (h:={ a0 with Mons:=x4 }) (m:=a1) h7).1,(zkD (x:=gOf a0 a1 a2) h7).2,zVj (h:={ a0 with Mons:=x4 }) h3];refine must rfl (must (zOP h3) (must (zHx _) (shr (z2R hx ?_ ?_))))
  ·rw [zmA (h:={ a0 with Mons:=x4 }) g2];exact g3
  ·show ix (ix (up x4 a1 _) a1 mZ).Guests a2 gZ=_
   rw [zmA (h:={ a0 with Mons:=x4 }) g2];exact e
 ·rw [(zkD (x:=gOf a0 a1 a2) (h:={ a0 with Mons:=x4 }) (m:=a1) h7).1,(zkD (x:=gOf a0 a1 a2) h7).2,zVi (h:={ a0 with Mons:=x4 }) h3];exact must (zbt hx) (must (zF g3) rfl)
theorem tf (b:Bool):b=false\/b=true:=by cases b<;>simp
theorem z2P {N:Nat}{a0:Host}{a1 a2:Int}(hs:SmH a0)(g2:hasB a1 (ln a0.Mons)=true)(g3:hasB a2 (ln (ix a0.Mons a1 mZ).Guests)=true)(eW:zbx a0 a1 a2=zN (gOf a0 a1 a2))(h6:ieq (zN (gOf a0 a1 a2)) 6=false)(h57:ieq (zN (gOf a0 a1 a2)) 5=false->ieq (zN (gOf a0 a1 a2)) 6=false->ieq (zN (gOf a0 a1 a2)) 7=true) :
 zjJ N a1 a0 a2=some (zdN (zi4 a0 a1 a2 (gOf a0 a1 a2) (zN (gOf a0 a1 a2)),true)):=by
 have hx:=ziu hs g2 g3;have T3:=z2O (N:=N) hs g2 g3 eW;have hn6:ine (zN (gOf a0 a1 a2)) 6=true:=by rw [zjW,h6];rfl
 unfold zjJ;rw [eW];refine must (zF g2) (must (zF g3) (must rfl (must rfl ?_)));rw [show ieq (zjk (ix a0.Mons a1 zf).Traps (zbJ a0 a1 a2).Ctl.Traps (zfP (zN (gOf a0 a1 a2)))) 1=zdl (gOf a0 a1 a2).Ctl.Traps (zeU (zN (gOf a0 a1 a2))) from z1V _ _ _]
 refine br (fun hT=>?_) (fun hT=>?_)
 ·obtain ⟨e1,e2⟩:=tr2 (gOf a0 a1 a2) (gOf a0 a1 a2).Ctl.Traps _ h6 h57 hT;have e0:zfp a0 a1 (gOf a0 a1 a2) (zN (gOf a0 a1 a2))=a0:=by
   unfold zfp;rw [hn6,z1W hT];rfl
  unfold zi4;rw [e0,zIE e2,e1];exact must (zbt hx) (must (zF g3) rfl)
 ·rw [z16 h6 h57 hT];have e0:zfp a0 a1 (gOf a0 a1 a2) (zN (gOf a0 a1 a2))=bif ieq (ziT (ix a0.Mons a1 mZ).Traps (gOf a0 a1 a2).Ctl.Traps (zeU (zN (gOf a0 a1 a2)))) 2 then owned a0 a1 else a0:=by
   unfold zfp;rw [hn6];rfl
  rw [e0];refine br (fun hO=>?_) (fun hO=>?_)
  ·rw [show ieq (ziT (ix a0.Mons a1 mZ).Traps (gOf a0 a1 a2).Ctl.Traps (zeU (zN (gOf a0 a1 a2)))) 2=true from hO]
   simp only [cT];unfold owned;refine br (fun h0=>?_) (fun h0=>?_)
   rotate_left
   ·rw [h0];exact T3
   rw [h0];refine shr ?_;have eM:=zmA g2 { ix a0.Mons a1 mZ with Own:=zq .i64 (ix a0.Mons a1 mZ).Own 1 };have g2':hasB a1 (ln (up a0.Mons a1 { ix a0.Mons a1 mZ with Own:=zq .i64 (ix a0.Mons a1 mZ).Own 1 }))=true:=zeb g2;have e5:zb1 (up a0.Mons a1 { ix a0.Mons a1 mZ with Own:=zq .i64 (ix a0.Mons a1 mZ).Own 1 }) a1 a2=zbJ a0 a1 a2:=by
    show ix (ix (up a0.Mons a1 _) a1 mZ).Guests a2 gZ=_
    rw [eM]
   refine z2Q hx g2' ?_ e5;rw [eM];exact g3
  ·rw [show ieq (ziT (ix a0.Mons a1 mZ).Traps (gOf a0 a1 a2).Ctl.Traps (zeU (zN (gOf a0 a1 a2)))) 2=false from hO]
   exact T3
theorem zZq {N:Nat}{a0:Host}{a1 a2:Int}(hs:SmH a0)(hh:zcD a0 a1 a2=true)(h0:ieq (zN (gOf a0 a1 a2)) 0=false){y:Guest}{o:List Int}(hy:(stepped (zes a0 a1) a2 (gOf a0 a1 a2) (zN (gOf a0 a1 a2))).Guests=up (ix a0.Mons a1 mZ).Guests a2 y)(hb:SmB (zes a0 a1)) :
 zhz N a0 a1 a2=some (zdN (zfF a0 a1 a2 y,true)):=by
 obtain ⟨g1,g2,g3⟩:=zcJ hh;have hsb:=zSL g1 g2;have eg:(zes a0 a1).Guests=(ix a0.Mons a1 mZ).Guests:=by
  unfold zes;rw [g2];rfl
 have hgg:hasB a2 (ln (zes a0 a1).Guests)=true:=by rw [eg];exact g3
 have eA:gAt (zes a0 a1) a2=gOf a0 a1 a2:=by
  unfold gAt;rw [hgg,eg];rfl
 have hcan:znD (zes a0 a1) a2=true:=by
  unfold znD;rw [hgg,hsb,eA,h0];rfl
 have eS:zi9 (zes a0 a1) a2=stepped (zes a0 a1) a2 (gOf a0 a1 a2) (zN (gOf a0 a1 a2)):=by
  unfold zi9;rw [hcan,eA];rfl
 have hG:(zhD (znL a0 a1) a2).Guests=up (ix a0.Mons a1 mZ).Guests a2 y:=by
  show (zi9 (zes a0 a1) a2).Guests=_
  rw [eS,hy]
 unfold zhz;rw [hG];exact must (zbt ((zbo _).2 hs)) (must (zbt hb) (must (zF g2) rfl))
theorem zZP {h:Host}{m:Int}(hs:SmH h)(hm:hasB m (ln h.Mons)=true):SmB (zes h m):=by
 have g1:=hs.2.1.2 _ (zdd hm mZ);have hP:∀(mm:List (List Int)) (q:Int),SmM mm->(zha mm q).length<=1048576:=fun mm q h=>zR3 h;have hpg:∀p:Int,(zjA h m p).length<=1048576:=by
  intro p;unfold zjA;cases hasB m (ln h.Mons)
  ·exact (by decide:zAm.length<=1048576)
  ·cases hasB p 8
   ·exact (by decide:zAm.length<=1048576)
   ·simp only [cT];cases ine (zdP (ix h.Mons m zf).Outer p).Page (-1)
    ·exact hP _ _ g1.2.1
    ·exact hP _ _ hs.1
 have hN:∀(n i:Nat),∀x∈zjB h m n i,x.length<=1048576:=by
  intro n
  induction n with
  | zero=>intro i x hx;cases hx
  | succ n ih =>
   intro i x hx;rcases List.mem_cons.1 hx with rfl|hx
   ·exact hpg _
   ·exact ih (i+1) x hx
 unfold zes;rw [hm];exact ⟨⟨by show (zjB h m 8 0).length<=1048576;rw [zzW];decide,hN 8 0⟩,g1.2.2.2.1,g1.2.2.2.2.1⟩
theorem zwB (b:Bare)(g:Int)(x:Guest):(znm b g x).Guests=up b.Guests g x:=rfl
theorem zKu (a0:Host)(a1 a2:Int)(hb:zG big [.agg (zA a0),.one (.i .i64 a1),.one (.i .i64 a2)])(hc:(zs4 a0 a1 a2)=true):∃N,zsc N a0 a1 a2=some [.agg (zA (zep a0 a1 a2)),.one (.b (zs3 a0 a1 a2))]:=by
 have hs:=(zbo a0).1 (zJ.1 hc);refine ⟨0,?_⟩
 show _=some (zdN (zbE a0 a1 a2))
 unfold zsc;refine must (zbt ((zbo _).2 hs)) (must (zbt ((zbo _).2 hs)) (must rfl (brN (fun h1=>?_) (fun h1=>brN (fun h2=>?_) (fun h2=>?_)))))
 ·rw [zgp (zCx h1)];rfl
 ·rw [zgp (zI9 h2)];rfl
 have eM:=zQ7 (h:=a0) (m:=a1) h2;have eW:zbx a0 a1 a2=zN (gOf a0 a1 a2):=by
  show zbp (ix (zbl a0 a1).Guests a2 gZ)=_
  rw [eM];rfl
 rw [eM,eW];refine must rfl (brN (fun h3=>?_) (fun h3=>?_))
 ·rw [zgp (zJa h3)];rfl
 have hh:=zJb h1 h2 h3;have g2:hasB a1 (ln a0.Mons)=true:=h2;have g3:hasB a2 (ln (ix a0.Mons a1 mZ).Guests)=true:=h3;have hb:=zZP hs g2;have eg:(zes a0 a1).Guests=(ix a0.Mons a1 mZ).Guests:=by
  unfold zes;rw [g2];rfl
 rw [zhq hh];unfold zIx;refine must (zF g3) (must rfl (br (fun h0=>?_) (fun h0=>must (zF g3) (must rfl (must rfl (br (fun q3=>must q3 ?_) (fun q3=>br (fun q4=>?_) (fun q4=>?_))))))))
 ·rw [h0];rfl
 ·have e:zN (gOf a0 a1 a2)=3:=of_decide_eq_true q3;have T:=z1N (N:=0) hs hh;rw [T];rw [e];rfl
 ·have e:zN (gOf a0 a1 a2)=4:=of_decide_eq_true q4;have T:=z1N (N:=0) hs hh;rw [T];rw [e];rfl
 ·have fin:∀{R:Host×Bool},ze4 0 a0 a1 a2=some (zdN R)->R=(bif ieq (zN (gOf a0 a1 a2)) 0 then (a0,false) else (bif ieq (zN (gOf a0 a1 a2)) 1 then (zfF a0 a1 a2 (interrupted (gOf a0 a1 a2)),true) else (bif ieq (zN (gOf a0 a1 a2)) 2 then (zfF a0 a1 a2 (plainly (gOf a0 a1 a2)),true) else
   (cond (cond (ieq (zN (gOf a0 a1 a2)) 3) true (ieq (zN (gOf a0 a1 a2)) 4)) (zht (zhy a0 a1 a2 (gOf a0 a1 a2) (ieq (zN (gOf a0 a1 a2)) 4)) a1 a2 (gOf a0 a1 a2) (ieq (zN (gOf a0 a1 a2)) 4),true) (zi4 a0 a1 a2 (gOf a0 a1 a2) (zN (gOf a0 a1 a2)),true)))))->ze4 0 a0 a1 a2=_:=fun h e=>h.trans (congrArg (fun x=>some (zdN x)) e)
  have i6:ieq (zN (gOf a0 a1 a2)) 5=false->ieq (zN (gOf a0 a1 a2)) 7=false->ze4 0 a0 a1 a2=zhz 0 a0 a1 a2:=by
   intro h5 h7;unfold ze4;rw [eW];exact zeN h5 (zeN h7 rfl)
  rcases tf (ieq (zN (gOf a0 a1 a2)) 1) with w1|w1
  ·rcases tf (ieq (zN (gOf a0 a1 a2)) 2) with w2|w2
   ·rcases tf (ieq (zN (gOf a0 a1 a2)) 6) with w6|w6
    ·have h57:ieq (zN (gOf a0 a1 a2)) 5=false->ieq (zN (gOf a0 a1 a2)) 6=false->ieq (zN (gOf a0 a1 a2)) 7=true:=fun h5 h6=>zXx _ h0 w1 w2 q3 q4 h5 h6;have T:=z2P (N:=0) hs g2 g3 eW w6 h57;refine fin (R:=(zi4 a0 a1 a2 (gOf a0 a1 a2) (zN (gOf a0 a1 a2)),true)) ?_ (by rw [h0,w1,w2,q3,q4];rfl)
     unfold ze4;rw [eW];cases w5:ieq (zN (gOf a0 a1 a2)) 5
     ·exact zeN rfl (must (h57 w5 w6) T)
     ·exact must rfl (must rfl T)
    ·have e:zN (gOf a0 a1 a2)=6:=of_decide_eq_true w6;refine fin (R:=(zfF a0 a1 a2 (zfq (gOf a0 a1 a2) (gOf a0 a1 a2).Ctl.Traps (zN (gOf a0 a1 a2))),true)) ?_ ?_
     ·rw [i6 (by rw [e];rfl) (by rw [e];rfl)]
      refine zZq (o:=[]) hs hh h0 ?_ hb;unfold stepped zr4;rw [w1,w2,q3,q4,(tr1 (gOf a0 a1 a2) (gOf a0 a1 a2).Ctl.Traps _ w6).2]
      show (znm (zes a0 a1) a2 _).Guests=_
      rw [zwB,eg]
     ·rw [h0,w1,w2,q3,q4];unfold zi4 zfp;rw [zIE (tr1 (gOf a0 a1 a2) (gOf a0 a1 a2).Ctl.Traps _ w6).2,zjW,w6];rfl
   ·have e:zN (gOf a0 a1 a2)=2:=of_decide_eq_true w2;refine fin (R:=(zfF a0 a1 a2 (plainly (gOf a0 a1 a2)),true)) ?_ (by rw [h0,w1,w2];rfl)
    rw [i6 (by rw [e];rfl) (by rw [e];rfl)]
    refine zZq (o:=[]) hs hh h0 ?_ hb;unfold stepped;rw [w1,w2]
    show (znm (zes a0 a1) a2 _).Guests=_
    rw [zwB,eg]
  ·have e:zN (gOf a0 a1 a2)=1:=of_decide_eq_true w1;refine fin (R:=(zfF a0 a1 a2 (interrupted (gOf a0 a1 a2)),true)) ?_ (by rw [h0,w1];rfl)
   rw [i6 (by rw [e];rfl) (by rw [e];rfl)]
   refine zZq (o:=[]) hs hh h0 ?_ hb;unfold stepped;rw [w1]
   show (znm (zes a0 a1) a2 _).Guests=_
   rw [zwB,eg]
theorem zEO:Holds Tryz.prog 23 znW:=zo zLX zD zem zfK (zC (by kernel_rfl)) fun avs rs hb h=>by
 unfold znW at h;split at h
 ·obtain ⟨hc,rfl⟩:=zl h;exact (zd3 zKu zNK hc hb :)
 ·cases h
def z0j:zbQ:=[(23,znW)]++zPr
theorem zZf:zbw z0j:=zn zEO zLX
theorem zpo {α:Type}{m:α->Int}{c:Int}(h:∀x,m x=c):∀l:List α,mcL m l=c*l.length
 | []=>by simp [mcL]
 | x :: l=>by
  simp only [mcL,zpo h l,h x,List.length_cons];rw [Int.natCast_add,Int.mul_add];omega
theorem zWx {h:Host}{n:Int}(h0:0<=n)(h1:n<=1048576)(hp:0<=zfc h n):zrM h<=15728640:=by
 obtain ⟨hle,hw⟩:=zXB h n h0 h1;have hw:=hw hp;omega
section
variable {α:Type} {f:α->Int->α} {nx:α->Int->Int} {m:α->Int}
structure ResK (f:α->Int->α) (nx:α->Int->Int) (m:α->Int) (l:List α) (k:Int):Prop where
 c:0<=k/\k+mcL m l<=mkB
 hc:mkL f nx (mkL f nx l k) k=mkL f nx l k/\0<=k/\k+mcL m (mkL f nx l k)<=mkB
 e:enL nx (mkL f nx l k) k=enL nx l k
 nn:0<=enL nx l k
 v:enL nx l k=k+mcL m l
theorem zXh (h:Mk f nx m)(l:List α)(k:Int)(hk:0<=k)(hl:k+mcL m l<=1000000000000):ResK f nx m l k:=by
 have hB:mkB=4611686018427387904:=rfl;have hn:=zbZ h.nn l;refine ⟨⟨hk,by omega⟩,⟨zic h l k,hk,by rw [zdR h];omega⟩,by rw [zbO h.nx,zbO h.nx,zdR h],by rw [zbO h.nx];omega,zbO h.nx l k⟩
end
def zlE (h:Host)(k:Int):Host:=⟨zfR h.Memory k,zjw h.Mons (zX h.Memory k),zeB h.Buffer (zbX h.Mons (zX h.Memory k)),zeB h.IoBuffer (zbP h.Buffer (zbX h.Mons (zX h.Memory k)))⟩
def zPv (h:Host)(k:Int):Int:=zbP h.IoBuffer (zbP h.Buffer (zbX h.Mons (zX h.Memory k)))
structure HeldH (h:Host) (k:Int):Prop where
 c1:zgO h.Memory k=true
 n1:ilt (zbM h.Memory k) 0=false
 c2:zmt h.Mons (zbM h.Memory k)=true
 n2:ilt (zdz h.Mons (zbM h.Memory k)) 0=false
 c3:zgo h.Buffer (zdz h.Mons (zbM h.Memory k))=true
 n3:ilt (zcK h.Buffer (zdz h.Mons (zbM h.Memory k))) 0=false
 c4:zgo h.IoBuffer (zcK h.Buffer (zdz h.Mons (zbM h.Memory k)))=true
 n4:ilt (zcK h.IoBuffer (zcK h.Buffer (zdz h.Mons (zbM h.Memory k)))) 0=false
def zjv (h:Host)(k:Int):Bool:=pc (HeldH h k)
def zf3 (h:Host)(k:Int):Int:=zcK h.IoBuffer (zcK h.Buffer (zdz h.Mons (zbM h.Memory k)))
def zn9:List AV->Option (Bool×List AV)
 | [.agg [.s (.sl .int) b,.s .mon c,.s .entry d,.s .entry e],.one (.i .i64 f)]=>some ((zjv (⟨b,c,d,e⟩:Host) f),[.one (.i .i64 (zf3 (⟨b,c,d,e⟩:Host) f))])
 | _=>none
def zso (N:Nat)(a0:Host)(a1:Int):Option Ans :=
 (cond (zgO a0.Memory a1) (cond (ilt (zbM a0.Memory a1) 0) (some [(.one (.i .i64 (-1)))]) (cond (zmt a0.Mons (zbM a0.Memory a1)) (cond (ilt (zdz a0.Mons (zbM a0.Memory a1)) 0) (some [(.one (.i .i64 (-1)))]) (cond (zgo a0.Buffer (zdz a0.Mons (zbM a0.Memory a1))) (cond (ilt (zcK a0.Buffer (zdz a0.Mons (zbM a0.Memory a1))) 0) (some [(.one (.i .i64 (-1)))]) (cond (zgo a0.IoBuffer (zcK a0.Buffer (zdz a0.Mons (zbM a0.Memory a1)))) (cond (ilt (zcK a0.IoBuffer (zcK a0.Buffer (zdz a0.Mons (zbM a0.Memory a1)))) 0) (some [(.one (.i .i64 (-1)))]) (some [(.one (.i .i64 (zcK a0.IoBuffer (zcK a0.Buffer (zdz a0.Mons (zbM a0.Memory a1))))))])) none)) none)) none)) none)
theorem zNX (N:Nat)(a0:Host)(a1:Int):evalFn (cQ zfW zV zK zfG) (zB []) N 12 11 [.agg (zA a0),.one (.i .i64 a1)]=zso N a0 a1:=by kernel_rfl
theorem zKI (a0:Host)(a1:Int)(hb:zG big [.agg (zA a0),.one (.i .i64 a1)])(hc:(zjv a0 a1)=true):∃N,zso N a0 a1=some [.one (.i .i64 (zf3 a0 a1))]:=by
 have H:=zJ.1 hc;refine ⟨0,?_⟩;unfold zso;exact must H.c1 (zeN H.n1 (must H.c2 (zeN H.n2 (must H.c3 (zeN H.n3 (must H.c4 (zeN H.n4 rfl)))))))
theorem zE1:Holds Tryz.prog 11 zn9:=zo zdT zD zu zc3 (zC (by kernel_rfl)) fun avs rs hb h=>by
 unfold zn9 at h;split at h
 ·obtain ⟨hc,rfl⟩:=zl h;exact (fin2 zKI zNX hc hb :)
 ·cases h
def z0f:zbQ:=[(11,zn9)]++zfW
theorem zZb:zbw z0f:=zn zE1 zdT
structure ResH (h:Host):Prop where
 c1:zeY h.Memory 1=true
 c2:zhH h.Mons (zX h.Memory 1)=true
 c3:zdH h.Buffer (zbX h.Mons (zX h.Memory 1))=true
 c4:zdH h.IoBuffer (zbP h.Buffer (zbX h.Mons (zX h.Memory 1)))=true
 hc:zjv (zlE h 1) 1=true
 e:zf3 (zlE h 1) 1=zPv h 1
 nn:ilt (zPv h 1) 0=false
theorem z2T {h:Host}(hb:zrM h<=900000000000):ResH h:=by
 unfold zrM at hb;have n1:=zbZ zfV.nn h.Memory;have n2:=zbZ zCd.nn h.Mons;have n3:=zbZ zix.nn h.Buffer;have n4:=zbZ zix.nn h.IoBuffer;have R1:=zXh zfV h.Memory 1 (by omega) (by omega)
 have R2:=zXh zCd h.Mons _ R1.nn (by rw [R1.v];omega)
 have R3:=zXh zix h.Buffer _ R2.nn (by rw [R2.v,R1.v];omega)
 have R4:=zXh zix h.IoBuffer _ R3.nn (by rw [R3.v,R2.v,R1.v];omega)
 have e1:zbM (zlE h 1).Memory 1=zX h.Memory 1:=R1.e;have e2:zdz (zlE h 1).Mons (zX h.Memory 1)=zbX h.Mons (zX h.Memory 1):=R2.e;have e3:zcK (zlE h 1).Buffer (zbX h.Mons (zX h.Memory 1))=zbP h.Buffer (zbX h.Mons (zX h.Memory 1)):=R3.e;have e4:zcK (zlE h 1).IoBuffer (zbP h.Buffer (zbX h.Mons (zX h.Memory 1)))=zPv h 1:=R4.e;have ee:zf3 (zlE h 1) 1=zPv h 1:=by
  unfold zf3;rw [e1,e2,e3,e4]
 refine ⟨zbt R1.c,zbt R2.c,zbt R3.c,zbt R4.c,zbt ⟨zbt R1.hc,?_,?_,?_,?_,?_,?_,?_⟩,ee,zeA R4.nn⟩
 ·rw [e1];exact zeA R1.nn
 ·rw [e1];exact zbt R2.hc
 ·rw [e1,e2];exact zeA R2.nn
 ·rw [e1,e2];exact zbt R3.hc
 ·rw [e1,e2,e3];exact zeA R3.nn
 ·rw [e1,e2,e3];exact zbt R4.hc
 ·rw [e1,e2,e3,e4];exact zeA R4.nn
def zWg:zbQ:=[(34,zqb),(33,zqH)]++z0j
theorem zPs:zbw zWg:=zn zGI (zn zHd zZf)
def cnt (l:List Mon):List Nat:=l.map fun x=>x.Guests.length
theorem z1F {l l':List Mon}(h:zdU l'=zdU l):cnt l'=cnt l:=by
 have e:∀l:List Mon,cnt l=(zdU l).map List.length:=fun l=>by simp [cnt,zdU]
 rw [e,e,h]
theorem zO7 {l:List Mon}{m:Int}{x:Mon}(hm:hasB m (ln l)=true)(hx:x.Guests.length=(ix l m mZ).Guests.length):cnt (up l m x)=cnt l:=by
 obtain ⟨k,rfl,hk⟩:=zej (n:=l.length) hm;unfold cnt up;rw [List.map_set,Int.toNat_natCast,hx,zbq hk];have:=@List.set_getElem_self _ (l.map fun x=>x.Guests.length) k (by simpa using hk)
 simpa using this
theorem zCh {l l':List Mon}(h:cnt l'=cnt l):l'.length=l.length:=by
 have:=congrArg List.length h;simpa [cnt] using this
theorem zXF {l l':List Mon}(h:cnt l'=cnt l)(m:Int):(ix l' m mZ).Guests.length=(ix l m mZ).Guests.length:=by
 have h2:(cnt l')[m.toNat]?=(cnt l)[m.toNat]?:=by rw [h]
 unfold cnt at h2;rw [List.getElem?_map,List.getElem?_map] at h2;unfold ix;simp only [List.getD_eq_getElem?_getD];cases h3:l'[m.toNat]? <;> cases h4:l[m.toNat]? <;> rw [h3,h4] at h2<;>simp at h2 ⊢;exact h2
theorem z06 (h:Host)(m p:Int):(zfe h m p).Memory=h.Memory:=(zfD (zfm h m p) m p noSlot).2
theorem z05 (h:Host):(zds h).Memory=h.Memory:=by
 unfold zds;cases ieq (ln (zcO h)) 0
 ·rfl
 ·exact z06 _ _ _
theorem z04 (m:List (List Int))(p:Int)(c:List Int):(zif m p c).length=m.length:=by
 unfold zif;cases hasB p (ln m)
 ·rfl
 ·cases zc5 c
  ·rfl
  ·simp
theorem z02 (m:List (List Int))(p c v:Int):(zfg m p c v).length=m.length:=by
 unfold zfg;cases zhK m p c
 ·rfl
 ·cases win v 0 99
  ·rfl
  ·simp
theorem zWK (h:Host)(m p:Int):(fetched h m p).Memory.length=h.Memory.length:=by
 unfold fetched zja;rw [(zfD _ _ _ _).2];unfold landing;rw [z04,z05]
theorem zQ6 (h:Host)(m p n:Int):(zj3 h m p n).Memory=h.Memory:=by
 unfold zj3;cases ieq (wand .i64 n 2) 0
 ·unfold opened;cases ieq (wand .i64 (ix (ix (zb6 h m p).Mons m mZ).Outer p sZ).Rights 2) 0
  ·rfl
  ·exact (zfD _ _ _ _).2
 ·rfl
theorem zYc (h:Host)(m p n:Int):(mended h m p n).Memory.length=h.Memory.length:=by
 unfold mended;cases ieq (ix (ix h.Mons m mZ).Outer p sZ).Page (-1)
 ·exact congrArg List.length (zQ6 _ _ _ _)
 ·exact (congrArg List.length (zQ6 _ _ _ _)).trans (zWK _ _ _)
theorem zYd (h:Host)(m g p:Int)(io:Bool):(zOS h m g p io).Memory=h.Memory:=by cases io<;>rfl
theorem zZA (h:Host)(b:List Entry)(m g page need q:Int)(io:Bool):(zhx h b m g page need q io).1.Memory.length=h.Memory.length:=by
 unfold zhx;cases zjP b m g page need
 ·cases zeD h m g page need
  ·exact congrArg List.length (zYd _ _ _ _ _)
  ·exact (congrArg List.length (zYd _ _ _ _ _)).trans (zYc h m q need)
 ·rfl
theorem z03 (h:Host)(b:List Entry)(m g page need:Int)(io:Bool):(lookOf h b m g page need io).1.Memory.length=h.Memory.length:=by
 unfold lookOf;cases zdI h m g page need
 ·rfl
 ·simp only [cT];rw [zZA];cases ieq need 2<;>rfl
structure Keep (h r:Host):Prop where
 shape:Shape r
 cnt:cnt r.Mons=cnt h.Mons
 mem:r.Memory.length=h.Memory.length
theorem Keep.has {h r:Host}(k:Keep h r){m:Int}(hm:hasB m (ln h.Mons)=true):hasB m (ln r.Mons)=true:=by
 rw [ln,zCh k.cnt];exact hm
theorem Keep.hg {h r:Host}(k:Keep h r){m g:Int}(hg:hasB g (ln (ix h.Mons m mZ).Guests)=true):hasB g (ln (ix r.Mons m mZ).Guests)=true:=by
 rw [ln,zXF k.cnt];exact hg
theorem Keep.trans {a b c:Host}(h:Keep a b)(k:Keep b c):Keep a c:=⟨k.shape,k.cnt.trans h.cnt,k.mem.trans h.mem⟩
theorem Keep.rfl' {h:Host}(hs:Shape h):Keep h h:=⟨hs,rfl,rfl⟩
theorem zlA {h:Host}{m g:Int}{x:Guest}(hs:Shape h)(hm:hasB m (ln h.Mons)=true)(hx:SmG x):Keep h (zfF h m g x):=⟨zXo hs hm hx,zO7 hm (by simp),rfl⟩
theorem zBI {h:Host}{b:List Entry}{m g page need:Int}{io:Bool}(hs:SmH h)(hh:zcD h m g=true):Keep h (lookOf h b m g page need io).1:=by
 have k:=zCA (b:=b) (page:=page) (need:=need) (io:=io) hs hh;exact ⟨k.shape,z1F k.gs,z03 _ _ _ _ _ _ _⟩
theorem zXY {h:Host}{p c v:Int}(hs:Shape h):Keep h { h with Memory:=zfg h.Memory p c v }:=⟨zMi hs (zR4 hs.1.1),rfl,z02 _ _ _ _⟩
theorem zWB {h:Host}{m:Int}(hs:Shape h)(hm:hasB m (ln h.Mons)=true):Keep h (owned h m):=by
 obtain ⟨g1,g2⟩:=zck hs hm;unfold owned;cases ilt (ix h.Mons m mZ).Own 1000000000
 ·exact Keep.rfl' hs
 ·exact ⟨zhp hs g1 g2,zO7 hm rfl,rfl⟩
theorem zWA {h:Host}{m n:Int}(hs:Shape h)(hm:hasB m (ln h.Mons)=true):Keep h (zjy h m n):=by
 obtain ⟨g1,g2⟩:=zck hs hm;unfold zjy;cases h3:ilt (ln (ix h.Mons m mZ).Outs) 40
 ·exact Keep.rfl' hs
 ·have h4:=of_decide_eq_true h3;simp only [ln] at h4;refine ⟨zhp hs ⟨g1.1,g1.2.1,g1.2.2.1,g1.2.2.2.1,?_,g1.2.2.2.2.2⟩ g2,zO7 hm rfl,rfl⟩;simp [ap];omega
theorem zX0 {h:Host}{m g:Int}{x:Guest}{w:Int}(hs:Shape h)(hm:hasB m (ln h.Mons)=true)(hx:SmG x):Keep h (zi4 h m g x w):=by
 have k1:Keep h (zfp h m x w):=by
  unfold zfp;cases (cond (ine w 6) (ieq (ziT (ix h.Mons m mZ).Traps x.Ctl.Traps (zeU w)) 2) false)
  ·exact Keep.rfl' hs
  ·exact zWB hs hm
 have k2:Keep (zfp h m x w) (zie (zfp h m x w) m x w):=by
  unfold zie;cases (cond (zgF x.Ctl.Traps w) (ieq w 5) false)
  ·exact Keep.rfl' k1.shape
  ·exact zWA k1.shape (k1.has hm)
 have k3:=k1.trans k2;exact k3.trans (zlA k3.shape (k3.has hm) (zB6 _ _ hx))
theorem zXZ {h:Host}{m g:Int}(hs:SmH h)(hh:zcD h m g=true):Keep h (zbE h m g).1:=by
 obtain ⟨g1,g2,g3⟩:=zcJ hh;have hx:=ziu hs g2 g3;have hS:=(zzv hs g1).1;rw [zhq hh];unfold zIx;cases ieq (zN (gOf h m g)) 0
 ·cases ieq (zN (gOf h m g)) 1
  ·cases ieq (zN (gOf h m g)) 2
   ·cases (cond (ieq (zN (gOf h m g)) 3) true (ieq (zN (gOf h m g)) 4))
    ·exact zX0 hS g2 hx
    ·have k:=zBI (b:=h.Buffer) (page:=zdw (address (gOf h m g))) (need:=zeP (ieq (zN (gOf h m g)) 4)) (io:=false) hs hh
     show Keep h (zht (zhy h m g (gOf h m g) (ieq (zN (gOf h m g)) 4)) m g (gOf h m g) (ieq (zN (gOf h m g)) 4))
     unfold zht;cases (zhy h m g (gOf h m g) (ieq (zN (gOf h m g)) 4)).2.2
     ·exact k.trans (zlA k.shape (k.has g2) hx)
     ·cases ieq (zN (gOf h m g)) 4
      ·have k:=zBI (b:=h.Buffer) (page:=zdw (address (gOf h m g))) (need:=zeP false) (io:=false) hs hh;exact k.trans (zlA k.shape (k.has g2) (zIt _ hx))
      ·have k:=zBI (b:=h.Buffer) (page:=zdw (address (gOf h m g))) (need:=zeP true) (io:=false) hs hh;have k2:=zXY (p:=(zhy h m g (gOf h m g) true).2.1) (c:=zgq (address (gOf h m g))) (v:=(gOf h m g).A) k.shape;have k3:=k.trans k2;exact k3.trans (zlA k3.shape (k3.has g2) (zlJ hx))
   ·exact zlA hS g2 (zD7 hx)
  ·exact zlA hS g2 (zVq hx)
 ·exact Keep.rfl' hS
structure Same (h r:Host):Prop where
 sm:SmH r
 cnt:cnt r.Mons=cnt h.Mons
 mem:r.Memory.length=h.Memory.length
 st:r=h\/Shape r
theorem Same.rfl' {h:Host}(hs:SmH h):Same h h:=⟨hs,rfl,rfl,.inl rfl⟩
theorem Same.trans {a b c:Host}(h:Same a b)(k:Same b c):Same a c:=⟨k.sm,k.cnt.trans h.cnt,k.mem.trans h.mem,by
 rcases k.st with e|e
 ·rw [e];exact h.st
 ·exact .inr e⟩
theorem zYC {h:Host}(m g:Int)(hs:SmH h):Same h (zbE h m g).1:=by
 cases hh:zcD h m g
 ·rw [zgp hh];exact Same.rfl' hs
 ·have k:=zXZ hs hh;exact ⟨k.shape.1,k.cnt,k.mem,.inr k.shape⟩
def tick (t:Int×Host)(m g:Int):Int×Host:=(cond ((zbE t.2 m g).2) (zq .i64 t.1 1) t.1,(zbE t.2 m g).1)
def zjE (m:Int):Nat->Nat->Int×Host->Int×Host
 | 0,_,t=>t
 | n+1,g,t=>zjE m n (g+1) (tick t m (g:Int))
def zkv:List Nat->Nat->Int×Host->Int×Host
 | [],_,t=>t
 | c :: l,m,t=>zkv l (m+1) (zjE (m:Int) c 0 t)
def zgY (h:Host):Int×Host:=zkv (cnt h.Mons) 0 (0,h)
theorem zvD {t:Int×Host}(m g:Int)(hs:SmH t.2):Same t.2 (tick t m g).2:=zYC m g hs
theorem zAg (m:Int):∀(n g:Nat) (t:Int×Host),SmH t.2->Same t.2 (zjE m n g t).2
 | 0,_,_,hs=>Same.rfl' hs
 | n+1,g,t,hs=>(zvD m (g:Int) hs).trans (zAg m n (g+1) _ (zvD m (g:Int) hs).sm)
theorem zMh:∀(l:List Nat) (m:Nat) (t:Int×Host),SmH t.2->Same t.2 (zkv l m t).2
 | [],_,_,hs=>Same.rfl' hs
 | c :: l,m,t,hs=>(zAg (m:Int) c 0 t hs).trans (zMh l (m+1) _ (zAg (m:Int) c 0 t hs).sm)
theorem zXm {h:Host}(hs:SmH h):Same h (zgY h).2:=zMh _ 0 (0,h) hs
def zLB (t:Int×Host):Option Ans:=some [AV.agg (zA t.2),AV.one (.i .i64 t.1)]
@[simp,reducible] def zij (h:Host):Bool:=pc (zea h)
@[simp,reducible] def zbs (h:Host):Host:=(zgY h).2
@[simp,reducible] def zgK (h:Host):Int:=(zgY h).1
def zmH:List AV->Option (Bool×List AV)
 | [.agg [.s (.sl .int) b,.s .mon c,.s .entry d,.s .entry e]]=>some ((zij (⟨b,c,d,e⟩:Host)),[.agg (zA (zbs (⟨b,c,d,e⟩:Host))),.one (.i .i64 (zgK (⟨b,c,d,e⟩:Host)))])
 | _=>none
def zpv (N:Nat)(a0:Host):Option Ans :=
 (cond (zjq a0) (iter (σ:=(Int×(Int×(Int×((List (List Int))×((List Mon)×((List Entry)×((List Entry)×((List (List Int))×((List Mon)×((List Entry)×((List Entry)×((List (List Int))×((List Mon)×((List Entry)×((List Entry)×Unit)))))))))))))))) N (fun r2 s3=>(cond (ilt s3.2.2.1 s3.2.1) (cond (inb s3.2.2.1 (ln s3.2.2.2.2.1)) (iter (σ:=(Int×(Int×(Int×(Int×(Int×(Int×((List (List Int))×((List Mon)×((List Entry)×((List Entry)×((List (List Int))×((List Mon)×((List Entry)×((List Entry)×((List (List Int))×((List Mon)×((List Entry)×((List Entry)×Unit))))))))))))))))))) N (fun r4 s5=>(cond (ilt s5.2.2.2.2.2.1 s5.2.2.2.2.1) (cond (zs4 (⟨s5.2.2.2.2.2.2.2.2.2.2.2.2.2.2.1,s5.2.2.2.2.2.2.2.2.2.2.2.2.2.2.2.1,s5.2.2.2.2.2.2.2.2.2.2.2.2.2.2.2.2.1,s5.2.2.2.2.2.2.2.2.2.2.2.2.2.2.2.2.2.1⟩:Host) s5.2.1 s5.2.2.2.2.2.1) (cond (zs3 (⟨s5.2.2.2.2.2.2.2.2.2.2.2.2.2.2.1,s5.2.2.2.2.2.2.2.2.2.2.2.2.2.2.2.1,s5.2.2.2.2.2.2.2.2.2.2.2.2.2.2.2.2.1,s5.2.2.2.2.2.2.2.2.2.2.2.2.2.2.2.2.2.1⟩:Host) s5.2.1 s5.2.2.2.2.2.1) (r4 ((zq .i64 s5.1 1),(s5.2.1,(s5.2.2.1,(s5.2.2.2.1,(s5.2.2.2.2.1,((zq .i64 s5.2.2.2.2.2.1 1),(s5.2.2.2.2.2.2.1,(s5.2.2.2.2.2.2.2.1,(s5.2.2.2.2.2.2.2.2.1,(s5.2.2.2.2.2.2.2.2.2.1,(s5.2.2.2.2.2.2.2.2.2.2.1,(s5.2.2.2.2.2.2.2.2.2.2.2.1,(s5.2.2.2.2.2.2.2.2.2.2.2.2.1,(s5.2.2.2.2.2.2.2.2.2.2.2.2.2.1,((zep (⟨s5.2.2.2.2.2.2.2.2.2.2.2.2.2.2.1,s5.2.2.2.2.2.2.2.2.2.2.2.2.2.2.2.1,s5.2.2.2.2.2.2.2.2.2.2.2.2.2.2.2.2.1,s5.2.2.2.2.2.2.2.2.2.2.2.2.2.2.2.2.2.1⟩:Host) s5.2.1 s5.2.2.2.2.2.1).Memory,((zep (⟨s5.2.2.2.2.2.2.2.2.2.2.2.2.2.2.1,s5.2.2.2.2.2.2.2.2.2.2.2.2.2.2.2.1,s5.2.2.2.2.2.2.2.2.2.2.2.2.2.2.2.2.1,s5.2.2.2.2.2.2.2.2.2.2.2.2.2.2.2.2.2.1⟩:Host) s5.2.1 s5.2.2.2.2.2.1).Mons,((zep (⟨s5.2.2.2.2.2.2.2.2.2.2.2.2.2.2.1,s5.2.2.2.2.2.2.2.2.2.2.2.2.2.2.2.1,s5.2.2.2.2.2.2.2.2.2.2.2.2.2.2.2.2.1,s5.2.2.2.2.2.2.2.2.2.2.2.2.2.2.2.2.2.1⟩:Host) s5.2.1 s5.2.2.2.2.2.1).Buffer,((zep (⟨s5.2.2.2.2.2.2.2.2.2.2.2.2.2.2.1,s5.2.2.2.2.2.2.2.2.2.2.2.2.2.2.2.1,s5.2.2.2.2.2.2.2.2.2.2.2.2.2.2.2.2.1,s5.2.2.2.2.2.2.2.2.2.2.2.2.2.2.2.2.2.1⟩:Host) s5.2.1 s5.2.2.2.2.2.1).IoBuffer,()))))))))))))))))))) (r4 (s5.1,(s5.2.1,(s5.2.2.1,(s5.2.2.2.1,(s5.2.2.2.2.1,((zq .i64 s5.2.2.2.2.2.1 1),(s5.2.2.2.2.2.2.1,(s5.2.2.2.2.2.2.2.1,(s5.2.2.2.2.2.2.2.2.1,(s5.2.2.2.2.2.2.2.2.2.1,(s5.2.2.2.2.2.2.2.2.2.2.1,(s5.2.2.2.2.2.2.2.2.2.2.2.1,(s5.2.2.2.2.2.2.2.2.2.2.2.2.1,(s5.2.2.2.2.2.2.2.2.2.2.2.2.2.1,((zep (⟨s5.2.2.2.2.2.2.2.2.2.2.2.2.2.2.1,s5.2.2.2.2.2.2.2.2.2.2.2.2.2.2.2.1,s5.2.2.2.2.2.2.2.2.2.2.2.2.2.2.2.2.1,s5.2.2.2.2.2.2.2.2.2.2.2.2.2.2.2.2.2.1⟩:Host) s5.2.1 s5.2.2.2.2.2.1).Memory,((zep (⟨s5.2.2.2.2.2.2.2.2.2.2.2.2.2.2.1,s5.2.2.2.2.2.2.2.2.2.2.2.2.2.2.2.1,s5.2.2.2.2.2.2.2.2.2.2.2.2.2.2.2.2.1,s5.2.2.2.2.2.2.2.2.2.2.2.2.2.2.2.2.2.1⟩:Host) s5.2.1 s5.2.2.2.2.2.1).Mons,((zep (⟨s5.2.2.2.2.2.2.2.2.2.2.2.2.2.2.1,s5.2.2.2.2.2.2.2.2.2.2.2.2.2.2.2.1,s5.2.2.2.2.2.2.2.2.2.2.2.2.2.2.2.2.1,s5.2.2.2.2.2.2.2.2.2.2.2.2.2.2.2.2.2.1⟩:Host) s5.2.1 s5.2.2.2.2.2.1).Buffer,((zep (⟨s5.2.2.2.2.2.2.2.2.2.2.2.2.2.2.1,s5.2.2.2.2.2.2.2.2.2.2.2.2.2.2.2.1,s5.2.2.2.2.2.2.2.2.2.2.2.2.2.2.2.2.1,s5.2.2.2.2.2.2.2.2.2.2.2.2.2.2.2.2.2.1⟩:Host) s5.2.1 s5.2.2.2.2.2.1).IoBuffer,())))))))))))))))))))) none) (r2 (s5.1,(s5.2.2.1,((zq .i64 s5.2.2.2.1 1),(s5.2.2.2.2.2.2.1,(s5.2.2.2.2.2.2.2.1,(s5.2.2.2.2.2.2.2.2.1,(s5.2.2.2.2.2.2.2.2.2.1,(s5.2.2.2.2.2.2.2.2.2.2.1,(s5.2.2.2.2.2.2.2.2.2.2.2.1,(s5.2.2.2.2.2.2.2.2.2.2.2.2.1,(s5.2.2.2.2.2.2.2.2.2.2.2.2.2.1,(s5.2.2.2.2.2.2.2.2.2.2.2.2.2.2.1,(s5.2.2.2.2.2.2.2.2.2.2.2.2.2.2.2.1,(s5.2.2.2.2.2.2.2.2.2.2.2.2.2.2.2.2.1,(s5.2.2.2.2.2.2.2.2.2.2.2.2.2.2.2.2.2.1,())))))))))))))))))) (s3.1,(s3.2.2.1,(s3.2.1,(s3.2.2.1,((ln (ix s3.2.2.2.2.1 s3.2.2.1 zf).Guests),(0,(s3.2.2.2.1,(s3.2.2.2.2.1,(s3.2.2.2.2.2.1,(s3.2.2.2.2.2.2.1,(s3.2.2.2.2.2.2.2.1,(s3.2.2.2.2.2.2.2.2.1,(s3.2.2.2.2.2.2.2.2.2.1,(s3.2.2.2.2.2.2.2.2.2.2.1,(s3.2.2.2.2.2.2.2.2.2.2.2.1,(s3.2.2.2.2.2.2.2.2.2.2.2.2.1,(s3.2.2.2.2.2.2.2.2.2.2.2.2.2.1,(s3.2.2.2.2.2.2.2.2.2.2.2.2.2.2.1,()))))))))))))))))))) none) (some [(.agg (zA (⟨s3.2.2.2.2.2.2.2.2.2.2.2.1,s3.2.2.2.2.2.2.2.2.2.2.2.2.1,s3.2.2.2.2.2.2.2.2.2.2.2.2.2.1,s3.2.2.2.2.2.2.2.2.2.2.2.2.2.2.1⟩:Host))),(.one (.i .i64 s3.1))]))) (0,((ln a0.Mons),(0,(a0.Memory,(a0.Mons,(a0.Buffer,(a0.IoBuffer,([],([],([],([],((zS a0).Memory,((zS a0).Mons,((zS a0).Buffer,((zS a0).IoBuffer,())))))))))))))))) none)
def zIF:FuncId->Nat->Option Tmpl:=zB [(8,0,{ n:=43,tm:=[(1,.lp 0 0),(2,.lp 1 0),(4,.lp 2 0),(5,.i .i64),(14,.i .i64),(15,.i .i64)],lo:=[(0,[.sl 0 [],.sl 1 [],.sl 2 [],.sl 3 []]),(1,[.sl 4 [],.sl 5 [],.sl 6 [],.sl 7 []]),(2,[.sl 8 [],.sl 9 [],.sl 10 [],.sl 11 []])],ro:=[(0,(.sl .int),false),(1,.mon,false),(2,.entry,false),(3,.entry,false),(4,(.sl .int),true),(5,.mon,true),(6,.entry,true),(7,.entry,true),(8,(.sl .int),true),(9,.mon,true),(10,.entry,true),(11,.entry,true)] }),(8,2,{ n:=43,tm:=[(1,.lp 0 0),(2,.lp 1 0),(4,.lp 2 0),(5,.i .i64),(6,.i .i64),(14,.i .i64),(15,.i .i64),(24,.i .i64),(25,.i .i64)],lo:=[(0,[.sl 0 [],.sl 1 [],.sl 2 [],.sl 3 []]),(1,[.sl 4 [],.sl 5 [],.sl 6 [],.sl 7 []]),(2,[.sl 8 [],.sl 9 [],.sl 10 [],.sl 11 []])],ro:=[(0,(.sl .int),false),(1,.mon,false),(2,.entry,false),(3,.entry,false),(4,(.sl .int),true),(5,.mon,true),(6,.entry,true),(7,.entry,true),(8,(.sl .int),true),(9,.mon,true),(10,.entry,true),(11,.entry,true)] })]
theorem zK5 (N:Nat)(a0:Host):evalFn (cQ zWg zV zhM zlp) zIF N 12 8 [.agg (zA a0)]=zpv N a0:=by kernel_rfl
theorem zO6 {l:List Mon}{i:Nat}(hi:i<l.length):(cnt l).drop i=(ix l (i:Int) mZ).Guests.length :: (cnt l).drop (i+1):=by
 have hi':i<(cnt l).length:=by simpa [cnt] using hi
 rw [List.drop_eq_getElem_cons hi',zbq hi];simp [cnt]
theorem cnt_end (l:List Mon):(cnt l).drop l.length=[]:=List.drop_eq_nil_of_le (by simp [cnt])
theorem zHF (a0:Host)(hb:zG big [.agg (zA a0)])(hc:(zij a0)=true):∃N,zpv N a0=some [.agg (zA (zbs a0)),.one (.i .i64 (zgK a0))]:=by
 have hs:=(zbo a0).1 (zJ.1 hc);have hl:=zcA hs.2.1.1;refine ⟨NN,?_⟩;have hNN:∀{n:Nat},n<=big->n<NN:=fun h=>zb8 h;generalize NN=N at hNN ⊢;unfold zpv;refine must (zbt ((zbo _).2 hs)) ?_
 show _=zLB (zgY a0)
 refine (zxz a0.Mons.length (fun i (t:Int×Host)=>(t.1,(ln a0.Mons,((i:Int),(a0.Memory,(a0.Mons,(a0.Buffer,(a0.IoBuffer,([],([],([],([],(t.2.Memory,(t.2.Mons,(t.2.Buffer,(t.2.IoBuffer,())))))))))))))))) _
  (fun _ t=>SmH t.2) (fun i t=>zLB (zkv ((cnt a0.Mons).drop i) i t)) (fun i t rec hi hI hr=>?_) (fun t rec hI=>?_) N 0 (0,a0) hs (Nat.zero_le _) (hNN hl.1)).trans rfl
 ·have hg:(ix a0.Mons (i:Int) mZ).Guests.length<=big:=by rw [zbq hi];exact (zcA (hs.2.1.2 _ (List.getElem_mem hi)).2.2.2.1.1).1
  refine must (zbv hi) (must (zbg hi) ?_);rw [zO6 hi];refine (zxz (ix a0.Mons (i:Int) mZ).Guests.length (fun j (t:Int×Host)=>(t.1,((i:Int),(ln a0.Mons,((i:Int),(ln (ix a0.Mons (i:Int) mZ).Guests,((j:Int),(a0.Memory,(a0.Mons,(a0.Buffer,(a0.IoBuffer,([],([],([],([],(t.2.Memory,(t.2.Mons,(t.2.Buffer,(t.2.IoBuffer,()))))))))))))))))))) _
   (fun _ t=>SmH t.2) (fun j t=>zLB (zkv ((cnt a0.Mons).drop (i+1)) (i+1) (zjE (i:Int) ((ix a0.Mons (i:Int) mZ).Guests.length-j) j t))) (fun j t rec1 hj hJ hr1=>?_) (fun t rec1 hJ=>?_) N 0 t hI (Nat.zero_le _) (hNN hg)).trans rfl
  ·have e:(ix a0.Mons (i:Int) mZ).Guests.length-j=((ix a0.Mons (i:Int) mZ).Guests.length-(j+1))+1:=by omega
   have q:=hr1 (tick t (i:Int) (j:Int)) (zvD (i:Int) (j:Int) hJ).sm;refine must (zbv hj) (must (zbt ((zbo _).2 hJ)) ?_);rw [e];simp only [zjE,zbf hj hg];rw [<- q];unfold tick;refine br (fun h=>?_) (fun h=>?_)
   ·rw [show (zbE t.2 (i:Int) (j:Int)).2=true from h]
    rfl
   ·rw [show (zbE t.2 (i:Int) (j:Int)).2=false from h]
    rfl
  ·refine zeN zbj ?_;simp only [Nat.sub_self,zjE,zbf hi hl.1];exact hr t hJ
 ·refine zeN zbj ?_;rw [cnt_end];rfl
theorem zCV:Holds Tryz.prog 8 zmH:=zo zPs zD zem zfK (zC (by kernel_rfl)) fun avs rs hb h=>by
 unfold zmH at h;split at h
 ·obtain ⟨hc,rfl⟩:=zl h;exact (fin1 zHF zK5 hc hb :)
 ·cases h
@[simp,reducible] def zkV (h:Host):Bool:=pc (zea h)
@[simp,reducible] def zew (h:Host):Host:=(zgY h).2
@[simp,reducible] def zgR (h:Host):Int:=(zgY h).1
def zmX:List AV->Option (Bool×List AV)
 | [.agg [.s (.sl .int) b,.s .mon c,.s .entry d,.s .entry e]]=>some ((zkV (⟨b,c,d,e⟩:Host)),[.agg (zA (zew (⟨b,c,d,e⟩:Host))),.one (.i .i64 (zgR (⟨b,c,d,e⟩:Host)))])
 | _=>none
def zpU (N:Nat)(a0:Host):Option Ans :=
 (cond (zer a0) (iter (σ:=(Int×(Int×((List (List Int))×((List Mon)×((List Entry)×((List Entry)×((List (List Int))×((List Mon)×((List Entry)×((List Entry)×Unit))))))))))) N (fun r2 s3=>(cond (ilt s3.2.1 (ln s3.2.2.2.1)) (cond (inb s3.2.1 (ln s3.2.2.2.1)) (iter (σ:=(Int×(Int×(Int×(Int×((List (List Int))×((List Mon)×((List Entry)×((List Entry)×((List (List Int))×((List Mon)×((List Entry)×((List Entry)×Unit))))))))))))) N (fun r4 s5=>(cond (ilt s5.2.2.2.1 s5.2.2.1) (cond (zeq (⟨s5.2.2.2.2.1,s5.2.2.2.2.2.1,s5.2.2.2.2.2.2.1,s5.2.2.2.2.2.2.2.1⟩:Host) s5.2.1 s5.2.2.2.1) (cond (zB0 (⟨s5.2.2.2.2.1,s5.2.2.2.2.2.1,s5.2.2.2.2.2.2.1,s5.2.2.2.2.2.2.2.1⟩:Host) s5.2.1 s5.2.2.2.1) (r4 ((zq .i64 s5.1 1),(s5.2.1,(s5.2.2.1,((zq .i64 s5.2.2.2.1 1),((zeQ (⟨s5.2.2.2.2.1,s5.2.2.2.2.2.1,s5.2.2.2.2.2.2.1,s5.2.2.2.2.2.2.2.1⟩:Host) s5.2.1 s5.2.2.2.1).Memory,((zeQ (⟨s5.2.2.2.2.1,s5.2.2.2.2.2.1,s5.2.2.2.2.2.2.1,s5.2.2.2.2.2.2.2.1⟩:Host) s5.2.1 s5.2.2.2.1).Mons,((zeQ (⟨s5.2.2.2.2.1,s5.2.2.2.2.2.1,s5.2.2.2.2.2.2.1,s5.2.2.2.2.2.2.2.1⟩:Host) s5.2.1 s5.2.2.2.1).Buffer,((zeQ (⟨s5.2.2.2.2.1,s5.2.2.2.2.2.1,s5.2.2.2.2.2.2.1,s5.2.2.2.2.2.2.2.1⟩:Host) s5.2.1 s5.2.2.2.1).IoBuffer,(s5.2.2.2.2.2.2.2.2.1,(s5.2.2.2.2.2.2.2.2.2.1,(s5.2.2.2.2.2.2.2.2.2.2.1,(s5.2.2.2.2.2.2.2.2.2.2.2.1,()))))))))))))) (r4 (s5.1,(s5.2.1,(s5.2.2.1,((zq .i64 s5.2.2.2.1 1),((zeQ (⟨s5.2.2.2.2.1,s5.2.2.2.2.2.1,s5.2.2.2.2.2.2.1,s5.2.2.2.2.2.2.2.1⟩:Host) s5.2.1 s5.2.2.2.1).Memory,((zeQ (⟨s5.2.2.2.2.1,s5.2.2.2.2.2.1,s5.2.2.2.2.2.2.1,s5.2.2.2.2.2.2.2.1⟩:Host) s5.2.1 s5.2.2.2.1).Mons,((zeQ (⟨s5.2.2.2.2.1,s5.2.2.2.2.2.1,s5.2.2.2.2.2.2.1,s5.2.2.2.2.2.2.2.1⟩:Host) s5.2.1 s5.2.2.2.1).Buffer,((zeQ (⟨s5.2.2.2.2.1,s5.2.2.2.2.2.1,s5.2.2.2.2.2.2.1,s5.2.2.2.2.2.2.2.1⟩:Host) s5.2.1 s5.2.2.2.1).IoBuffer,(s5.2.2.2.2.2.2.2.2.1,(s5.2.2.2.2.2.2.2.2.2.1,(s5.2.2.2.2.2.2.2.2.2.2.1,(s5.2.2.2.2.2.2.2.2.2.2.2.1,())))))))))))))) none) (r2 (s5.1,((zq .i64 s5.2.1 1),(s5.2.2.2.2.1,(s5.2.2.2.2.2.1,(s5.2.2.2.2.2.2.1,(s5.2.2.2.2.2.2.2.1,(s5.2.2.2.2.2.2.2.2.1,(s5.2.2.2.2.2.2.2.2.2.1,(s5.2.2.2.2.2.2.2.2.2.2.1,(s5.2.2.2.2.2.2.2.2.2.2.2.1,()))))))))))))) (s3.1,(s3.2.1,((ln (ix s3.2.2.2.1 s3.2.1 zf).Guests),(0,(s3.2.2.1,(s3.2.2.2.1,(s3.2.2.2.2.1,(s3.2.2.2.2.2.1,(s3.2.2.2.2.2.2.1,(s3.2.2.2.2.2.2.2.1,(s3.2.2.2.2.2.2.2.2.1,(s3.2.2.2.2.2.2.2.2.2.1,()))))))))))))) none) (some [(.agg (zA (⟨s3.2.2.1,s3.2.2.2.1,s3.2.2.2.2.1,s3.2.2.2.2.2.1⟩:Host))),(.one (.i .i64 s3.1))]))) (0,(0,((zh a0).Memory,((zh a0).Mons,((zh a0).Buffer,((zh a0).IoBuffer,([],([],([],([],()))))))))))) none)
def zIN:FuncId->Nat->Option Tmpl:=zB [(6,0,{ n:=42,tm:=[(1,.lp 0 0),(2,.lp 1 0),(4,.i .i64),(5,.i .i64)],lo:=[(0,[.sl 0 [],.sl 1 [],.sl 2 [],.sl 3 []]),(1,[.sl 4 [],.sl 5 [],.sl 6 [],.sl 7 []])],ro:=[(0,(.sl .int),true),(1,.mon,true),(2,.entry,true),(3,.entry,true),(4,(.sl .int),true),(5,.mon,true),(6,.entry,true),(7,.entry,true)] }),(6,2,{ n:=42,tm:=[(1,.lp 0 0),(2,.lp 1 0),(4,.i .i64),(5,.i .i64),(6,.i .i64),(7,.i .i64)],lo:=[(0,[.sl 0 [],.sl 1 [],.sl 2 [],.sl 3 []]),(1,[.sl 4 [],.sl 5 [],.sl 6 [],.sl 7 []])],ro:=[(0,(.sl .int),true),(1,.mon,true),(2,.entry,true),(3,.entry,true),(4,(.sl .int),true),(5,.mon,true),(6,.entry,true),(7,.entry,true)] })]
theorem zLo (N:Nat)(a0:Host):evalFn (cQ zWg zV zhM zlp) zIN N 12 6 [.agg (zA a0)]=zpU N a0:=by kernel_rfl
theorem zHY (a0:Host)(hb:zG big [.agg (zA a0)])(hc:(zkV a0)=true):∃N,zpU N a0=some [.agg (zA (zew a0)),.one (.i .i64 (zgR a0))]:=by
 have hs:=(zbo a0).1 (zJ.1 hc);have hl:=zcA hs.2.1.1;refine ⟨NN,?_⟩;have hNN:∀{n:Nat},n<=big->n<NN:=fun h=>zb8 h;generalize NN=N at hNN ⊢;unfold zpU;refine must (zbt ((zbo _).2 hs)) ?_
 show _=zLB (zgY a0)
 refine (zxz a0.Mons.length (fun i (t:Int×Host)=>(t.1,((i:Int),(t.2.Memory,(t.2.Mons,(t.2.Buffer,(t.2.IoBuffer,([],([],([],([],()))))))))))) _
  (fun _ t=>Same a0 t.2) (fun i t=>zLB (zkv ((cnt a0.Mons).drop i) i t)) (fun i t rec hi hI hr=>?_) (fun t rec hI=>?_) N 0 (0,a0) (Same.rfl' hs) (Nat.zero_le _) (hNN hl.1)).trans rfl
 ·have hlen:=zCh hI.cnt;have hi':i<t.2.Mons.length:=by rw [hlen];exact hi
  have hgl:(ix t.2.Mons (i:Int) mZ).Guests.length=(ix a0.Mons (i:Int) mZ).Guests.length:=zXF hI.cnt _;have hg:(ix a0.Mons (i:Int) mZ).Guests.length<=big:=by rw [zbq hi];exact (zcA (hs.2.1.2 _ (List.getElem_mem hi)).2.2.2.1.1).1
  refine must (zbv hi') (must (zbg hi') ?_);rw [zO6 hi]
  show iter N _ (t.1,((i:Int),(((ix t.2.Mons (i:Int) mZ).Guests.length:Int),(0,_))))=_
  rw [hgl];refine (zxz (ix a0.Mons (i:Int) mZ).Guests.length (fun j (t:Int×Host)=>(t.1,((i:Int),(((ix a0.Mons (i:Int) mZ).Guests.length:Int),((j:Int),(t.2.Memory,(t.2.Mons,(t.2.Buffer,(t.2.IoBuffer,([],([],([],([],()))))))))))))) _
   (fun _ t=>Same a0 t.2) (fun j t=>zLB (zkv ((cnt a0.Mons).drop (i+1)) (i+1) (zjE (i:Int) ((ix a0.Mons (i:Int) mZ).Guests.length-j) j t))) (fun j t rec1 hj hJ hr1=>?_) (fun t rec1 hJ=>?_) N 0 t hI (Nat.zero_le _) (hNN hg)).trans rfl
  ·have e:(ix a0.Mons (i:Int) mZ).Guests.length-j=((ix a0.Mons (i:Int) mZ).Guests.length-(j+1))+1:=by omega
   have q:=hr1 (tick t (i:Int) (j:Int)) (hJ.trans (zvD (i:Int) (j:Int) hJ.sm));refine must (decide_eq_true (show (j:Int)<((ix a0.Mons (i:Int) mZ).Guests.length:Int) by omega)) (must (zbt ((zbo _).2 hJ.sm)) ?_)
   rw [e];simp only [zjE,zbf hj hg];rw [<- q];unfold tick;refine br (fun h=>?_) (fun h=>?_)
   ·rw [show (zbE t.2 (i:Int) (j:Int)).2=true from h]
    rfl
   ·rw [show (zbE t.2 (i:Int) (j:Int)).2=false from h]
    rfl
  ·refine zeN (decide_eq_false (show ¬ (((ix a0.Mons (i:Int) mZ).Guests.length:Int)<((ix a0.Mons (i:Int) mZ).Guests.length:Int)) by omega)) ?_
   simp only [Nat.sub_self,zjE,zbf hi hl.1];exact hr t hJ
 ·have hlen:=zCh hI.cnt;refine zeN ?_ ?_
  ·show ilt ((a0.Mons.length:Nat):Int) (ln t.2.Mons)=false
   rw [ln,hlen];exact decide_eq_false (by omega)
  ·rw [cnt_end];rfl
theorem zDe:Holds Tryz.prog 6 zmX:=zo zPs zD zem zfK (zC (by kernel_rfl)) fun avs rs hb h=>by
 unfold zmX at h;split at h
 ·obtain ⟨hc,rfl⟩:=zl h;exact (fin1 zHY zLo hc hb :)
 ·cases h
theorem zCE {α:Type}{m:α->Int}{k:Int}:∀{l:List α},(∀x∈l,m x<=k)->mcL m l<=k*l.length
 | [],_=>by simp [mcL]
 | x :: l,h=>by
  have h1:=zCE (l:=l) (fun y hy=>h y (by simp [hy]))
  have h2:=h x (by simp)
  simp only [mcL,List.length_cons,Int.natCast_add,Int.mul_add];omega
theorem zIS {l:List Int}(h:l.length<=1048576):zh9 l<=1048576:=by
 unfold zh9;rw [zVf];omega
theorem zCT {l:List Slot}(h:l.length<=1048576):mcL zf4 l<=2097152:=by
 rw [zpo (m:=zf4) (c:=2) (fun _=>rfl)];omega
theorem z2C {l:List Ins}(h:l.length<=1048576):mcL znP l<=2097152:=by
 rw [zpo (m:=znP) (c:=2) (fun _=>rfl)];omega
theorem zVG {l:List Bool}(h:l.length<=1048576):mcL zi0 l<=1048576:=by
 rw [zpo (m:=zi0) (c:=1) (fun _=>rfl)];omega
theorem zMo {l:List Entry}(h:l.length<=1048576):mcL zgx l<=4194304:=by
 rw [zpo (m:=zgx) (c:=4) (fun _=>rfl)];omega
theorem z1r {g:Guest}(h:SmG g):zfC g<=8388608:=by
 have h1:=z2C h.1;have h2:=zCT h.2.1;have h3:=zCT h.2.2.1;have h4:=zIS h.2.2.2;unfold zh9 at h4;unfold zfC;omega
theorem z2a {k:Kept}(h:SmK k):zg9 k<=3145728:=by
 have h1:=zVG h.1;have h2:=zCT h.2;unfold zg9;omega
theorem z2D {x:Mon}(h:zl1 x)(hs:ShM x)(hg:x.Guests.length<=2):zjx x<=67108864:=by
 have h1:=zCT h.1;have h2:=zCE (m:=zh9) (l:=x.Out) (k:=1048576) (fun y hy=>zIS (h.2.1.2 y hy));have h3:=zVG h.2.2.1;have h4:=zCE (m:=zfC) (l:=x.Guests) (k:=8388608) (fun y hy=>z1r (h.2.2.2.1.2 y hy));have h5:=zIS h.2.2.2.2.1;have h6:=zCE (m:=zg9) (l:=x.Tables) (k:=3145728) (fun y hy=>z2a (h.2.2.2.2.2.2 y hy));rw [hs.2.1] at h2;have h7:x.Tables.length<=2:=by rw [hs.2.2.2];exact hg
 unfold zh9 at h5;unfold zjx;omega
theorem z19 {h:Host}(hs:Shape h)(hm:h.Memory.length=12)(hl:h.Mons.length<=3)(hg:∀x∈h.Mons,x.Guests.length<=2):zrM h<=900000000000:=by
 have h1:=zCE (m:=zh9) (l:=h.Memory) (k:=1048576) (fun y hy=>zIS (hs.1.1.2 y hy));have h2:=zCE (m:=zjx) (l:=h.Mons) (k:=67108864) (fun y hy=>z2D (hs.1.2.1.2 y hy) (hs.2 y hy) (hg y hy));have h3:=zMo hs.1.2.2.1;have h4:=zMo hs.1.2.2.2;rw [hm] at h1;unfold zrM;omega
theorem cnt_le {l l':List Mon}{k:Nat}(h:cnt l'=cnt l)(hl:∀x∈l,x.Guests.length<=k):∀x∈l',x.Guests.length<=k:=by
 intro x hx;have:x.Guests.length∈cnt l':=List.mem_map.2 ⟨x,hx,rfl⟩;rw [h] at this;obtain ⟨y,hy,e⟩:=List.mem_map.1 this;rw [<- e];exact hl y hy
theorem z2c {h r:Host}(hb:zrM h<=15728640)(hs:SmH h)(S:Same h r)(hr:zdm h=false->r=h):zrM r<=900000000000:=by
 cases hh:zdm h
 ·rw [hr hh];omega
 ·rcases S.st with e|e
  ·rw [e];omega
  ·have hlen:h.Mons.length<=3:=by
    have hh2:=hh;unfold zdm at hh2;simp only [zdk] at hh2;have:=(zfT.1 hh2.2.1).2;simp only [ln] at this;omega
   have hg:∀x∈h.Mons,x.Guests.length<=2:=fun x hx=>by
    have hk:=zhj hh x hx;unfold zeg at hk;simp only [zdk] at hk;have:=(zfT.1 hk.1).2;simp only [ln] at this;omega
   exact z19 e (S.mem.trans (zHv hh)) (by rw [zCh S.cnt];exact hlen) (cnt_le S.cnt hg)
theorem zEc {h:Host}(hh:zdm h=false)(m:Int)(c:Int):∀(n g:Nat),zjE m n g (c,h)=(c,h)
 | 0,_=>rfl
 | n+1,g=>by
  have:zbE h m (g:Int)=(h,false):=zgp (zCx hh);simp only [zjE,tick,this,cF];exact zEc hh m c n (g+1)
theorem zIy {h:Host}(hh:zdm h=false)(c:Int):∀(l:List Nat) (m:Nat),zkv l m (c,h)=(c,h)
 | [],_=>rfl
 | k :: l,m=>by
  simp only [zkv,zEc hh (m:Int) c k 0];exact zIy hh c l (m+1)
theorem zQ4 {α β:Type}{f:α->β}{l:List α}{x:β}{xs:List β}(h:l.map f=x :: xs):∃a r,l=a :: r/\f a=x/\r.map f=xs:=by
 cases l with
 | nil=>cases h
 | cons a r =>
  simp only [List.map_cons,List.cons.injEq] at h;exact ⟨a,r,rfl,h.1,h.2⟩
theorem z14 {a:AV}{tys:List CTy}(h:some a.sh=some (true,tys)):∃cs,a = .agg cs/\cs.map CV.ty=tys:=by
 cases a with
 | one c=>simp [AV.sh] at h
 | agg l =>
  simp only [AV.sh,Option.some.injEq,Prod.mk.injEq,true_and] at h;exact ⟨l,rfl,h⟩
theorem z1l {a:AV}(h:some a.sh=some (true,[.s (.sl .int),.s .mon,.s .entry,.s .entry])):∃x:Host,a = .agg (zA x):=by
 obtain ⟨cs,rfl,hc⟩:=z14 h;obtain ⟨m,r1,rfl,h1⟩:=ztg hc;obtain ⟨n,r2,rfl,h2⟩:=ztg h1;obtain ⟨b,r3,rfl,h3⟩:=ztg h2;obtain ⟨i,r4,rfl,h4⟩:=ztg h3;cases List.map_eq_nil_iff.1 h4;exact ⟨⟨m,n,b,i⟩,rfl⟩
section
open Go Go.ChangeShapes Go.WideShapes Go.ChangeAt
def z0h:zbQ:=[(8,zmH),(6,zmX)]++z0f
theorem zZd:zbw z0h:=zn zCV (zn zDe zZb)
def zhV (N:Nat)(a0:Host):Option Ans :=
 (cond (zrA a0 1048576) (cond (ilt (zfc a0 1048576) 0) (some [(.one (.b true))]) (cond (zh7 a0) (cond (zkV (zY a0)) (cond (zh7 a0) (cond (zij (zY a0)) (cond (zh5 (zbs (zY a0)) (zew (zY a0))) (cond (cond (zjt (zbs (zY a0)) (zew (zY a0))) false true) (some [(.one (.b false))]) (cond (ine (zgK (zY a0)) (zgR (zY a0))) (some [(.one (.b false))]) (cond (zh7 a0) (cond (zh5 (zY a0) (zY a0)) (cond (cond (zjt (zY a0) (zY a0)) false true) (some [(.one (.b false))]) (cond (zeY (zY a0).Memory 1) (share (zfR (zY a0).Memory 1) (fun x2=>(cond (zhH (zY a0).Mons (zX (zY a0).Memory 1)) (share (zjw (zY a0).Mons (zX (zY a0).Memory 1)) (fun x3=>(cond (zdH (zY a0).Buffer (zbX (zY a0).Mons (zX (zY a0).Memory 1))) (share (zeB (zY a0).Buffer (zbX (zY a0).Mons (zX (zY a0).Memory 1))) (fun x4=>(cond (zdH (zY a0).IoBuffer (zbP (zY a0).Buffer (zbX (zY a0).Mons (zX (zY a0).Memory 1)))) (share (zeB (zY a0).IoBuffer (zbP (zY a0).Buffer (zbX (zY a0).Mons (zX (zY a0).Memory 1)))) (fun x5=>(cond (ilt (zbP (zY a0).IoBuffer (zbP (zY a0).Buffer (zbX (zY a0).Mons (zX (zY a0).Memory 1)))) 0) (some [(.one (.b false))]) (cond (zh5 (zbs (zY a0)) (zew (zY a0))) (cond (cond (zjt (zbs (zY a0)) (zew (zY a0))) false true) (some [(.one (.b false))]) (cond (ine (zgK (zY a0)) (zgR (zY a0))) (some [(.one (.b false))]) (cond (zeY (zbs (zY a0)).Memory 1) (share (zfR (zbs (zY a0)).Memory 1) (fun x6=>(cond (zhH (zbs (zY a0)).Mons (zX (zbs (zY a0)).Memory 1)) (share (zjw (zbs (zY a0)).Mons (zX (zbs (zY a0)).Memory 1)) (fun x7=>(cond (zdH (zbs (zY a0)).Buffer (zbX (zbs (zY a0)).Mons (zX (zbs (zY a0)).Memory 1))) (share (zeB (zbs (zY a0)).Buffer (zbX (zbs (zY a0)).Mons (zX (zbs (zY a0)).Memory 1))) (fun x8=>(cond (zdH (zbs (zY a0)).IoBuffer (zbP (zbs (zY a0)).Buffer (zbX (zbs (zY a0)).Mons (zX (zbs (zY a0)).Memory 1)))) (share (zeB (zbs (zY a0)).IoBuffer (zbP (zbs (zY a0)).Buffer (zbX (zbs (zY a0)).Mons (zX (zbs (zY a0)).Memory 1)))) (fun x9=>(cond (zjv (⟨x6,x7,x8,x9⟩:Host) 1) (cond (ilt (zf3 (⟨x6,x7,x8,x9⟩:Host) 1) 0) (some [(.one (.b false))]) (cond (ine (zf3 (⟨x6,x7,x8,x9⟩:Host) 1) (zbP (zbs (zY a0)).IoBuffer (zbP (zbs (zY a0)).Buffer (zbX (zbs (zY a0)).Mons (zX (zbs (zY a0)).Memory 1))))) (some [(.one (.b false))]) (cond (zh7 a0) (cond (zij (zY a0)) (cond (zh5 (zbs (zY a0)) (zew (zY a0))) (cond (cond (zjt (zbs (zY a0)) (zew (zY a0))) false true) (some [(.one (.b false))]) (cond (ine (zgK (zY a0)) (zgR (zY a0))) (some [(.one (.b false))]) (cond (zjv (⟨x6,x7,x8,x9⟩:Host) 1) (cond (ilt (zf3 (⟨x6,x7,x8,x9⟩:Host) 1) 0) (some [(.one (.b false))]) (cond (ine (zf3 (⟨x6,x7,x8,x9⟩:Host) 1) (zbP (zbs (zY a0)).IoBuffer (zbP (zbs (zY a0)).Buffer (zbX (zbs (zY a0)).Mons (zX (zbs (zY a0)).Memory 1))))) (some [(.one (.b false))]) (some [(.one (.b true))]))) none))) none) none) none))) none))) none))) none))) none))) none))) none)))) none))) none))) none))) none)) none) none))) none) none) none) none) none)) none)
theorem zxL (N:Nat)(a0:Host):evalFn (cQ z0h zV zhM zlp) (zB []) N 12 3 [.agg (zA a0)]=zhV N a0:=by kernel_rfl
theorem zwx (a0:Host)(ho:∀c∈zI [.agg (zA a0)],CVOk c):∃N,zhV N a0=some [.one (.b true)]:=by
 have hb:zG big [.agg (zA a0)]:=fun c hc=>CVB.of_ok (ho c hc);refine ⟨0,?_⟩;unfold zhV;rw [zYI,cT];cases hz:ilt (zfc a0 1048576) 0
 ·obtain ⟨hs,h0,h1⟩:=zXv (by omega) (by omega) hz
  have M:=zX9 (by omega) (by omega) h0 1 (by decide) (by decide)
  have hb:=zWx (by omega) (by omega) h0
  have hS:=(zbo a0).1 hs;have R:=z2T (h:=(zgY a0).2) (z2c hb hS (zXm hS) (fun hh=>by show (zkv (cnt a0.Mons) 0 (0,a0)).2=a0;rw [zIy hh]))
  have s1:zkV a0=true:=zU hs;have i1:zij a0=true:=zU hs;have r1:=R.hc;have r2:=R.e;have r3:=R.nn;unfold zlE at r1 r2;unfold zPv at r2 r3;rw [cF,zSz hs,cT,zMl,s1,cT,i1,cT];simp only [zew,zgR,zbs,zgK];generalize (zgY a0).2=g at *;simp only [share,zSz hs,zMl,zZk,zZl,zb2,M.c1,M.c2,M.c3,M.c4,zeA M.nn,R.c1,R.c2,R.c3,R.c4,s1,i1,r1,r2,r3,zb2,Bool.not_true,cT,cF]
 ·rfl
theorem zuG:Tryz.f3.params.toList.map (zcq Tryz.prog 4)=[some (true,[.s (.sl .int),.s .mon,.s .entry,.s .entry])]:=by kernel_rfl
theorem zp1:zUL 3 Tryz.f3.params.toList:=by
 refine zSJ zZd zD zem zfK (zC (by kernel_rfl)) ?_
 intro avs hg;obtain ⟨h1,h2⟩:=hg;rw [zuG] at h1;obtain ⟨v0,r0,rfl,e0,h1⟩:=zQ4 h1;cases List.map_eq_nil_iff.1 h1;obtain ⟨a0,rfl⟩:=z1l e0;obtain ⟨N,hN⟩:=zwx a0 h2;exact ⟨zB [],N,12,(zxL N a0).trans hN⟩
theorem zuO (H:Type)(ds:List (DataW H))(h:ds.length=Tryz.f3.params.toList.length):Rows.fnExactFairRoundSpec.fn H ds={ results:=[.lit (.bool true)],args:=ds }:=by
 have hl:ds.length=1:=h.trans (by kernel_rfl)
 match ds,hl with
 | [d],_=>rfl
set_option maxRecDepth 100000 in
theorem zrL (os:Os)(started:os.Started)(H:Type)(enc:TypeId×Value->H) :
 ReturnsInHanded {} Tryz.checked os 3 .any (Rows.fnExactFairRoundSpec.pre6 enc Tryz.prog Tryz.f3 Rows.fnExactFairRoundRow.domain false) (Rows.fnExactFairRoundSpec.post enc Tryz.prog Tryz.f3 false true false false):=by
 refine returnsInHanded_of_change_shaped (C:=Tryz.checked) own started (by kernel_rfl) Tryz.func3
  (ChangeSpec.witness6 (enc:=enc) (C:=Tryz.checked) false ⟨#[],#[.agg #[.slice none 0 0,.slice none 0 0,.slice none 0 0,.slice none 0 0]],[]⟩ 8 (by kernel_rfl) (by kernel_rfl) (by kernel_rfl) (by kernel_rfl)) ?_
 intro W base args ds gs before hval hW _ hsz _ _;exact zHD (P:=Tryz.prog) zYU zZs rfl zuO (by kernel_rfl) (B:=4) (by kernel_rfl) (by kernel_rfl) zp1 W base args ds gs before hval hW hsz
theorem said_fnExactFairRound:Rows.FnExactFairRoundSaid :=
 OpenClaim.holds_of_wide 3 Tryz.f3 rfl rfl rfl rfl rfl rfl rfl ⟨rfl,rfl,rfl,rfl,rfl⟩ rfl rfl rfl rfl rfl (by kernel_rfl) Tryz.func3 (by kernel_rfl)
  (of_decide_eq_true (by kernel_rfl)) (by unfold Func.isWrapper;first|(rw [if_pos (by decide +kernel)];kernel_rfl)|(rw [if_neg (by decide +kernel)];exact ⟨rfl,rfl⟩))
  (fun os started H enc _=>zrL os started H enc)
end
end
end Go.Proofs.YtdmheolglokabaaGreat.E
