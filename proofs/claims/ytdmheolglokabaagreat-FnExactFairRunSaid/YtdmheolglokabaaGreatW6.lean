/- What is proved here: a part of the proof that the statement of this claim holds (several texts of wip/, laid together). -/
import Derived.Test.YtdmheolglokabaaGreatW5
namespace Go.Proofs.YtdmheolglokabaaGreat.E
open Go
set_option linter.unusedVariables false
set_option maxRecDepth 100000
set_option linter.unusedSimpArgs false
set_option linter.unusedSectionVars false
noncomputable section
def cz (l:List Slot):Nat:=l.countP fun s=>ieq s.Page 0
def zH:List Mon->Nat
 | []=>0
 | m :: l=>cz m.Outer+zH l
def bit (u:List Bool):Nat:=bif ix u 0 false then 1 else 0
theorem zxQ (s:Slot)(l:List Slot):cz (s :: l)=cz l+bif ieq s.Page 0 then 1 else 0:=by
 unfold cz;rw [List.countP_cons];cases ieq s.Page 0<;>rfl
theorem z2d {u:List Bool}{p:Int}(hp:0<=p)(hlt:p.toNat<u.length)(x:Bool):ix (up u p x) 0 false=bif ieq p 0 then x else ix u 0 false:=by
 unfold ix up;cases h:ieq p 0
 ·have:p≠0:=by simpa [ieq] using h
  have hne:p.toNat≠0:=by omega
  simp [List.getD,List.getElem?_set,hne]
 ·have:p=0:=by simpa [ieq] using h
  subst this;have hlt:0<u.length:=hlt;simp [List.getD,List.getElem?_set,hlt]
theorem zA4:∀(l:List Slot) (u u':List Bool),(∀s∈l,s.Page<12)->u.length=12->zhR l u=some u'->cz l+bit u=bit u'
 | [],u,u',_,_,h=>by cases h;simp [cz]
 | s :: l,u,u',hs,hu,h=>by
  simp only [zhR] at h;rw [zxQ];cases h1:ilt s.Page 0
  ·have h1:=of_decide_eq_false h1;rw [show ilt s.Page 0=false from decide_eq_false (by omega)] at h
   simp only [cF] at h;cases h2:ix u s.Page false
   ·rw [h2] at h;simp only [cF] at h;have hlt:s.Page.toNat<u.length:=by have:=hs s (by simp);omega
    have ih:=zA4 l _ u' (fun t ht=>hs t (by simp [ht])) (by simpa using hu) h
    have e:bit (up u s.Page true)=bif ieq s.Page 0 then 1 else bit u:=by
     unfold bit;rw [z2d (by omega) hlt]
     cases ieq s.Page 0<;>rfl
    rw [e] at ih;cases h3:ieq s.Page 0
    ·rw [h3] at ih;simp only [cF] at ih ⊢;omega
    ·have h4:s.Page=0:=by simpa [ieq] using h3
     rw [h4] at h2;have:bit u=0:=by unfold bit;rw [h2];rfl
     rw [h3] at ih;simp only [cT] at ih ⊢;omega
   ·rw [h2] at h;cases h
  ·have h1':=of_decide_eq_true h1;rw [h1] at h;simp only [cT] at h;have ih:=zA4 l u u' (fun t ht=>hs t (by simp [ht])) hu h
   have:ieq s.Page 0=false:=by simp [ieq];omega
   rw [this];simpa using ih
theorem zSI:∀(l:List Mon) (u:List Bool),u.length=12->zkA l u=true->zH l+bit u<=1
 | [],u,_,_=>by unfold zH bit;cases ix u 0 false<;>simp
 | m :: l,u,hu,h=>by
  simp only [zkA] at h;cases h1:zek m
  ·rw [h1] at h;cases h
  ·rw [h1] at h;simp only [cT] at h;cases h2:zhR m.Outer u with
   | none=>rw [h2] at h;cases h
   | some u' =>
    rw [h2] at h;have e:=zA4 _ _ _ (zCQ (zkJ h1)) hu h2;have ih:=zSI l u' ((zlT _ _ _ h2).trans hu) h;simp only [zH];omega
theorem zXZ:∀(l:List Slot) (b:Nat) (s:Slot),l[b]?=some s->s.Page=0->cz (l.set b noSlot)+1=cz l
 | [],b,s,h,_=>by simp at h
 | t :: l,0,s,h,hs=>by
  simp only [List.getElem?_cons_zero,Option.some.injEq] at h;subst h;rw [List.set_cons_zero,zxQ,zxQ];have:ieq t.Page 0=true:=by simp [ieq,hs]
  rw [this];rfl
 | t :: l,b+1,s,h,hs=>by
  rw [List.set_cons_succ,zxQ,zxQ];have:=zXZ l b s (by simpa using h) hs
  omega
theorem zQx:∀(l:List Mon) (a:Nat) (x y:Mon),l[a]?=some x->zH (l.set a y)+cz x.Outer=zH l+cz y.Outer
 | [],a,x,y,h=>by simp at h
 | m :: l,0,x,y,h=>by
  simp only [List.getElem?_cons_zero,Option.some.injEq] at h;subst h;rw [List.set_cons_zero];simp only [zH];omega
 | m :: l,a+1,x,y,h=>by
  rw [List.set_cons_succ];have:=zQx l a x y (by simpa using h)
  simp only [zH];omega
theorem zXc {l:List Slot}(h:cz l=0):zAA l 0=none:=by
 unfold zAA;rw [List.findIdx?_eq_none_iff];intro s hs;have:=(List.countP_eq_zero.1 h) s hs;simpa using this
theorem zI7:∀(l:List Mon) (i:Nat),zH l=0->zkP 0 l i=(-1,-1)
 | [],_,_=>rfl
 | m :: l,i,h=>by
  simp only [zH] at h;simp only [zkP];rw [zXc (by omega)]
  exact zI7 l (i+1) (by omega)
theorem zWf {l:List Slot}{k:Nat}(h:zAA l 0=some k):∃s,l[k]?=some s/\s.Page=0:=by
 unfold zAA at h;rw [List.findIdx?_eq_some_iff_getElem] at h;obtain ⟨hlt,h1,_⟩:=h;exact ⟨l[k],List.getElem?_eq_getElem hlt,by simpa [ieq] using h1⟩
theorem zEu:∀(l:List Mon) (i:Nat),zkP 0 l i=(-1,-1)\/∃a b x s,zkP 0 l i=(((i+a:Nat):Int),((b:Nat):Int))/\l[a]?=some x/\x.Outer[b]?=some s/\s.Page=0
 | [],_=>.inl rfl
 | m :: l,i=>by
  simp only [zkP];cases h:zAA m.Outer 0 with
  | none =>
   rcases zEu l (i+1) with h1|⟨a,b,x,s,h1,h2,h3,h4⟩
   ·exact .inl h1
   ·refine .inr ⟨a+1,b,x,s,?_,by simpa using h2,h3,h4⟩
    have e:i+1+a=i+(a+1):=by omega
    rw [h1,e]
  | some k =>
   obtain ⟨s,h1,h2⟩:=zWf h;exact .inr ⟨0,k,m,s,rfl,rfl,h1,h2⟩
def Fit (h:Host):Prop:=Shape h/\0<h.Memory.length/\zH h.Mons<=1
theorem zD0 {h:Host}(hm:0<h.Memory.length)(ho:ilt (zdv h 0).1 0=true):inb 0 (ln (zcP h))=true:=by
 unfold zcP;obtain ⟨n,hn⟩:∃n,h.Memory.length=n+1:=⟨h.Memory.length-1,by omega⟩
 rw [hn];simp only [zFg];rw [show ilt (zdv h ((0:Nat):Int)).1 0=true from ho]
 exact decide_eq_true (by simp only [cT,ln,List.length_cons];omega)
theorem zXA {h:Host}(hm:0<h.Memory.length)(h0:ieq (ln (zcP h)) 0=true):ilt (zdv h 0).1 0=false:=by
 cases ho:ilt (zdv h 0).1 0
 ·rfl
 ·have h1:=of_decide_eq_true (zD0 hm ho);have h2:ln (zcP h)=0:=by simpa [ieq] using h0
  omega
def zdo (h:Host):Host:=bif ieq (ln (zcP h)) 0 then ze9 h (zdv h 0).1 (zdv h 0).2 else h
structure Room (h r:Host):Prop where
 shape:Shape r
 free:inb 0 (ln (zcP r))=true
 len:r.Mons.length=h.Mons.length
 outer:∀m,(ix r.Mons m mZ).Outer.length=8\/True
theorem zX0 {h:Host}(hf:Fit h)(h0:ieq (ln (zcP h)) 0=true):∃(a b:Nat) (x:Mon) (s:Slot),zdv h 0=((a:Int),(b:Int))/\h.Mons[a]?=some x/\x.Outer[b]?=some s/\s.Page=0:=by
 have h1:=zXA hf.2.1 h0;have e:zdv h 0=zkP 0 h.Mons 0:=rfl;rcases zEu h.Mons 0 with h2|⟨a,b,x,s,h2,h3⟩
 ·rw [e,h2] at h1;cases h1
 ·exact ⟨a,b,x,s,by rw [e,h2,Nat.zero_add],h3⟩
theorem zCM {h:Host}(hf:Fit h)(h0:ieq (ln (zcP h)) 0=true):hasB (zdv h 0).1 (ln h.Mons)=true/\hasB (zdv h 0).2 8=true:=by
 obtain ⟨a,b,x,s,h1,h2,h3,h4⟩:=zX0 hf h0;rw [h1];have ha:=(List.getElem?_eq_some_iff.1 h2).1;have hb:=(List.getElem?_eq_some_iff.1 h3).1;have hx:=hf.1.2 x (List.mem_of_getElem? h2);refine ⟨decide_eq_true (by simp only [ln];omega),decide_eq_true ?_⟩
 have:=hx.1
 show 0<=(b:Int)/\(b:Int)<8
 omega
theorem room {h:Host}(hf:Fit h):Room h (zdo h):=by
 unfold zdo;cases h0:ieq (ln (zcP h)) 0
 ·refine ⟨hf.1,decide_eq_true ?_,rfl,fun _=>.inr trivial⟩;have:ln (zcP h)≠0:=by simpa [ieq] using h0
  show 0<=(0:Int)/\(0:Int)<ln (zcP h)
  simp only [ln] at *;omega
 ·obtain ⟨hm,hp⟩:=zCM hf h0;obtain ⟨a,b,x,s,h1,h2,h3,h4⟩:=zX0 hf h0;simp only [cT];rw [h1] at hm hp ⊢;have ha:=(List.getElem?_eq_some_iff.1 h2).1;have hb:=(List.getElem?_eq_some_iff.1 h3).1;have hxa:ix h.Mons (a:Int) mZ=x:=by rw [zbq ha];exact (List.getElem?_eq_some_iff.1 h2).2
  have hmons:=(zfy (zfq h (a:Int) (b:Int)) (a:Int) (b:Int) noSlot).1;have ex:ix (zfq h (a:Int) (b:Int)).Mons (a:Int) mZ={ x with Out:=up x.Out (b:Int) (zg5 h.Memory (ix x.Outer (b:Int) sZ).Page) }:=by
   unfold zfq;rw [ze5 ha,hxa]
  obtain ⟨y,hM,hy⟩:∃y,(ze9 h (a:Int) (b:Int)).Mons=h.Mons.set a y/\y.Outer=x.Outer.set b noSlot:=by
   unfold ze9;rw [hmons,ex];unfold zfq;rw [zCH];exact ⟨_,by simp [up];rfl,by simp [up]⟩
  have hz:zH (ze9 h (a:Int) (b:Int)).Mons=0:=by
   have e1:=zQx h.Mons a x y h2;have e2:=zXZ x.Outer b s h3 h4;have e3:=hf.2.2;rw [hM];rw [hy] at e1;omega
  have hmem:(ze9 h (a:Int) (b:Int)).Memory=h.Memory:=(zfy (zfq h (a:Int) (b:Int)) (a:Int) (b:Int) noSlot).2;refine ⟨zWo hf.1 hm,zD0 (by rw [hmem];exact hf.2.1) ?_,by rw [hM];simp,fun _=>.inr trivial⟩
  have e:zdv (ze9 h (a:Int) (b:Int)) 0=zkP 0 (ze9 h (a:Int) (b:Int)).Mons 0:=rfl;rw [e,zI7 _ _ hz];rfl
theorem zRH {m:List (List Int)}{p:Int}{c:List Int}(h:SmM m)(hc:c.length<=1048576):SmM (zh9 m p c):=by
 unfold zh9;cases hasB p (ln m)
 ·exact h
 ·cases zc4 c
  ·exact h
  ·exact zIB h hc
def landing (r:Host)(m p to:Int):Host:={ r with Memory:=zh9 r.Memory to (ix (ix r.Mons m mZ).Out p []),Mons:=up r.Mons m { ix r.Mons m mZ with Out:=up (ix r.Mons m mZ).Out p [] } }
def zjI (r:Host)(m p to:Int):Host:=zeF (landing r m p to) m p ⟨to,3⟩
def fetched (h:Host)(m p:Int):Host:=zjI (zdo h) m p (ix (zcP (zdo h)) 0 0)
theorem zSN {r:Host}{m p:Int}(hr:Shape r)(hm:hasB m (ln r.Mons)=true)(hp:hasB p 8=true):(ix (ix r.Mons m mZ).Out p []).length<=1048576:=by
 obtain ⟨g1,g2⟩:=zck hr hm;exact g1.2.1.2 _ (zde (zdc g2.2.1 hp) _)
theorem zp3 {r:Host}{m p to:Int}(hr:Shape r)(hm:hasB m (ln r.Mons)=true)(hp:hasB p 8=true):Shape (landing r m p to):=by
 obtain ⟨g1,g2⟩:=zck hr hm;exact zMd (h:={ r with Mons:=up r.Mons m { ix r.Mons m mZ with Out:=up (ix r.Mons m mZ).Out p [] } }) (zhn (x:={ ix r.Mons m mZ with Out:=up (ix r.Mons m mZ).Out p [] }) hr ⟨g1.1,zIB g1.2.1 (by simp),g1.2.2⟩ ⟨g2.1,by simpa using g2.2.1,g2.2.2⟩) (zRH hr.1.1 (zSN hr hm hp))
theorem zOM {r:Host}{m p to:Int}(hr:Shape r)(hm:hasB m (ln r.Mons)=true)(hp:hasB p 8=true):Shape (zjI r m p to):=zqp (zed hm) (zp3 hr hm hp)
theorem zoI {h:Host}(hf:Fit h){m:Int}(hm:hasB m (ln h.Mons)=true):hasB m (ln (zdo h).Mons)=true:=by
 rw [ln,(room hf).len];exact hm
theorem zk0 {h:Host}{m p:Int}(hf:Fit h)(hm:hasB m (ln h.Mons)=true)(hp:hasB p 8=true):Shape (fetched h m p)/\hasB m (ln (fetched h m p).Mons)=true :=
 ⟨zOM (room hf).shape (zoI hf hm) hp,zEl (zed (zoI hf hm))⟩
@[simp,reducible] def zCf (h:Host)(m p:Int):Bool:=pc (Fit h/\hasB m (ln h.Mons)=true/\hasB p 8=true)
@[simp,reducible] def zgO (h:Host)(m p:Int):Host:=fetched h m p
def zxr:List AV->Option (Bool×List AV)
 | [.agg [.s (.sl .int) b,.s .mon c,.s .entry d,.s .entry e],.one (.i .i64 f),.one (.i .i64 g)]=>some ((zCf (⟨b,c,d,e⟩:Host) f g),[.agg (zx (zgO (⟨b,c,d,e⟩:Host) f g))])
 | _=>none
def zCc (N:Nat)(a0:Host)(a1 a2:Int):Option Ans :=
 (cond (zjR a0) (cond (ieq (ln (zc1 a0)) 0) (cond (ziY a0 0) (cond (zyk a0 (zbC a0 0) (zbG a0 0)) (cond (zjR (zcL a0 (zbC a0 0) (zbG a0 0))) (cond (inb 0 (ln (zc1 (zcL a0 (zbC a0 0) (zbG a0 0))))) (cond (inb a1 (ln (zcL a0 (zbC a0 0) (zbG a0 0)).Mons)) (cond (inb a2 (ln (ix (zcL a0 (zbC a0 0) (zbG a0 0)).Mons a1 zf).Out)) (cond (zi7 (zcL a0 (zbC a0 0) (zbG a0 0)).Memory (ix (zc1 (zcL a0 (zbC a0 0) (zbG a0 0))) 0 0) (ix (ix (zcL a0 (zbC a0 0) (zbG a0 0)).Mons a1 zf).Out a2 [])) (cond (inb a1 (ln (zcL a0 (zbC a0 0) (zbG a0 0)).Mons)) (cond (inb a2 (ln (ix (zcL a0 (zbC a0 0) (zbG a0 0)).Mons a1 zf).Out)) (share (up (zcL a0 (zbC a0 0) (zbG a0 0)).Mons a1 ({ (ix (zcL a0 (zbC a0 0) (zbG a0 0)).Mons a1 zf) with Out:=(up (ix (zcL a0 (zbC a0 0) (zbG a0 0)).Mons a1 zf).Out a2 []) }:Mon)) (fun x4=>(cond (zfr ({ (zcL a0 (zbC a0 0) (zbG a0 0)) with Memory:=(zf5 (zcL a0 (zbC a0 0) (zbG a0 0)).Memory (ix (zc1 (zcL a0 (zbC a0 0) (zbG a0 0))) 0 0) (ix (ix (zcL a0 (zbC a0 0) (zbG a0 0)).Mons a1 zf).Out a2 [])),Mons:=x4 }:Host) a1 a2 (⟨(ix (zc1 (zcL a0 (zbC a0 0) (zbG a0 0))) 0 0),3⟩:Slot)) (some [(.agg (zx (zhh ({ (zcL a0 (zbC a0 0) (zbG a0 0)) with Memory:=(zf5 (zcL a0 (zbC a0 0) (zbG a0 0)).Memory (ix (zc1 (zcL a0 (zbC a0 0) (zbG a0 0))) 0 0) (ix (ix (zcL a0 (zbC a0 0) (zbG a0 0)).Mons a1 zf).Out a2 [])),Mons:=x4 }:Host) a1 a2 (⟨(ix (zc1 (zcL a0 (zbC a0 0) (zbG a0 0))) 0 0),3⟩:Slot))))]) none))) none) none) none) none) none) none) none) none) none) (cond (zjR a0) (cond (inb 0 (ln (zc1 a0))) (cond (inb a1 (ln a0.Mons)) (cond (inb a2 (ln (ix a0.Mons a1 zf).Out)) (cond (zi7 a0.Memory (ix (zc1 a0) 0 0) (ix (ix a0.Mons a1 zf).Out a2 [])) (cond (inb a1 (ln a0.Mons)) (cond (inb a2 (ln (ix a0.Mons a1 zf).Out)) (share (up a0.Mons a1 ({ (ix a0.Mons a1 zf) with Out:=(up (ix a0.Mons a1 zf).Out a2 []) }:Mon)) (fun x4=>(cond (zfr ({ a0 with Memory:=(zf5 a0.Memory (ix (zc1 a0) 0 0) (ix (ix a0.Mons a1 zf).Out a2 [])),Mons:=x4 }:Host) a1 a2 (⟨(ix (zc1 a0) 0 0),3⟩:Slot)) (some [(.agg (zx (zhh ({ a0 with Memory:=(zf5 a0.Memory (ix (zc1 a0) 0 0) (ix (ix a0.Mons a1 zf).Out a2 [])),Mons:=x4 }:Host) a1 a2 (⟨(ix (zc1 a0) 0 0),3⟩:Slot))))]) none))) none) none) none) none) none) none) none)) none)
theorem zXe (N:Nat)(a0:Host)(a1 a2:Int):zCJ (cQ zkN zV zXM zWx) (zB []) N 12 201 [true,true,true,true,false,false] 1 1 [[0],[1],[2],[4],[7]] .mon [.agg (zx a0),.one (.i .i64 a1),.one (.i .i64 a2)]=zCc N a0 a1 a2:=by kernel_rfl
theorem zT2 (a0:Host)(a1 a2:Int)(hb:zG big [.agg (zx a0),.one (.i .i64 a1),.one (.i .i64 a2)])(hc:(zCf a0 a1 a2)=true):∃N,zCc N a0 a1 a2=some [.agg (zx (zgO a0 a1 a2))]:=by
 obtain ⟨hf,hm,hp⟩:=zI.1 hc;have tail:∀r,Shape r->inb 0 (ln (zcP r))=true->hasB a1 (ln r.Mons)=true->(cond (zjR r) (cond (inb 0 (ln (zc1 r))) (cond (inb a1 (ln r.Mons)) (cond (inb a2 (ln (ix r.Mons a1 zf).Out)) (cond (zi7 r.Memory (ix (zc1 r) 0 0) (ix (ix r.Mons a1 zf).Out a2 [])) (cond (inb a1 (ln r.Mons)) (cond (inb a2 (ln (ix r.Mons a1 zf).Out)) (share (up r.Mons a1 ({ (ix r.Mons a1 zf) with Out:=(up (ix r.Mons a1 zf).Out a2 []) }:Mon)) (fun x4=>(cond (zfr ({ r with Memory:=(zf5 r.Memory (ix (zc1 r) 0 0) (ix (ix r.Mons a1 zf).Out a2 [])),Mons:=x4 }:Host) a1 a2 (⟨(ix (zc1 r) 0 0),3⟩:Slot)) (some [(AV.agg (zx (zhh ({ r with Memory:=(zf5 r.Memory (ix (zc1 r) 0 0) (ix (ix r.Mons a1 zf).Out a2 [])),Mons:=x4 }:Host) a1 a2 (⟨(ix (zc1 r) 0 0),3⟩:Slot))))]) none))) none) none) none) none) none) none) none)=some [AV.agg (zx (zjI r a1 a2 (ix (zcP r) 0 0)))]:=by
  intro r hr hfree hrm;obtain ⟨g1,g2⟩:=zck hr hrm;have hL:=zp3 (to:=ix (zcP r) 0 0) hr hrm hp;obtain ⟨k,rfl,hk⟩:=zem (n:=r.Mons.length) hrm;refine must (zbr hr.1.1.1) (must hfree (must (zF hrm) (must (zF (zdc g2.2.1 hp)) (must (zbr ⟨hr.1.1,zSN hr hrm hp⟩) (must (zF hrm) (must (zF (zdc g2.2.1 hp)) (shr (must (zbr ⟨(zbg _).2 hL.1,zed hrm,?_,?_⟩) rfl))))))))
  ·simp only [ze5 hk];exact zdc g2.1 hp
  ·simp only [ze5 hk];exact Nat.le_of_eq g2.2.2.2
 have hR:=room hf;have hrm:=zoI hf hm;refine ⟨0,?_⟩;unfold zCc zgO fetched;refine must (zbr hf.1.1.1.1) ?_;cases h0:ieq (ln (zc1 a0)) 0
 ·have er:zdo a0=a0:=by unfold zdo;rw [show ieq (ln (zcP a0)) 0=false from h0];rfl
  rw [er] at hR hrm ⊢;exact tail a0 hR.shape hR.free hrm
 ·obtain ⟨o1,o2⟩:=zCM hf h0;have er:zdo a0=ze9 a0 (zdv a0 0).1 (zdv a0 0).2:=by unfold zdo;rw [show ieq (ln (zcP a0)) 0=true from h0];rfl
  rw [er] at hR hrm ⊢;exact must rfl (must rfl (must (zbr ⟨hf.1,o1,o2⟩) (tail _ hR.shape hR.free hrm)))
theorem zOv:zeG Tryz.prog 201 [true,true,true,true,false,false] (some (1,1,[[0],[1],[2],[4],[7]])) zxr:=by
 refine zjQ (kt:=.mon) (zdJ zgz zD zKc zJI) (zC (by kernel_rfl)) (by kernel_rfl) ?_
 intro avs rs hl hr h;have hb:=zjv hr;unfold zxr at h;split at h
 ·obtain ⟨hc,rfl⟩:=zl h;obtain ⟨N,hN⟩:=zT2 _ _ _ (by exact hb) hc
  exact ⟨⟨_,rfl⟩,rfl,_,N,12,(zXe N _ _ _ ).trans hN⟩
 ·cases h
@[simp,reducible] def zp7 (h:Host):Bool:=pc (Shape h/\hasB (zdv h 0).1 (ln h.Mons)=true/\hasB (zdv h 0).2 8=true)
@[simp,reducible] def zb6 (h:Host):Host:=ze9 h (zdv h 0).1 (zdv h 0).2
def zln:List CV->List AV->Option (Bool×List CV×List AV)
 | [.s (.sl .int) b,.s .mon c,.s .entry d,.s .entry e],[]=>some ((zp7 (⟨b,c,d,e⟩:Host)),zx (zb6 (⟨b,c,d,e⟩:Host)),[])
 | _,_=>none
def zqQ (N:Nat)(c:Host)  : Option Ans :=
 (cond (ziX c 0) (cond (zFn c (zfM c 0) (zg9 c 0)) (some [(.agg (zx (zGe c (zfM c 0) (zg9 c 0))))]) none) none)
theorem zJU (N:Nat)(c:Host)  : zyU (cQ zkN zV zXM zWx) (zB []) N 12 238 [true,true,true,true] (zx c) []=zqQ N c:=by kernel_rfl
theorem zI0 (c:Host)(hb:zG big (.agg (zx c) :: []))(hc:(zp7 c)=true):∃N,zqQ N c=some (.agg (zx (zb6 c)) :: []):=by
 have hs:=zI.1 hc;refine ⟨0,?_⟩;unfold zqQ;exact must rfl (must (zbr hs) rfl)
theorem zDp:zeL Tryz.prog 238 [true,true,true,true] zln:=by
 refine zhI (zdJ zgz zD zKc zJI) (zC (by kernel_rfl)) ?_
 intro cs avs cs' rs hl hr h;have hb:=zjd hr;unfold zln at h;split at h
 ·obtain ⟨hc,rfl,rfl⟩:=zkG h;obtain ⟨N,hN⟩:=zI0 _ (by exact hb) hc
  exact ⟨rfl,_,N,12,(zJU N _ ).trans hN⟩
 ·cases h
def zZJ:zzu:=[(238,([true,true,true,true],zln))]++zXM
theorem zV8:∀f own run,zy zZJ f=some (own,run)->zeL Tryz.prog f own run:=ztL zKc (by
 intro x hx;simp only [List.mem_cons,List.not_mem_nil,or_false] at hx;rcases hx with rfl
 ·exact zDp)
def zRc:zzE:=[(201,([true,true,true,true,false,false],(some (1,1,[[0],[1],[2],[4],[7]])),zxr))]++zWx
theorem zCU:∀f own inp run,zy zRc f=some (own,inp,run)->zeG Tryz.prog f own inp run:=ztD zJI (by
 intro x hx;simp only [List.mem_cons,List.not_mem_nil,or_false] at hx;rcases hx with rfl
 ·exact zOv)
@[simp,reducible] def zBd (h:Host)(m p:Int):Bool:=pc (Fit h/\hasB m (ln h.Mons)=true/\hasB p 8=true)
@[simp,reducible] def ze0 (h:Host)(m p:Int):Host:=fetched h m p
theorem zWJ {r:Host}{m p to:Int}(hr:Shape r)(hm:hasB m (ln r.Mons)=true):zzo { landing r m p to with Mons:=up (landing r m p to).Mons m { ix (landing r m p to).Mons m mZ with Outer:=up (ix (landing r m p to).Mons m mZ).Outer p ⟨to,3⟩ } } m p (ix (ix (landing r m p to).Mons m mZ).Outer p sZ)=zjI r m p to:=by
 obtain ⟨g1,g2⟩:=zck hr hm;obtain ⟨k,rfl,hk⟩:=zem (n:=r.Mons.length) hm;refine zyl (h:=landing r (k:Int) p to) (by simpa [landing] using hk) ?_
 unfold landing;simp only [ze5 hk];exact g2.2.2.2
theorem zUP {r:Host}{m p to:Int}(hr:Shape r)(hm:hasB m (ln r.Mons)=true)(hp:hasB p 8=true):Shape { landing r m p to with Mons:=up (landing r m p to).Mons m { ix (landing r m p to).Mons m mZ with Outer:=up (ix (landing r m p to).Mons m mZ).Outer p ⟨to,3⟩ } }:=by
 have hL:=zp3 (to:=to) hr hm hp;obtain ⟨q1,q2⟩:=zck hL (zed hm);exact zhn hL ⟨by simpa using q1.1,q1.2⟩ ⟨by simpa using q2.1,q2.2⟩
def ztM:List CV->List AV->Option (Bool×List CV×List AV)
 | [.s (.sl .int) b,.s .mon c,.s .entry d,.s .entry e],[.one (.i .i64 f),.one (.i .i64 g)]=>some ((zBd (⟨b,c,d,e⟩:Host) f g),zx (ze0 (⟨b,c,d,e⟩:Host) f g),[])
 | _,_=>none
def zBb (N:Nat)(c:Host)(a0 a1:Int):Option Ans :=
 (cond (zj9 c) (cond (ieq (ln (zdy c)) 0) (cond (zp7 c) (cond (inb a0 (ln (zb6 c).Mons)) (cond (zj9 (zb6 c)) (cond (inb 0 (ln (zdy (zb6 c)))) (cond (inb a1 (ln (ix (zb6 c).Mons a0 zf).Out)) (cond (zjA (zb6 c).Memory (ix (zdy (zb6 c)) 0 0) (ix (ix (zb6 c).Mons a0 zf).Out a1 [])) (cond (inb a1 (ln (ix (zb6 c).Mons a0 zf).Out)) (share (up (zb6 c).Mons a0 ({ (ix (zb6 c).Mons a0 zf) with Out:=(up (ix (zb6 c).Mons a0 zf).Out a1 []) }:Mon)) (fun x4=>(cond (inb a1 (ln (ix x4 a0 zf).Outer)) (cond (inb a1 (ln (ix x4 a0 zf).Outer)) (share (up x4 a0 ({ (ix x4 a0 zf) with Outer:=(up (ix x4 a0 zf).Outer a1 (⟨(ix (zdy (zb6 c)) 0 0),3⟩:Slot)) }:Mon)) (fun x5=>(cond (zeb ({ (zb6 c) with Memory:=(zf7 (zb6 c).Memory (ix (zdy (zb6 c)) 0 0) (ix (ix (zb6 c).Mons a0 zf).Out a1 [])),Mons:=x5 }:Host) a0 a1 (ix (ix x4 a0 zf).Outer a1 zQ)) (some [(.agg (zx (zd9 ({ (zb6 c) with Memory:=(zf7 (zb6 c).Memory (ix (zdy (zb6 c)) 0 0) (ix (ix (zb6 c).Mons a0 zf).Out a1 [])),Mons:=x5 }:Host) a0 a1 (ix (ix x4 a0 zf).Outer a1 zQ))))]) none))) none) none))) none) none) none) none) none) none) none) (cond (inb a0 (ln c.Mons)) (cond (zj9 c) (cond (inb 0 (ln (zdy c))) (cond (inb a1 (ln (ix c.Mons a0 zf).Out)) (cond (zjA c.Memory (ix (zdy c) 0 0) (ix (ix c.Mons a0 zf).Out a1 [])) (cond (inb a1 (ln (ix c.Mons a0 zf).Out)) (share (up c.Mons a0 ({ (ix c.Mons a0 zf) with Out:=(up (ix c.Mons a0 zf).Out a1 []) }:Mon)) (fun x4=>(cond (inb a1 (ln (ix x4 a0 zf).Outer)) (cond (inb a1 (ln (ix x4 a0 zf).Outer)) (share (up x4 a0 ({ (ix x4 a0 zf) with Outer:=(up (ix x4 a0 zf).Outer a1 (⟨(ix (zdy c) 0 0),3⟩:Slot)) }:Mon)) (fun x5=>(cond (zeb ({ c with Memory:=(zf7 c.Memory (ix (zdy c) 0 0) (ix (ix c.Mons a0 zf).Out a1 [])),Mons:=x5 }:Host) a0 a1 (ix (ix x4 a0 zf).Outer a1 zQ)) (some [(.agg (zx (zd9 ({ c with Memory:=(zf7 c.Memory (ix (zdy c) 0 0) (ix (ix c.Mons a0 zf).Out a1 [])),Mons:=x5 }:Host) a0 a1 (ix (ix x4 a0 zf).Outer a1 zQ))))]) none))) none) none))) none) none) none) none) none) none)) none)
theorem zWq (N:Nat)(c:Host)(a0 a1:Int):zyU (cQ zkN zV zZJ zRc) (zB []) N 12 214 [true,true,true,true] (zx c) [.one (.i .i64 a0),.one (.i .i64 a1)]=zBb N c a0 a1:=by kernel_rfl
theorem zTq (c:Host)(a0 a1:Int)(hb:zG big (.agg (zx c) :: [.one (.i .i64 a0),.one (.i .i64 a1)]))(hc:(zBd c a0 a1)=true):∃N,zBb N c a0 a1=some (.agg (zx (ze0 c a0 a1)) :: []):=by
 obtain ⟨hf,hm,hp⟩:=zI.1 hc;have tail:∀r,Shape r->inb 0 (ln (zcP r))=true->hasB a0 (ln r.Mons)=true->(cond (inb a0 (ln r.Mons)) (cond (zj9 r) (cond (inb 0 (ln (zdy r))) (cond (inb a1 (ln (ix r.Mons a0 zf).Out)) (cond (zjA r.Memory (ix (zdy r) 0 0) (ix (ix r.Mons a0 zf).Out a1 [])) (cond (inb a1 (ln (ix r.Mons a0 zf).Out)) (share (up r.Mons a0 ({ (ix r.Mons a0 zf) with Out:=(up (ix r.Mons a0 zf).Out a1 []) }:Mon)) (fun x4=>(cond (inb a1 (ln (ix x4 a0 zf).Outer)) (cond (inb a1 (ln (ix x4 a0 zf).Outer)) (share (up x4 a0 ({ (ix x4 a0 zf) with Outer:=(up (ix x4 a0 zf).Outer a1 (⟨(ix (zdy r) 0 0),3⟩:Slot)) }:Mon)) (fun x5=>(cond (zeb ({ r with Memory:=(zf7 r.Memory (ix (zdy r) 0 0) (ix (ix r.Mons a0 zf).Out a1 [])),Mons:=x5 }:Host) a0 a1 (ix (ix x4 a0 zf).Outer a1 zQ)) (some [(AV.agg (zx (zd9 ({ r with Memory:=(zf7 r.Memory (ix (zdy r) 0 0) (ix (ix r.Mons a0 zf).Out a1 [])),Mons:=x5 }:Host) a0 a1 (ix (ix x4 a0 zf).Outer a1 zQ))))]) none))) none) none))) none) none) none) none) none) none)=some [AV.agg (zx (zjI r a0 a1 (ix (zcP r) 0 0)))]:=by
  intro r hr hfree hrm;obtain ⟨g1,g2⟩:=zck hr hrm;have hL:=zUP (to:=ix (zcP r) 0 0) hr hrm hp;have hE:=zWJ (p:=a1) (to:=ix (zcP r) 0 0) hr hrm;obtain ⟨k,rfl,hk⟩:=zem (n:=r.Mons.length) hrm;have hh:∀(x y:Mon),hasB (k:Int) (ln (up (up r.Mons (k:Int) x) (k:Int) y))=true:=fun x y=>by simpa [ln] using hrm
  have hi:inb a1 (ln (ix (up r.Mons (k:Int) { ix r.Mons (k:Int) mZ with Out:=up (ix r.Mons (k:Int) mZ).Out a1 [] }) (k:Int) mZ).Outer)=true:=by
   rw [ze5 hk];exact zF (zdc g2.1 hp)
  refine must (zF hrm) (must (zbr hr.1.1.1) (must hfree (must (zF (zdc g2.2.1 hp)) (must (zbr ⟨hr.1.1,zSN hr hrm hp⟩) (must (zF (zdc g2.2.1 hp)) (shr (must hi (must hi (shr (must (zbr ⟨hL,hh _ _⟩) ?_))))))))));exact congrArg (fun x=>some [AV.agg (zx x)]) hE
 have hR:=room hf;have hrm:=zoI hf hm;refine ⟨0,?_⟩;unfold zBb ze0 fetched;refine must (zbr hf.1.1.1.1) ?_;cases h0:ieq (ln (zdy c)) 0
 ·have er:zdo c=c:=by unfold zdo;rw [show ieq (ln (zcP c)) 0=false from h0];rfl
  rw [er] at hR hrm ⊢;exact tail c hR.shape hR.free hrm
 ·obtain ⟨o1,o2⟩:=zCM hf h0;have er:zdo c=ze9 c (zdv c 0).1 (zdv c 0).2:=by unfold zdo;rw [show ieq (ln (zcP c)) 0=true from h0];rfl
  rw [er] at hR hrm ⊢;exact must rfl (must (zbr ⟨hf.1,o1,o2⟩) (tail _ hR.shape hR.free hrm))
theorem zOt:zeL Tryz.prog 214 [true,true,true,true] ztM:=by
 refine zhI (zdJ zgz zD zV8 zCU) (zC (by kernel_rfl)) ?_
 intro cs avs cs' rs hl hr h;have hb:=zjd hr;unfold ztM at h;split at h
 ·obtain ⟨hc,rfl,rfl⟩:=zkG h;obtain ⟨N,hN⟩:=zTq _ _ _ (by exact hb) hc
  exact ⟨rfl,_,N,12,(zWq N _ _ _ ).trans hN⟩
 ·cases h
def zXm:zzu:=[(214,([true,true,true,true],ztM))]++zZJ
theorem zK6:∀f own run,zy zXm f=some (own,run)->zeL Tryz.prog f own run:=ztL zV8 (by
 intro x hx;simp only [List.mem_cons,List.not_mem_nil,or_false] at hx;rcases hx with rfl
 ·exact zOt)
def zb8 (h:Host)(m p:Int):Host:={ h with Mons:=up h.Mons m { ix h.Mons m mZ with Dirty:=up (ix h.Mons m mZ).Dirty p true } }
def opened (h:Host)(m p:Int):Host:=bif ieq (wand .i64 (ix (ix h.Mons m mZ).Outer p sZ).Rights 2) 0 then zeF h m p ⟨(ix (ix h.Mons m mZ).Outer p sZ).Page,3⟩ else h
def zke (h:Host)(m p n:Int):Host:=bif ieq (wand .i64 n 2) 0 then h else opened (zb8 h m p) m p
def mended (h:Host)(m p n:Int):Host:=bif ieq (ix (ix h.Mons m mZ).Outer p sZ).Page (-1) then zke (fetched h m p) m p n else zke h m p n
theorem z1L {r:Int}(h0:0<=r)(h3:r<=3):enough r 2 = !ieq (wand .i64 r 2) 0:=by
 have:r=0\/r=1\/r=2\/r=3:=by omega
 rcases this with rfl|rfl|rfl|rfl<;>rfl
structure SlotFit (s:Slot):Prop where
 no:zef s noSlot=ieq s.Page (-1)
 lo:0<=s.Rights
 hi:s.Rights<=3
theorem zWr {s:Slot}{n:Int}(h:zeK s n=true):SlotFit s:=by
 refine ⟨zX2 h,?_,?_⟩<;>unfold zeK at h<;>cases h1:zef s noSlot
 ·rw [h1] at h;simp only [cF,zdm] at h;have:=(zfU.1 h.2.2).1;omega
 ·unfold zef at h1;rw [Bool.and_eq_true] at h1;have:s.Rights=0:=of_decide_eq_true h1.2;omega
 ·rw [h1] at h;simp only [cF,zdm] at h;have:=(zfU.1 h.2.2).2;omega
 ·unfold zef at h1;rw [Bool.and_eq_true] at h1;have:s.Rights=0:=of_decide_eq_true h1.2;omega
theorem zkS {h:Host}{m p:Int}(hs:Shape h)(hm:hasB m (ln h.Mons)=true):Shape (zb8 h m p):=by
 obtain ⟨g1,g2⟩:=zck hs hm;exact zhn hs ⟨g1.1,g1.2.1,by simpa using g1.2.2.1,g1.2.2.2⟩ ⟨g2.1,g2.2.1,by simpa using g2.2.2.1,g2.2.2.2⟩
theorem zRW {h:Host}{m p:Int}(hs:Shape h)(hm:hasB m (ln h.Mons)=true):Shape (opened h m p)/\hasB m (ln (opened h m p).Mons)=true:=by
 unfold opened;cases ieq (wand .i64 (ix (ix h.Mons m mZ).Outer p sZ).Rights 2) 0
 ·exact ⟨hs,hm⟩
 ·exact ⟨zqp hm hs,zEl hm⟩
theorem zEq {h:Host}{m p n:Int}(hs:Shape h)(hm:hasB m (ln h.Mons)=true):Shape (zke h m p n)/\hasB m (ln (zke h m p n).Mons)=true:=by
 unfold zke;cases ieq (wand .i64 n 2) 0
 ·exact zRW (zkS hs hm) (zed hm)
 ·exact ⟨hs,hm⟩
theorem zRX {h:Host}{m p n:Int}(hf:Fit h)(hm:hasB m (ln h.Mons)=true)(hp:hasB p 8=true):Shape (mended h m p n)/\hasB m (ln (mended h m p n).Mons)=true:=by
 unfold mended;cases ieq (ix (ix h.Mons m mZ).Outer p sZ).Page (-1)
 ·exact zEq hf.1 hm
 ·obtain ⟨h1,h2⟩:=zk0 hf hm hp;exact zEq h1 h2
theorem zRJ {h:Host}{m p:Int}(hf:Fit h)(hm:hasB m (ln h.Mons)=true)(hp:hasB p 8=true):(ix (ix (fetched h m p).Mons m mZ).Outer p sZ).Rights=3:=by
 have hR:=room hf;have hrm:=zoI hf hm;obtain ⟨g1,g2⟩:=zck hR.shape hrm;obtain ⟨k,rfl,hk⟩:=zem (n:=(zdo h).Mons.length) hrm;obtain ⟨q,rfl,hq⟩:=zem (n:=8) hp;unfold fetched zjI;rw [(zfy _ _ _ _).1];have hk':k<(landing (zdo h) (k:Int) (q:Int) (ix (zcP (zdo h)) 0 0)).Mons.length:=by simpa [landing] using hk
 rw [ze5 hk'];have ho:q<(ix (landing (zdo h) (k:Int) (q:Int) (ix (zcP (zdo h)) 0 0)).Mons (k:Int) mZ).Outer.length:=by
  unfold landing;rw [ze5 hk]
  show q<(ix (zdo h).Mons (k:Int) mZ).Outer.length
  rw [g2.1];exact hq
 show (ix (up (ix (landing (zdo h) (k:Int) (q:Int) (ix (zcP (zdo h)) 0 0)).Mons (k:Int) mZ).Outer (q:Int) ⟨_,3⟩) (q:Int) sZ).Rights=3
 rw [ze5 ho]
def zQK (h:Host)(m p n:Int):Prop:=Fit h/\hasB m (ln h.Mons)=true/\hasB p 8=true/\(n=1\/n=2)/\SlotFit (ix (ix h.Mons m mZ).Outer p sZ)
@[simp,reducible] def zwe (h:Host)(m p n:Int):Bool:=pc (zQK h m p n)
@[simp,reducible] def ze1 (h:Host)(m p n:Int):Host:=mended h m p n
def zqv:List AV->Option (Bool×List AV)
 | [.agg [.s (.sl .int) b,.s .mon c,.s .entry d,.s .entry e],.one (.i .i64 f),.one (.i .i64 g),.one (.i .i64 h)]=>some ((zwe (⟨b,c,d,e⟩:Host) f g h),[.agg (zx (ze1 (⟨b,c,d,e⟩:Host) f g h))])
 | _=>none
def zv0 (N:Nat)(a0:Host)(a1 a2 a3:Int):Option Ans :=
 (cond (inb a1 (ln a0.Mons)) (cond (inb a2 (ln (ix a0.Mons a1 zf).Outer)) (cond zc5 (cond (cond (ieq (ix (ix a0.Mons a1 zf).Outer a2 zQ).Page zbZ.Page) (ieq (ix (ix a0.Mons a1 zf).Outer a2 zQ).Rights zbZ.Rights) false) (cond (zCf a0 a1 a2) (cond (ieq (wand .i64 a3 2) 0) (some [(.agg (zx (zgO a0 a1 a2)))]) (cond (inb a1 (ln (zgO a0 a1 a2).Mons)) (cond (inb a2 (ln (ix (zgO a0 a1 a2).Mons a1 zf).Dirty)) (share (up (zgO a0 a1 a2).Mons a1 ({ (ix (zgO a0 a1 a2).Mons a1 zf) with Dirty:=(up (ix (zgO a0 a1 a2).Mons a1 zf).Dirty a2 true) }:Mon)) (fun x5=>(cond (inb a1 (ln x5)) (cond (inb a2 (ln (ix x5 a1 zf).Outer)) (cond (ieq (wand .i64 (ix (ix x5 a1 zf).Outer a2 zQ).Rights 2) 0) (cond (zfr ({ (zgO a0 a1 a2) with Mons:=x5 }:Host) a1 a2 ({ (ix (ix x5 a1 zf).Outer a2 zQ) with Rights:=3 }:Slot)) (some [(.agg (zx (zhh ({ (zgO a0 a1 a2) with Mons:=x5 }:Host) a1 a2 ({ (ix (ix x5 a1 zf).Outer a2 zQ) with Rights:=3 }:Slot))))]) none) (some [(.agg (zx ({ (zgO a0 a1 a2) with Mons:=x5 }:Host)))])) none) none))) none) none)) none) (cond (ieq (wand .i64 a3 2) 0) (some [(.agg (zx a0))]) (cond (inb a1 (ln a0.Mons)) (cond (inb a2 (ln (ix a0.Mons a1 zf).Dirty)) (share (up a0.Mons a1 ({ (ix a0.Mons a1 zf) with Dirty:=(up (ix a0.Mons a1 zf).Dirty a2 true) }:Mon)) (fun x5=>(cond (inb a1 (ln x5)) (cond (inb a2 (ln (ix x5 a1 zf).Outer)) (cond (ieq (wand .i64 (ix (ix x5 a1 zf).Outer a2 zQ).Rights 2) 0) (cond (zfr ({ a0 with Mons:=x5 }:Host) a1 a2 ({ (ix (ix x5 a1 zf).Outer a2 zQ) with Rights:=3 }:Slot)) (some [(.agg (zx (zhh ({ a0 with Mons:=x5 }:Host) a1 a2 ({ (ix (ix x5 a1 zf).Outer a2 zQ) with Rights:=3 }:Slot))))]) none) (some [(.agg (zx ({ a0 with Mons:=x5 }:Host)))])) none) none))) none) none))) none) none) none)
theorem zS5 (N:Nat)(a0:Host)(a1 a2 a3:Int):zCJ (cQ zkN zV zXm zRc) (zB []) N 12 160 [true,true,true,true,false,false,false] 1 1 [[0],[1],[2],[4],[7]] .mon [.agg (zx a0),.one (.i .i64 a1),.one (.i .i64 a2),.one (.i .i64 a3)]=zv0 N a0 a1 a2 a3:=by kernel_rfl
theorem zM1 (a0:Host)(a1 a2 a3:Int)(hb:zG big [.agg (zx a0),.one (.i .i64 a1),.one (.i .i64 a2),.one (.i .i64 a3)])(hc:(zwe a0 a1 a2 a3)=true):∃N,zv0 N a0 a1 a2 a3=some [.agg (zx (ze1 a0 a1 a2 a3))]:=by
 obtain ⟨hf,hm,hp,hn,hs⟩:=zI.1 hc;obtain ⟨g1,g2⟩:=zck hf.1 hm;have tail:∀r,Shape r->hasB a1 (ln r.Mons)=true->(cond (ieq (wand .i64 a3 2) 0) (some [(AV.agg (zx r))]) (cond (inb a1 (ln r.Mons)) (cond (inb a2 (ln (ix r.Mons a1 zf).Dirty)) (share (up r.Mons a1 ({ (ix r.Mons a1 zf) with Dirty:=(up (ix r.Mons a1 zf).Dirty a2 true) }:Mon)) (fun x5=>(cond (inb a1 (ln x5)) (cond (inb a2 (ln (ix x5 a1 zf).Outer)) (cond (ieq (wand .i64 (ix (ix x5 a1 zf).Outer a2 zQ).Rights 2) 0) (cond (zfr ({ r with Mons:=x5 }:Host) a1 a2 ({ (ix (ix x5 a1 zf).Outer a2 zQ) with Rights:=3 }:Slot)) (some [(AV.agg (zx (zhh ({ r with Mons:=x5 }:Host) a1 a2 ({ (ix (ix x5 a1 zf).Outer a2 zQ) with Rights:=3 }:Slot))))]) none) (some [(AV.agg (zx ({ r with Mons:=x5 }:Host)))])) none) none))) none) none))=some [AV.agg (zx (zke r a1 a2 a3))]:=by
  intro r hr hrm;obtain ⟨q1,q2⟩:=zck hr hrm;have hD:=zkS (p:=a2) hr hrm;unfold zke;cases h0:ieq (wand .i64 a3 2) 0
  ·obtain ⟨k,rfl,hk⟩:=zem (n:=r.Mons.length) hrm;have ex:ix (zb8 r (k:Int) a2).Mons (k:Int) mZ={ ix r.Mons (k:Int) mZ with Dirty:=up (ix r.Mons (k:Int) mZ).Dirty a2 true }:=ze5 hk _ _;refine zex rfl (must (zF hrm) (must (zF (zdc q2.2.2.1 hp)) (shr (must (zF (zed hrm)) (must ?_ ?_)))))
   ·rw [ze5 hk];exact zF (zdc q2.1 hp)
   ·unfold opened
    show (cond (ieq (wand .i64 (ix (ix (zb8 r (k:Int) a2).Mons (k:Int) mZ).Outer a2 sZ).Rights 2) 0) _ _)=_
    cases h1:ieq (wand .i64 (ix (ix (zb8 r (k:Int) a2).Mons (k:Int) mZ).Outer a2 sZ).Rights 2) 0
    ·rfl
    ·refine must rfl (must (zbr ⟨(zbg _).2 hD.1,zed hrm,?_,?_⟩) rfl)
     ·show hasB a2 (ln (ix (zb8 r (k:Int) a2).Mons (k:Int) mZ).Outer)=true
      rw [ex];exact zdc q2.1 hp
     ·show (ix (zb8 r (k:Int) a2).Mons (k:Int) mZ).Tables.length<=(ix (zb8 r (k:Int) a2).Mons (k:Int) mZ).Guests.length
      rw [ex];exact Nat.le_of_eq q2.2.2.2
  ·rfl
 refine ⟨0,?_⟩;unfold zv0 ze1 mended;refine must (zF hm) (must (zF (zdc g2.1 hp)) (must rfl ?_));have e:(cond (ieq (ix (ix a0.Mons a1 mZ).Outer a2 sZ).Page zbZ.Page) (ieq (ix (ix a0.Mons a1 mZ).Outer a2 sZ).Rights zbZ.Rights) false)=ieq (ix (ix a0.Mons a1 mZ).Outer a2 sZ).Page (-1):=by
  rw [<- hs.no];unfold zef zbZ;cases ieq (ix (ix a0.Mons a1 mZ).Outer a2 sZ).Page noSlot.Page<;>rfl
 rw [e];cases h0:ieq (ix (ix a0.Mons a1 mZ).Outer a2 sZ).Page (-1)
 ·exact tail a0 hf.1 hm
 ·obtain ⟨h1,h2⟩:=zk0 (p:=a2) hf hm hp;exact must rfl (must (zbr ⟨hf,hm,hp⟩) (tail _ h1 h2))
theorem zIY:zeG Tryz.prog 160 [true,true,true,true,false,false,false] (some (1,1,[[0],[1],[2],[4],[7]])) zqv:=by
 refine zjQ (kt:=.mon) (zdJ zgz zD zK6 zCU) (zC (by kernel_rfl)) (by kernel_rfl) ?_
 intro avs rs hl hr h;have hb:=zjv hr;unfold zqv at h;split at h
 ·obtain ⟨hc,rfl⟩:=zl h;obtain ⟨N,hN⟩:=zM1 _ _ _ _ (by exact hb) hc
  exact ⟨⟨_,rfl⟩,rfl,_,N,12,(zS5 N _ _ _ _ ).trans hN⟩
 ·cases h
@[simp,reducible] def zFS (h:Host)(m p n:Int):Bool:=pc (zQK h m p n)
@[simp,reducible] def zib (h:Host)(m p n:Int):Host:=mended h m p n
def zwj:List CV->List AV->Option (Bool×List CV×List AV)
 | [.s (.sl .int) b,.s .mon c,.s .entry d,.s .entry e],[.one (.i .i64 f),.one (.i .i64 g),.one (.i .i64 h)]=>some ((zFS (⟨b,c,d,e⟩:Host) f g h),zx (zib (⟨b,c,d,e⟩:Host) f g h),[])
 | _,_=>none
def zGd (N:Nat)(c:Host)(a0 a1 a2:Int):Option Ans :=
 (cond (inb a0 (ln c.Mons)) (cond (inb a1 (ln (ix c.Mons a0 zf).Outer)) (cond (ieq (ix (ix c.Mons a0 zf).Outer a1 zQ).Page (-1)) (cond (zBd c a0 a1) (cond (zdi a2 2) (cond (cond (zdM a2 2) false true) (some [(.agg (zx (ze0 c a0 a1)))]) (cond (inb a0 (ln (ze0 c a0 a1).Mons)) (cond (inb a1 (ln (ix (ze0 c a0 a1).Mons a0 zf).Dirty)) (share (up (ze0 c a0 a1).Mons a0 ({ (ix (ze0 c a0 a1).Mons a0 zf) with Dirty:=(up (ix (ze0 c a0 a1).Mons a0 zf).Dirty a1 true) }:Mon)) (fun x5=>(cond (inb a1 (ln (ix x5 a0 zf).Outer)) (cond (zdi (ix (ix x5 a0 zf).Outer a1 zQ).Rights 2) (cond (cond (zdM (ix (ix x5 a0 zf).Outer a1 zQ).Rights 2) false true) (cond (inb a1 (ln (ix x5 a0 zf).Outer)) (share (up x5 a0 ({ (ix x5 a0 zf) with Outer:=(up (ix x5 a0 zf).Outer a1 ({ (ix (ix x5 a0 zf).Outer a1 zQ) with Rights:=3 }:Slot)) }:Mon)) (fun x6=>(cond (zeb ({ (ze0 c a0 a1) with Mons:=x6 }:Host) a0 a1 (ix (ix x5 a0 zf).Outer a1 zQ)) (some [(.agg (zx (zd9 ({ (ze0 c a0 a1) with Mons:=x6 }:Host) a0 a1 (ix (ix x5 a0 zf).Outer a1 zQ))))]) none))) none) (some [(.agg (zx ({ (ze0 c a0 a1) with Mons:=x5 }:Host)))])) none) none))) none) none)) none) none) (cond (zdi a2 2) (cond (cond (zdM a2 2) false true) (some [(.agg (zx c))]) (cond (inb a0 (ln c.Mons)) (cond (inb a1 (ln (ix c.Mons a0 zf).Dirty)) (share (up c.Mons a0 ({ (ix c.Mons a0 zf) with Dirty:=(up (ix c.Mons a0 zf).Dirty a1 true) }:Mon)) (fun x5=>(cond (inb a1 (ln (ix x5 a0 zf).Outer)) (cond (zdi (ix (ix x5 a0 zf).Outer a1 zQ).Rights 2) (cond (cond (zdM (ix (ix x5 a0 zf).Outer a1 zQ).Rights 2) false true) (cond (inb a1 (ln (ix x5 a0 zf).Outer)) (share (up x5 a0 ({ (ix x5 a0 zf) with Outer:=(up (ix x5 a0 zf).Outer a1 ({ (ix (ix x5 a0 zf).Outer a1 zQ) with Rights:=3 }:Slot)) }:Mon)) (fun x6=>(cond (zeb ({ c with Mons:=x6 }:Host) a0 a1 (ix (ix x5 a0 zf).Outer a1 zQ)) (some [(.agg (zx (zd9 ({ c with Mons:=x6 }:Host) a0 a1 (ix (ix x5 a0 zf).Outer a1 zQ))))]) none))) none) (some [(.agg (zx ({ c with Mons:=x5 }:Host)))])) none) none))) none) none)) none)) none) none)
theorem zYY (N:Nat)(c:Host)(a0 a1 a2:Int):zyU (cQ zkN zV zXm zRc) (zB []) N 12 181 [true,true,true,true] (zx c) [.one (.i .i64 a0),.one (.i .i64 a1),.one (.i .i64 a2)]=zGd N c a0 a1 a2:=by kernel_rfl
theorem zWA (c:Host)(a0 a1 a2:Int)(hb:zG big (.agg (zx c) :: [.one (.i .i64 a0),.one (.i .i64 a1),.one (.i .i64 a2)]))(hc:(zFS c a0 a1 a2)=true):∃N,zGd N c a0 a1 a2=some (.agg (zx (zib c a0 a1 a2)) :: []):=by
 obtain ⟨hf,hm,hp,hn,hs⟩:=zI.1 hc;obtain ⟨g1,g2⟩:=zck hf.1 hm;have en:enough a2 2 = !ieq (wand .i64 a2 2) 0:=by rcases hn with rfl|rfl<;>rfl
 have tail:∀r,Shape r->hasB a0 (ln r.Mons)=true->enough (ix (ix r.Mons a0 mZ).Outer a1 sZ).Rights 2=(!ieq (wand .i64 (ix (ix r.Mons a0 mZ).Outer a1 sZ).Rights 2) 0)->(cond (zdi a2 2) (cond (cond (zdM a2 2) false true) (some [(AV.agg (zx r))]) (cond (inb a0 (ln r.Mons)) (cond (inb a1 (ln (ix r.Mons a0 zf).Dirty)) (share (up r.Mons a0 ({ (ix r.Mons a0 zf) with Dirty:=(up (ix r.Mons a0 zf).Dirty a1 true) }:Mon)) (fun x5=>(cond (inb a1 (ln (ix x5 a0 zf).Outer)) (cond (zdi (ix (ix x5 a0 zf).Outer a1 zQ).Rights 2) (cond (cond (zdM (ix (ix x5 a0 zf).Outer a1 zQ).Rights 2) false true) (cond (inb a1 (ln (ix x5 a0 zf).Outer)) (share (up x5 a0 ({ (ix x5 a0 zf) with Outer:=(up (ix x5 a0 zf).Outer a1 ({ (ix (ix x5 a0 zf).Outer a1 zQ) with Rights:=3 }:Slot)) }:Mon)) (fun x6=>(cond (zeb ({ r with Mons:=x6 }:Host) a0 a1 (ix (ix x5 a0 zf).Outer a1 zQ)) (some [(AV.agg (zx (zd9 ({ r with Mons:=x6 }:Host) a0 a1 (ix (ix x5 a0 zf).Outer a1 zQ))))]) none))) none) (some [(AV.agg (zx ({ r with Mons:=x5 }:Host)))])) none) none))) none) none)) none)=some [AV.agg (zx (zke r a0 a1 a2))]:=by
  intro r hr hrm her;obtain ⟨q1,q2⟩:=zck hr hrm;have hD:=zkS (p:=a1) hr hrm;unfold zke;simp only [zdi,zdM,en,cT];cases h0:ieq (wand .i64 a2 2) 0
  ·obtain ⟨k,rfl,hk⟩:=zem (n:=r.Mons.length) hrm;have ex:ix (zb8 r (k:Int) a1).Mons (k:Int) mZ={ ix r.Mons (k:Int) mZ with Dirty:=up (ix r.Mons (k:Int) mZ).Dirty a1 true }:=ze5 hk _ _;have hk':k<(zb8 r (k:Int) a1).Mons.length:=by simpa [zb8] using hk
   have hi:inb a1 (ln (ix (zb8 r (k:Int) a1).Mons (k:Int) mZ).Outer)=true:=by
    rw [ex];exact zF (zdc q2.1 hp)
   refine zex rfl (must (zF hrm) (must (zF (zdc q2.2.2.1 hp)) (shr (must hi ?_))));unfold opened
   show (cond (cond (enough (ix (ix (zb8 r (k:Int) a1).Mons (k:Int) mZ).Outer a1 sZ).Rights 2) false true) _ _)=_
   have e2:(cond (enough (ix (ix (zb8 r (k:Int) a1).Mons (k:Int) mZ).Outer a1 sZ).Rights 2) false true)=ieq (wand .i64 (ix (ix (zb8 r (k:Int) a1).Mons (k:Int) mZ).Outer a1 sZ).Rights 2) 0:=by
    rw [ex]
    show (cond (enough (ix (ix r.Mons (k:Int) mZ).Outer a1 sZ).Rights 2) false true)=ieq (wand .i64 (ix (ix r.Mons (k:Int) mZ).Outer a1 sZ).Rights 2) 0
    rw [her];cases ieq (wand .i64 (ix (ix r.Mons (k:Int) mZ).Outer a1 sZ).Rights 2) 0<;>rfl
   rw [e2];cases h1:ieq (wand .i64 (ix (ix (zb8 r (k:Int) a1).Mons (k:Int) mZ).Outer a1 sZ).Rights 2) 0
   ·rfl
   ·have hX:Shape { zb8 r (k:Int) a1 with Mons:=up (zb8 r (k:Int) a1).Mons (k:Int) { ix (zb8 r (k:Int) a1).Mons (k:Int) mZ with Outer:=up (ix (zb8 r (k:Int) a1).Mons (k:Int) mZ).Outer a1 ⟨(ix (ix (zb8 r (k:Int) a1).Mons (k:Int) mZ).Outer a1 sZ).Page,3⟩ } }:=by
     obtain ⟨w1,w2⟩:=zck hD (zed hrm);exact zhn hD ⟨by simpa using w1.1,w1.2⟩ ⟨by simpa using w2.1,w2.2⟩
    have hh:∀(x y:Mon),hasB (k:Int) (ln (up (up r.Mons (k:Int) x) (k:Int) y))=true:=fun x y=>by simpa [ln] using hrm
    refine must rfl (must hi (shr (must (zbr ⟨hX,hh _ _⟩) ?_)));exact congrArg (fun x=>some [AV.agg (zx x)]) (zyl (h:=zb8 r (k:Int) a1) (p:=a1) (s:=⟨(ix (ix (zb8 r (k:Int) a1).Mons (k:Int) mZ).Outer a1 sZ).Page,3⟩) hk' (by rw [ex];exact q2.2.2.2))
  ·rfl
 refine ⟨0,?_⟩;unfold zGd zib mended;refine must (zF hm) (must (zF (zdc g2.1 hp)) ?_);cases h0:ieq (ix (ix c.Mons a0 mZ).Outer a1 sZ).Page (-1)
 ·exact tail c hf.1 hm (z1L hs.lo hs.hi)
 ·obtain ⟨h1,h2⟩:=zk0 (p:=a1) hf hm hp;exact must rfl (must (zbr ⟨hf,hm,hp⟩) (tail _ h1 h2 (by rw [zRJ hf hm hp];rfl)))
theorem zPv:zeL Tryz.prog 181 [true,true,true,true] zwj:=by
 refine zhI (zdJ zgz zD zK6 zCU) (zC (by kernel_rfl)) ?_
 intro cs avs cs' rs hl hr h;have hb:=zjd hr;unfold zwj at h;split at h
 ·obtain ⟨hc,rfl,rfl⟩:=zkG h;obtain ⟨N,hN⟩:=zWA _ _ _ _ (by exact hb) hc
  exact ⟨rfl,_,N,12,(zYY N _ _ _ _ ).trans hN⟩
 ·cases h
def zgI:zzu:=[(181,([true,true,true,true],zwj))]++zXm
theorem zdS:∀f own run,zy zgI f=some (own,run)->zeL Tryz.prog f own run:=ztL zK6 (by
 intro x hx;simp only [List.mem_cons,List.not_mem_nil,or_false] at hx;rcases hx with rfl
 ·exact zPv)
def zGp:zzE:=[(160,([true,true,true,true,false,false,false],(some (1,1,[[0],[1],[2],[4],[7]])),zqv))]++zRc
theorem zxT:∀f own inp run,zy zGp f=some (own,inp,run)->zeG Tryz.prog f own inp run:=ztD zCU (by
 intro x hx;simp only [List.mem_cons,List.not_mem_nil,or_false] at hx;rcases hx with rfl
 ·exact zIY)
theorem zIf {h:Host}(hh:zdd h=true):h.Memory.length=12:=by
 unfold zdd at hh;simp only [zdm] at hh;have h1:=hh.1;unfold zh5 at h1;simp only [zdm] at h1;have:ln h.Memory=12:=of_decide_eq_true h1.2;simp only [ln] at this;omega
theorem zhj {h:Host}(hh:zdd h=true):∀x∈h.Mons,zek x=true:=by
 unfold zdd at hh;simp only [zdm] at hh;exact zIW _ _ hh.2.2.2.2
theorem zFW {x:Mon}(hk:zek x=true):ShM x:=by
 have ho:=zu8 (zkJ hk);unfold zek at hk;simp only [zdm] at hk;have e1:ln x.Tables=ln x.Guests:=of_decide_eq_true hk.2.1;have e2:ln x.Out=8:=of_decide_eq_true hk.2.2.2.1;have e3:ln x.Dirty=8:=of_decide_eq_true hk.2.2.2.2.1;simp only [ln] at *;exact ⟨by omega,by omega,by omega,by omega⟩
theorem zzZ {h:Host}(hs:SmH h)(hh:zdd h=true):Fit h:=by
 refine ⟨⟨hs,fun x hx=>zFW (zhj hh x hx)⟩,by rw [zIf hh];decide,?_⟩
 unfold zdd at hh;simp only [zdm] at hh;have:=zSI _ _ rfl hh.2.2.2.2;omega
theorem zG0 {x:Mon}(hk:zek x=true){p:Int}(hp:hasB p 8=true):SlotFit (ix x.Outer p sZ):=by
 have ht:=zkJ hk;unfold zdI at ht;simp only [zdm] at ht;exact zWr (List.all_eq_true.1 ht.1 _ (zde (zdc (zFW hk).1 hp) _))
theorem zUW {h:Host}{m p:Int}(hf:Fit h)(hm:hasB m (ln h.Mons)=true):Fit (zb8 h m p):=by
 refine ⟨zkS hf.1 hm,hf.2.1,?_⟩;obtain ⟨k,rfl,hk⟩:=zem (n:=h.Mons.length) hm;have:=zQx h.Mons k (ix h.Mons (k:Int) mZ) { ix h.Mons (k:Int) mZ with Dirty:=up (ix h.Mons (k:Int) mZ).Dirty p true } (by rw [zbq hk];exact List.getElem?_eq_getElem hk)
 have h3:=hf.2.2;unfold zb8;simp only [up,Int.toNat_natCast]
 dsimp only at this
 simp only [up] at this;omega
abbrev gZ:Guest:=Ty.dflt .guest
@[simp,reducible] def zps (h:Host)(m:Int):Bool:=pc (zdQ h)
@[simp,reducible] def zbm (h:Host)(m:Int):Mon:=bif hasB m (ln h.Mons) then ix h.Mons m mZ else mZ
@[simp,reducible] def zjb (h:Host)(m:Int):Bool:=hasB m (ln h.Mons)
def zww:List AV->Option (Bool×List AV)
 | [.agg [.s (.sl .int) c,.s .mon d,.s .entry e,.s .entry f],.one (.i .i64 g)]=>some ((zps (⟨c,d,e,f⟩:Host) g),[.agg (Ty.cells .mon (zbm (⟨c,d,e,f⟩:Host) g)),.one (.b (zjb (⟨c,d,e,f⟩:Host) g))])
 | _=>none
def zBh (N:Nat)(a0:Host)(a1:Int):Option Ans :=
 (cond (zcz a1 (ln a0.Mons)) (cond (cond (zcT a1 (ln a0.Mons)) false true) (some [(.agg (Ty.cells .mon (⟨[],[],[],[],[],0,0,[],0⟩:Mon))),(.one (.b false))]) (cond (inb a1 (ln a0.Mons)) (cond (ziR (ix a0.Mons a1 zf)) (some [(.agg (Ty.cells .mon (zhU (ix a0.Mons a1 zf)))),(.one (.b true))]) none) none)) none)
theorem zW2 (N:Nat)(a0:Host)(a1:Int):evalFn (cQ zkN zV zgI zGp) (zB []) N 12 50 [.agg (zx a0),.one (.i .i64 a1)]=zBh N a0 a1:=by kernel_rfl
theorem zTB (a0:Host)(a1:Int)(hb:zG big [.agg (zx a0),.one (.i .i64 a1)])(hc:(zps a0 a1)=true):∃N,zBh N a0 a1=some [.agg (Ty.cells .mon (zbm a0 a1)),.one (.b (zjb a0 a1))]:=by
 have hs:=(zbg a0).1 (zI.1 hc);refine ⟨0,?_⟩;unfold zBh zbm zjb;refine must rfl ?_;rw [show zcT a1 (ln a0.Mons)=hasB a1 (ln a0.Mons) from rfl]
 cases hh:hasB a1 (ln a0.Mons)
 ·rfl
 ·exact zex rfl (must (zF hh) (must (zbr (hs.2.1.2 _ (zde hh _))) rfl))
theorem zNl:Holds Tryz.prog 50 zww:=zo zgz zD zdS zxT (zC (by kernel_rfl)) fun avs rs hb h=>by
 unfold zww at h;split at h
 ·obtain ⟨hc,rfl⟩:=zl h;exact (fin2 zTB zW2 hc hb :)
 ·cases h
def zcF (h:Host)(m g:Int):Bool:=bif zdd h then (cond (hasB m (ln h.Mons)) (hasB g (ln (ix h.Mons m mZ).Guests)) false) else false
@[simp,reducible] def zgf (h:Host)(m g:Int):Bool:=pc (zdQ h)
@[simp,reducible] def zhH (h:Host)(m g:Int):Bool:=zcF h m g
def zwn:List AV->Option (Bool×List AV)
 | [.agg [.s (.sl .int) c,.s .mon d,.s .entry e,.s .entry f],.one (.i .i64 g),.one (.i .i64 h)]=>some ((zgf (⟨c,d,e,f⟩:Host) g h),[.one (.b (zhH (⟨c,d,e,f⟩:Host) g h))])
 | _=>none
def zCe (N:Nat)(a0:Host)(a1 a2:Int):Option Ans :=
 (cond (zru a0) (cond (znT a0) (cond (zZ a1 0 (wsub .i64 (ln a0.Mons) 1)) (cond (zbf a1 0 (wsub .i64 (ln a0.Mons) 1)) (cond (inb a1 (ln a0.Mons)) (cond (zZ a2 0 (wsub .i64 (ln (ix a0.Mons a1 zf).Guests) 1)) (some [(.one (.b (zbf a2 0 (wsub .i64 (ln (ix a0.Mons a1 zf).Guests) 1))))]) none) none) (some [(.one (.b false))])) none) (some [(.one (.b false))])) none)
theorem zWi (N:Nat)(a0:Host)(a1 a2:Int):evalFn (cQ zkN zV zgI zGp) (zB []) N 12 39 [.agg (zx a0),.one (.i .i64 a1),.one (.i .i64 a2)]=zCe N a0 a1 a2:=by kernel_rfl
theorem zUp (a0:Host)(a1 a2:Int)(hb:zG big [.agg (zx a0),.one (.i .i64 a1),.one (.i .i64 a2)])(hc:(zgf a0 a1 a2)=true):∃N,zCe N a0 a1 a2=some [.one (.b (zhH a0 a1 a2))]:=by
 have hs:=(zbg a0).1 (zI.1 hc);refine ⟨0,?_⟩;unfold zCe zhH zcF;refine must rfl ?_;rw [show znT a0=zdd a0 from rfl]
 cases hh:zdd a0
 ·rfl
 ·rw [show zbf a1 0 (wsub .i64 (ln a0.Mons) 1)=hasB a1 (ln a0.Mons) from zr8 hs.2.1.1 a1]
  refine must rfl (must rfl ?_);cases h1:hasB a1 (ln a0.Mons)
  ·rfl
  ·have hg:(ix a0.Mons a1 mZ).Guests.length<=1048576:=(hs.2.1.2 _ (zde h1 _)).2.2.2.1.1;rw [show zbf a2 0 (wsub .i64 (ln (ix a0.Mons a1 zf).Guests) 1)=hasB a2 (ln (ix a0.Mons a1 mZ).Guests) from zr8 hg a2]
   exact must rfl (must (zF h1) (must rfl rfl))
theorem zNf:Holds Tryz.prog 39 zwn:=zo zgz zD zdS zxT (zC (by kernel_rfl)) fun avs rs hb h=>by
 unfold zwn at h;split at h
 ·obtain ⟨hc,rfl⟩:=zl h;exact (zd7 zUp zWi hc hb :)
 ·cases h
def zjh (h:Host)(m:Int):Nat->Nat->List (List Int)
 | 0,_=>[]
 | n+1,i=>zjg h m (i:Int) :: zjh h m n (i+1)
theorem zyv (h:Host)(m:Int):∀(n i:Nat),(zjh h m n i).length=n
 | 0,_=>rfl
 | n+1,i=>by simp [zjh,zyv h m n]
def zer (h:Host)(m:Int):Bare:=bif hasB m (ln h.Mons) then ⟨zjh h m 8 0,(ix h.Mons m mZ).Guests,(ix h.Mons m mZ).Outs,(ix h.Mons m mZ).Pending⟩ else ⟨[],[],[],0⟩
theorem zMa {ρ:Type}(h:Host)(m:Int)(K:List (List Int)->Option ρ):∀(n i:Nat) (acc:List (List Int)),acc.length+n<=2147483648 ->
 goN (fun i acc κ=>bif few (ln (ap acc [zjg h m (i:Int)])) then κ (ap acc [zjg h m (i:Int)]) else none) K n i acc=K (acc++zjh h m n i)
 | 0,_,acc,_=>by simp [goN,zjh]
 | n+1,i,acc,hl=>by
  simp only [goN,zjh];rw [zes (by simp [ap];omega),cT,zMa h m K n (i+1) _ (by simp [ap];omega)]
  simp [ap]
@[simp,reducible] def zAe (h:Host)(m:Int):Bool:=pc (zdQ h)
@[simp,reducible] def zn6 (h:Host)(m:Int):Bare:=zer h m
def zWd:zbP:=[(50,zww),(39,zwn)]++zkN
theorem zSm:zbv zWd:=zn zNl (zn zNf zgz)
def zta:List AV->Option (Bool×List AV)
 | [.agg [.s (.sl .int) b,.s .mon c,.s .entry d,.s .entry e],.one (.i .i64 f)]=>some ((zAe (⟨b,c,d,e⟩:Host) f),[.agg (Ty.cells .bare (zn6 (⟨b,c,d,e⟩:Host) f))])
 | _=>none
def zzl (N:Nat)(a0:Host)(a1:Int):Option Ans :=
 (cond (zps a0 a1) (cond (cond (zjb a0 a1) false true) (some [(.agg (Ty.cells .bare (⟨[],[],[],0⟩:Bare)))]) (iter (σ:=(Int×(Int×(Int×(Int×((List (List Int))×((List Mon)×((List Entry)×((List Entry)×((List (List Int))×((List Guest)×((List Int)×((List (List Int))×((List Guest)×((List Int)×Unit))))))))))))))) N (fun r3 s4=>(cond (ilt s4.2.1 8) (cond (zAg (⟨s4.2.2.2.2.1,s4.2.2.2.2.2.1,s4.2.2.2.2.2.2.1,s4.2.2.2.2.2.2.2.1⟩:Host) s4.1 s4.2.1) (cond (few (ln (ap s4.2.2.2.2.2.2.2.2.2.2.2.1 [(zty (⟨s4.2.2.2.2.1,s4.2.2.2.2.2.1,s4.2.2.2.2.2.2.1,s4.2.2.2.2.2.2.2.1⟩:Host) s4.1 s4.2.1)]))) (r3 (s4.1,((zq .i64 s4.2.1 1),(s4.2.2.1,(s4.2.2.2.1,(s4.2.2.2.2.1,(s4.2.2.2.2.2.1,(s4.2.2.2.2.2.2.1,(s4.2.2.2.2.2.2.2.1,(s4.2.2.2.2.2.2.2.2.1,(s4.2.2.2.2.2.2.2.2.2.1,(s4.2.2.2.2.2.2.2.2.2.2.1,((ap s4.2.2.2.2.2.2.2.2.2.2.2.1 [(zty (⟨s4.2.2.2.2.1,s4.2.2.2.2.2.1,s4.2.2.2.2.2.2.1,s4.2.2.2.2.2.2.2.1⟩:Host) s4.1 s4.2.1)]),(s4.2.2.2.2.2.2.2.2.2.2.2.2.1,(s4.2.2.2.2.2.2.2.2.2.2.2.2.2.1,()))))))))))))))) none) none) (some [(.agg (Ty.cells .bare (⟨s4.2.2.2.2.2.2.2.2.2.2.2.1,s4.2.2.2.2.2.2.2.2.2.2.2.2.1,s4.2.2.2.2.2.2.2.2.2.2.2.2.2.1,s4.2.2.2.1⟩:Bare)))]))) (a1,(0,(0,((zbm a0 a1).Pending,(a0.Memory,(a0.Mons,(a0.Buffer,(a0.IoBuffer,([],([],([],([],((zbm a0 a1).Guests,((zbm a0 a1).Outs,())))))))))))))))) none)
def zQM:FuncId->Nat->Option Tmpl:=zB [(67,0,{ n:=39,tm:=[(1,.i .i64),(2,.lp 0 0),(4,.lp 1 0),(7,.lp 2 0),(8,.i .i64)],lo:=[(0,[.sl 0 [],.sl 1 [],.sl 2 [],.sl 3 []]),(1,[.sl 4 [],.sl 5 [],.sl 6 [],.i .i64]),(2,[.sl 7 [],.sl 8 [],.sl 9 [],.i .i64])],ro:=[(0,(.sl .int),false),(1,.mon,false),(2,.entry,false),(3,.entry,false),(4,(.sl .int),true),(5,.guest,true),(6,.int,true),(7,(.sl .int),true),(8,.guest,true),(9,.int,true)] })]
theorem zU0 (N:Nat)(a0:Host)(a1:Int):evalFn (cQ zWd zV zgI zGp) zQM N 12 67 [.agg (zx a0),.one (.i .i64 a1)]=zzl N a0 a1:=by kernel_rfl
theorem zQq (a0:Host)(a1:Int)(hb:zG big [.agg (zx a0),.one (.i .i64 a1)])(hc:(zAe a0 a1)=true):∃N,zzl N a0 a1=some [.agg (Ty.cells .bare (zn6 a0 a1))]:=by
 have hs:=zI.1 hc;refine ⟨NN,?_⟩;have hNN:∀{n:Nat},n<=big->n<NN:=fun h=>zb4 h;generalize NN=N at hNN ⊢;unfold zzl zn6 zer;refine must (zbr hs) ?_;rw [show zjb a0 a1=hasB a1 (ln a0.Mons) from rfl]
 cases hh:hasB a1 (ln a0.Mons)
 ·rfl
 ·refine zex rfl ?_;refine (zz8 8 (fun i (t:(List (List Int)))=>(a1,(i:Int),0,(zbm a0 a1).Pending,a0.Memory,a0.Mons,a0.Buffer,a0.IoBuffer,[],[],[],t,(zbm a0 a1).Guests,(zbm a0 a1).Outs,())) _ (fun i (acc:List (List Int)) κ=>bif few (ln (ap acc [zjg a0 a1 (i:Int)])) then κ (ap acc [zjg a0 a1 (i:Int)]) else none) (fun (t:(List (List Int)))=>(some [(.agg (Ty.cells .bare (⟨t,(zbm a0 a1).Guests,(zbm a0 a1).Outs,(zbm a0 a1).Pending⟩:Bare)))])) (fun i hi t rec=>?_) (fun t rec=>?_) _ ([]) (hNN (by decide))).trans ?_
  ·simp only [show ilt (i:Int) 8=true from decide_eq_true (by omega),zbd hi (show 8<=big by decide),cT]
   exact must (zbr hs) rfl
  ·simp only [show ilt (((8:Nat)):Int) 8=false from decide_eq_false (by omega),cF]
  rw [zMa a0 a1 _ 8 0 [] (by decide)]
  simp only [zbm,hh,cT,List.nil_append]
theorem zJY:Holds Tryz.prog 67 zta:=zo zSm zD zdS zxT (zC (by kernel_rfl)) fun avs rs hb h=>by
 unfold zta at h;split at h
 ·obtain ⟨hc,rfl⟩:=zl h;exact (fin2 zQq zU0 hc hb :)
 ·cases h
theorem zUz:zc4 zyd=true:=by decide
theorem zVI {p:Nat->Bool}:∀{n i q:Nat},zs3 p n i=true->i<=q->q<i+n->p q=true
 | 0,i,q,_,h1,h2=>by omega
 | n+1,i,q,h,h1,h2=>by
  simp only [zs3,Bool.and_eq_true] at h
  by_cases he:i=q
  ·subst he;exact h.1
  ·exact zVI h.2 (by omega) (by omega)
theorem zY1 {h:Host}{m:Int}(hh:zdd h=true)(hm:hasB m (ln h.Mons)=true){p:Int}(hp:hasB p 8=true):zc4 (zjg h m p)=true:=by
 have hk:=zhj hh _ (zde hm mZ);have hsh:=zFW hk;have hmem:h.Memory.all zc4=true:=by
  unfold zdd at hh;simp only [zdm] at hh;have h1:=hh.1;unfold zh5 at h1;simp only [zdm] at h1;exact h1.1
 unfold zjg;rw [hm,hp];simp only [cT];have hsl:zdR (ix h.Mons m mZ).Outer p=ix (ix h.Mons m mZ).Outer p sZ:=by
  unfold zdR;rw [zdc hsh.1 hp];rfl
 rw [hsl];have hAt:∀(mm:List (List Int)) (q:Int),(hasB q (ln mm)=true->zc4 (ix mm q [])=true)->zc4 (zg5 mm q)=true:=by
  intro mm q hq;unfold zg5;cases h1:hasB q (ln mm)
  ·exact zUz
  ·exact hq h1
 cases hpg:ine (ix (ix h.Mons m mZ).Outer p sZ).Page (-1)
 ·refine hAt _ _ (fun hq=>?_);obtain ⟨q,rfl,hq8⟩:=zem (n:=8) hp;have hfit:fits (ix h.Mons m mZ) q=true:=by
   unfold zek at hk;simp only [zdm] at hk;exact zVI hk.2.2.2.2.2.2.2.2.2.2 (by omega) (by omega)
  unfold fits zCR at hfit;have hno:zef (ix (ix h.Mons m mZ).Outer (q:Int) sZ) noSlot=true:=by
   rw [(zG0 (zhj hh _ (zde hm mZ)) hp).no];rw [zj2] at hpg;cases h1:ieq (ix (ix h.Mons m mZ).Outer (q:Int) sZ).Page (-1)
   ·rw [h1] at hpg;cases hpg
   ·rfl
  rw [hno] at hfit;exact hfit
 ·exact hAt _ _ (fun hq=>List.all_eq_true.1 hmem _ (zde hq _))
theorem zMA {h:Host}{m:Int}(hh:zdd h=true)(hm:hasB m (ln h.Mons)=true):∀(n i:Nat),i+n<=8->(zjh h m n i).all zc4=true
 | 0,_,_=>rfl
 | n+1,i,hi=>by
  simp only [zjh,List.all_cons,Bool.and_eq_true];exact ⟨zY1 hh hm (decide_eq_true (by omega)),zMA hh hm n (i+1) (by omega)⟩
theorem zUi {h:Host}{m:Int}(hh:zdd h=true)(hm:hasB m (ln h.Mons)=true):zg0 (zer h m)=true:=by
 have hk:=zhj hh _ (zde hm mZ);unfold zek at hk;simp only [zdm] at hk;unfold zer zg0 zh5;rw [hm];simp only [cT,hk.2.2.2.2.2.2.2.2.2.1,zMA hh hm 8 0 (by decide),ln,zyv]
 simp only [ln] at hk;rw [hk.1,hk.2.2.2.2.2.1,hk.2.2.2.2.2.2.1];rfl
def zjV:zbP:=[(67,zta)]++zWd
theorem zgs:zbv zjV:=zn zJY zSm
def zdY (l:List Mon):List (List Guest):=l.map fun x=>x.Guests
theorem zzS {l:List Mon}{m:Int}{x:Mon}(hm:hasB m (ln l)=true)(hx:x.Guests=(ix l m mZ).Guests):zdY (up l m x)=zdY l:=by
 obtain ⟨k,rfl,hk⟩:=zem (n:=l.length) hm;unfold zdY up;rw [List.map_set,Int.toNat_natCast,hx,zbq hk];have:=@List.set_getElem_self _ (l.map fun x=>x.Guests) k (by simpa using hk)
 simpa using this
theorem zHn {l l':List Mon}(h:zdY l'=zdY l)(m:Int):(ix l' m mZ).Guests=(ix l m mZ).Guests:=by
 unfold zdY at h;have h2:(l'.map fun x=>x.Guests)[m.toNat]?=(l.map fun x=>x.Guests)[m.toNat]?:=by rw [h]
 rw [List.getElem?_map,List.getElem?_map] at h2;unfold ix;simp only [List.getD_eq_getElem?_getD];cases h3:l'[m.toNat]? <;> cases h4:l[m.toNat]? <;> rw [h3,h4] at h2<;>simp at h2 ⊢;exact h2
theorem zys {h:Host}{m p:Int}{s:Slot}(hm:hasB m (ln h.Mons)=true):zdY (zeF h m p s).Mons=zdY h.Mons:=by
 rw [(zfy h m p s).1];exact zzS hm rfl
theorem z1D {h:Host}{m p:Int}(hm:hasB m (ln h.Mons)=true):zdY (ze9 h m p).Mons=zdY h.Mons:=(zys (h:=zfq h m p) (zed hm)).trans (zzS hm rfl)
theorem z1f {h:Host}(hf:Fit h):zdY (zdo h).Mons=zdY h.Mons:=by
 unfold zdo;cases h0:ieq (ln (zcP h)) 0
 ·rfl
 ·exact z1D (zCM hf h0).1
theorem zWz {h:Host}{m p:Int}(hf:Fit h)(hm:hasB m (ln h.Mons)=true):zdY (fetched h m p).Mons=zdY h.Mons:=by
 have hr:=zoI hf hm;exact ((zys (h:=landing (zdo h) m p (ix (zcP (zdo h)) 0 0)) (zed hr)).trans (zzS hr rfl)).trans (z1f hf)
theorem zPC {h:Host}{m p n:Int}(hm:hasB m (ln h.Mons)=true):zdY (zke h m p n).Mons=zdY h.Mons:=by
 have hd:zdY (zb8 h m p).Mons=zdY h.Mons:=zzS hm rfl;unfold zke;cases ieq (wand .i64 n 2) 0
 ·unfold opened;cases ieq (wand .i64 (ix (ix (zb8 h m p).Mons m mZ).Outer p sZ).Rights 2) 0
  ·exact hd
  ·exact (zys (h:=zb8 h m p) (zed hm)).trans hd
 ·rfl
theorem zY0 {h:Host}{m p n:Int}(hf:Fit h)(hm:hasB m (ln h.Mons)=true)(hp:hasB p 8=true):zdY (mended h m p n).Mons=zdY h.Mons:=by
 unfold mended;cases ieq (ix (ix h.Mons m mZ).Outer p sZ).Page (-1)
 ·exact zPC hm
 ·exact (zPC (zk0 hf hm hp).2).trans (zWz hf hm)
theorem z1S {l l':List Mon}(h:zdY l'=zdY l):l'.length=l.length:=by
 have:=congrArg List.length h;simpa [zdY] using this
abbrev kZ:Kept:=Ty.dflt .kept
theorem z2Z {x:Guest}(hk:zdF x=true){p n:Int}(hw:zfW x.Live p n=true):hasB (zcQ x.Live p n) 8=true:=by
 have ht:zdI x.Live 4 8=true:=by
  unfold zdF at hk;simp only [Bool.and_eq_true] at hk;exact hk.2.2.2.2.1
 unfold zcQ;rw [hw];simp only [cT];unfold zfW at hw;cases h1:ieq (zdR x.Live p).Page (-1)
 ·unfold zdR at h1 ⊢;cases h2:hasB p (ln x.Live)
  ·rw [h2] at h1;cases h1
  ·rw [h2] at h1;simp only [cT] at h1 ⊢;unfold zdI at ht;simp only [zdm] at ht;have hs:=List.all_eq_true.1 ht.1 _ (zde h2 sZ);unfold zeK at hs;cases h3:zef (ix x.Live p sZ) noSlot
   ·rw [h3] at hs;simp only [cF,zdm] at hs;have:=zfU.1 hs.2.1;rw [show wsub .i64 8 1=7 from rfl] at this
    show hasB (ix x.Live p sZ).Page 8=true
    exact decide_eq_true (by omega)
   ·unfold zef at h3;rw [Bool.and_eq_true] at h3;have:(ix x.Live p sZ).Page = -1:=of_decide_eq_true h3.1;rw [show ieq (ix x.Live p zQ).Page (-1)=true from decide_eq_true this] at h1
    cases h1
 ·rw [h1] at hw;cases hw
def zdq (h:Host)(m g:Int):List Slot:=(ix (ix h.Mons m mZ).Guests g gZ).Live
def zcR (h:Host)(m g:Int):Kept:=ix (ix h.Mons m mZ).Tables g kZ
def zrS (h:Host)(io:Bool):List Entry:=bif io then h.IoBuffer else h.Buffer
def zuG (b:List Entry)(m g page:Int):Option Entry:=zzG b (zi2 m g) page
def zjP (b:List Entry)(m g page need:Int):Bool:=bif (zuG b m g page).isSome then enough ((zuG b m g page).getD ⟨0,0,0,0⟩).Rights need else false
def zeD (h:Host)(m g page need:Int):Bool:=bif zkF (zcR h m g) page then (cond (ieq (ze4 (zcR h m g) page).Page (-1)) true (!enough (ze4 (zcR h m g) page).Rights need)) else true
def zc0 (h:Host)(m g page:Int):Host:={ h with Mons:=up h.Mons m { ix h.Mons m mZ with Tables:=up (ix h.Mons m mZ).Tables g (filled (zcR h m g) (zdq h m g) (ix h.Mons m mZ).Outer page) } }
def z0w (h:Host)(m g page:Int):Entry:=⟨zi2 m g,page,(ze4 (zcR h m g) page).Page,(ze4 (zcR h m g) page).Rights⟩
def zPi (h:Host)(m g page:Int)(io:Bool):Host:=bif io then { h with IoBuffer:=zA9 h.IoBuffer (z0w h m g page) } else { h with Buffer:=zA9 h.Buffer (z0w h m g page) }
def zeS (h:Host)(m g page:Int)(io:Bool):Host×Int×Bool:=(zPi h m g page io,(ze4 (zcR h m g) page).Page,true)
def zhw (h:Host)(b:List Entry)(m g page need q:Int)(io:Bool):Host×Int×Bool :=
 bif zjP b m g page need then (h,((zuG b m g page).getD ⟨0,0,0,0⟩).Host,true)
 else (cond (zeD h m g page need) (zeS (zc0 (mended h m q need) m g page) m g page io) (zeS h m g page io))
def zgv (need:Int):Bool:=bif ieq need 1 then true else ieq need 2
def zdG (h:Host)(m g page need:Int):Bool:=bif zcF h m g then (cond (zgv need) (zfW (zdq h m g) page need) false) else false
def lookOf (h:Host)(b:List Entry)(m g page need:Int)(io:Bool):Host×Int×Bool :=
 bif zdG h m g page need then zhw (cond (ieq need 2) (zb8 h m (zcQ (zdq h m g) page need)) h) b m g page need (zcQ (zdq h m g) page need) io else (h,-1,false)
structure Kp (h r:Host):Prop where
 shape:Shape r
 gs:zdY r.Mons=zdY h.Mons
theorem Kp.has {h r:Host}(k:Kp h r){m:Int}(hm:hasB m (ln h.Mons)=true):hasB m (ln r.Mons)=true:=by
 rw [ln,z1S k.gs];exact hm
theorem zWM {h:Host}{m g page:Int}(hs:Shape h)(hm:hasB m (ln h.Mons)=true)(hg:hasB g (ln (ix h.Mons m mZ).Guests)=true):Shape (zc0 h m g page):=by
 obtain ⟨g1,g2⟩:=zck hs hm;have ht:hasB g (ln (ix h.Mons m mZ).Tables)=true:=by rw [ln,g2.2.2.2];exact hg
 exact zhn hs ⟨g1.1,g1.2.1,g1.2.2.1,g1.2.2.2.1,g1.2.2.2.2.1,zVG g1.2.2.2.2.2 (zXa (g1.2.2.2.2.2.2 _ (zde ht _)))⟩ ⟨g2.1,g2.2.1,g2.2.2.1,by simpa using g2.2.2.2⟩
theorem zYg {h r:Host}{m g page:Int}{io:Bool}(k:Kp h r):Kp h (zPi r m g page io):=by
 obtain ⟨⟨h1,h2,h3,h4⟩,h5⟩:=k.shape;unfold zPi;cases io
 ·exact ⟨⟨⟨h1,h2,(zz1 _ h3).1,h4⟩,h5⟩,k.gs⟩
 ·exact ⟨⟨⟨h1,h2,h3,(zz1 _ h4).1⟩,h5⟩,k.gs⟩
structure LookAt (h:Host) (m g q need:Int):Prop where
 fit:Fit h
 hm:hasB m (ln h.Mons)=true
 hg:hasB g (ln (ix h.Mons m mZ).Guests)=true
 hq:hasB q 8=true
 hn:need=1\/need=2
 hs:SlotFit (ix (ix h.Mons m mZ).Outer q sZ)
theorem LookAt.mend {h:Host}{m g q need:Int}(A:LookAt h m g q need):zQK h m q need:=⟨A.fit,A.hm,A.hq,A.hn,A.hs⟩
theorem LookAt.kp {h:Host}{m g q need:Int}(A:LookAt h m g q need):Kp h (mended h m q need):=⟨(zRX A.fit A.hm A.hq).1,zY0 A.fit A.hm A.hq⟩
theorem LookAt.fill {h:Host}{m g q need:Int}(A:LookAt h m g q need)(page:Int):Kp h (zc0 (mended h m q need) m g page):=by
 have k:=A.kp;have hg:hasB g (ln (ix (mended h m q need).Mons m mZ).Guests)=true:=by rw [zHn k.gs];exact A.hg
 have e:zdY (zc0 (mended h m q need) m g page).Mons=zdY (mended h m q need).Mons:=zzS (k.has A.hm) rfl;exact ⟨zWM k.shape (k.has A.hm) hg,e.trans k.gs⟩
theorem zPT {h:Host}{b:List Entry}{m g page need q:Int}{io:Bool}(A:LookAt h m g q need):Kp h (zhw h b m g page need q io).1:=by
 unfold zhw;cases zjP b m g page need
 ·cases zeD h m g page need
  ·exact zYg ⟨A.fit.1,rfl⟩
  ·exact zYg (A.fill page)
 ·exact ⟨A.fit.1,rfl⟩
theorem zcK {h:Host}{m g:Int}(hh:zcF h m g=true):zdd h=true/\hasB m (ln h.Mons)=true/\hasB g (ln (ix h.Mons m mZ).Guests)=true:=by
 unfold zcF at hh;simp only [zdm] at hh;exact hh
theorem zWe {h:Host}{m g:Int}(hh:zcF h m g=true):zdF (ix (ix h.Mons m mZ).Guests g gZ)=true:=by
 obtain ⟨h1,h2,h3⟩:=zcK hh;have hk:=zhj h1 _ (zde h2 mZ);unfold zek at hk;simp only [zdm] at hk;exact List.all_eq_true.1 hk.2.2.2.2.2.2.2.2.2.1 _ (zde h3 _)
theorem zHD {n:Int}(h:zgv n=true):n=1\/n=2:=by
 unfold zgv at h;cases h1:ieq n 1
 ·rw [h1] at h;exact .inr (of_decide_eq_true h)
 ·exact .inl (of_decide_eq_true h1)
theorem zBl {h:Host}{m g page need:Int}(hs:SmH h)(hh:zdG h m g page need=true) :
 LookAt h m g (zcQ (zdq h m g) page need) need/\LookAt (zb8 h m (zcQ (zdq h m g) page need)) m g (zcQ (zdq h m g) page need) need:=by
 unfold zdG at hh;simp only [zdm] at hh;obtain ⟨h1,h2,h3⟩:=hh;obtain ⟨g1,g2,g3⟩:=zcK h1;have hq:hasB (zcQ (zdq h m g) page need) 8=true:=z2Z (zWe h1) h3;have hsl:=zG0 (zhj g1 _ (zde g2 mZ)) hq;have hf:=zzZ hs g1;refine ⟨⟨hf,g2,g3,hq,zHD h2,hsl⟩,⟨zUW hf g2,zed g2,?_,hq,zHD h2,?_⟩⟩
 ·have e:zdY (zb8 h m (zcQ (zdq h m g) page need)).Mons=zdY h.Mons:=zzS g2 rfl;rw [zHn e];exact g3
 ·obtain ⟨k,rfl,hk⟩:=zem (n:=h.Mons.length) g2;unfold zb8;rw [ze5 hk];exact hsl
theorem zCN {h:Host}{b:List Entry}{m g page need:Int}{io:Bool}(hs:SmH h)(hh:zcF h m g=true):Kp h (lookOf h b m g page need io).1:=by
 have hf:=zzZ hs (zcK hh).1;unfold lookOf;cases h1:zdG h m g page need
 ·exact ⟨hf.1,rfl⟩
 ·obtain ⟨A,B⟩:=zBl hs h1;simp only [cT];cases ieq need 2
  ·exact zPT A
  ·have k:=zPT (b:=b) (page:=page) (io:=io) B;have e:zdY (zb8 h m (zcQ (zdq h m g) page need)).Mons=zdY h.Mons:=zzS A.hm rfl;exact ⟨k.shape,k.gs.trans e⟩
def zif (x:Host×Int×Bool):List AV:=[.agg (zx x.1),.one (.i .i64 x.2.1),.one (.b x.2.2)]
theorem zix {h:Host}{b:List Entry}{m g page need:Int}{io:Bool}(hh:zdG h m g page need=false):lookOf h b m g page need io=(h,-1,false):=by
 unfold lookOf;rw [hh];rfl
theorem zlE {h:Host}{m g page need:Int}(hh:zcF h m g=false):zdG h m g page need=false:=by
 unfold zdG;rw [hh];rfl
theorem zCB {h:Host}{m g:Int}(hh:zdd h=false):zcF h m g=false:=by
 unfold zcF;rw [hh];rfl
theorem zJ1 {h:Host}{m g:Int}(hh:hasB m (ln h.Mons)=false):zcF h m g=false:=by
 unfold zcF;rw [hh];cases zdd h<;>rfl
theorem zLa {h:Host}{m g:Int}(hh:hasB g (ln (ix h.Mons m mZ).Guests)=false):zcF h m g=false:=by
 unfold zcF;rw [hh];cases zdd h<;>cases hasB m (ln h.Mons)<;>rfl
theorem zJM {h:Host}{m g:Int}(h1:zdd h=true)(h2:hasB m (ln h.Mons)=true)(h3:hasB g (ln (ix h.Mons m mZ).Guests)=true):zcF h m g=true:=by
 unfold zcF;rw [h1,h2,h3];rfl
structure LookF (r:Host) (m g:Int):Prop where
 hm:hasB m (ln r.Mons)=true
 hg:hasB g (ln (ix r.Mons m mZ).Guests)=true
 ht:hasB g (ln (ix r.Mons m mZ).Tables)=true
 hk:SmK (zcR r m g)
 hb:r.Buffer.length<=1048576
 hi:r.IoBuffer.length<=1048576
theorem zkc {h r:Host}{m g:Int}(k:Kp h r)(hm:hasB m (ln h.Mons)=true)(hg:hasB g (ln (ix h.Mons m mZ).Guests)=true):LookF r m g:=by
 obtain ⟨g1,g2⟩:=zck k.shape (k.has hm);have hg':hasB g (ln (ix r.Mons m mZ).Guests)=true:=by rw [zHn k.gs];exact hg
 have ht:hasB g (ln (ix r.Mons m mZ).Tables)=true:=by rw [ln,g2.2.2.2];exact hg'
 exact ⟨k.has hm,hg',ht,g1.2.2.2.2.2.2 _ (zde ht _),k.shape.1.2.2.1,k.shape.1.2.2.2⟩
@[simp,reducible] def zoN (h:Host)(b:List Entry)(m g page need:Int)(io:Bool):Bool:=pc (zdQ h)
@[simp,reducible] def zT (h:Host)(b:List Entry)(m g page need:Int)(io:Bool):Host:=(lookOf h b m g page need io).1
@[simp,reducible] def zht (h:Host)(b:List Entry)(m g page need:Int)(io:Bool):Int:=(lookOf h b m g page need io).2.1
@[simp,reducible] def zoM (h:Host)(b:List Entry)(m g page need:Int)(io:Bool):Bool:=(lookOf h b m g page need io).2.2
def zpH:List AV->Option (Bool×List AV)
 | [.agg [.s (.sl .int) c,.s .mon d,.s .entry e,.s .entry f],.one (.s .entry g),.one (.i .i64 h),.one (.i .i64 j),.one (.i .i64 k),.one (.i .i64 l),.one (.b m)]=>some ((zoN (⟨c,d,e,f⟩:Host) g h j k l m),[.agg (zx (zT (⟨c,d,e,f⟩:Host) g h j k l m)),.one (.i .i64 (zht (⟨c,d,e,f⟩:Host) g h j k l m)),.one (.b (zoM (⟨c,d,e,f⟩:Host) g h j k l m))])
 | _=>none
@[reducible] def zdD (u9_11:List (List Int))(u9_12:List Mon)(u9_13:List Entry)(u9_14:List Entry)(u9_0:Int)(u9_5:Int)(u9_3:Int):Mon :=
 (ix (ze1 (⟨u9_11,u9_12,u9_13,u9_14⟩:Host) u9_0 u9_5 u9_3).Mons u9_0 zf)
@[reducible] def zgR (a0:Host)(a2 a3:Int)(a4 a5:Int):Int :=
 (zit (ix (ix a0.Mons a2 zf).Guests a3 zi).Live a4 a5)
def zJT (N:Nat)(u11_0:Int)(u11_2:List (List Int))(u11_3:List Mon)(u11_4:List Entry)(u11_5:List Entry):Option Ans :=
 (some [(.agg (zx (⟨u11_2,u11_3,u11_4,u11_5⟩:Host))),(.one (.i .i64 u11_0)),(.one (.b true))])
def zn7 (N:Nat)(u10_0:Int)(u10_1:Bool)(u10_2:Int)(u10_7:Int)(u10_8:Int)(u10_9:List (List Int))(u10_10:List Mon)(u10_11:List Entry)(u10_12:List Entry)(u10_13:List (List Int))(u10_14:List Mon)(u10_15:List Entry)(u10_16:List Entry):Option Ans :=
 (share (fun (s11:(Int×(Int×((List (List Int))×((List Mon)×((List Entry)×((List Entry)×((List (List Int))×((List Mon)×((List Entry)×((List Entry)×Unit)))))))))))=>(zJT N s11.1 s11.2.2.1 s11.2.2.2.1 s11.2.2.2.2.1 s11.2.2.2.2.2.1)) (fun r11=>(cond u10_1 (cond (zna u10_12 (⟨u10_2,u10_0,u10_7,u10_8⟩:Entry)) (r11 (u10_7,(u10_8,(u10_9,(u10_10,(u10_11,((znf u10_12 (⟨u10_2,u10_0,u10_7,u10_8⟩:Entry)),(u10_13,(u10_14,(u10_15,(u10_16,()))))))))))) none) (cond (zna u10_11 (⟨u10_2,u10_0,u10_7,u10_8⟩:Entry)) (r11 (u10_7,(u10_8,(u10_9,(u10_10,((znf u10_11 (⟨u10_2,u10_0,u10_7,u10_8⟩:Entry)),(u10_12,(u10_13,(u10_14,(u10_15,(u10_16,()))))))))))) none))))
def zij (N:Nat)(u9_11:List (List Int))(u9_12:List Mon)(u9_13:List Entry)(u9_14:List Entry)(u9_0:Int)(u9_5:Int)(u9_3:Int)(u9_1:Int)(u9_2:Int)(r10:((Int×(Bool×(Int×(Int×(Int×(Int×(Int×(Int×(Int×((List (List Int))×((List Mon)×((List Entry)×((List Entry)×((List (List Int))×((List Mon)×((List Entry)×((List Entry)×Unit))))))))))))))))))->Option Ans)(u9_4:Bool)(u9_6:Int)(u9_7:Int)(u9_8:Int)(u9_9:Int)(u9_10:Int)(u9_15:List (List Int))(u9_16:List Mon)(u9_17:List Entry)(u9_18:List Entry):Option Ans :=
 (cond (zwe (⟨u9_11,u9_12,u9_13,u9_14⟩:Host) u9_0 u9_5 u9_3) (cond (inb u9_0 (ln (ze1 (⟨u9_11,u9_12,u9_13,u9_14⟩:Host) u9_0 u9_5 u9_3).Mons)) (cond (inb u9_0 (ln (ze1 (⟨u9_11,u9_12,u9_13,u9_14⟩:Host) u9_0 u9_5 u9_3).Mons)) (cond (inb u9_1 (ln (zdD u9_11 u9_12 u9_13 u9_14 u9_0 u9_5 u9_3).Tables)) (cond (inb u9_0 (ln (ze1 (⟨u9_11,u9_12,u9_13,u9_14⟩:Host) u9_0 u9_5 u9_3).Mons)) (cond (inb u9_1 (ln (zdD u9_11 u9_12 u9_13 u9_14 u9_0 u9_5 u9_3).Guests)) (cond (inb u9_0 (ln (ze1 (⟨u9_11,u9_12,u9_13,u9_14⟩:Host) u9_0 u9_5 u9_3).Mons)) (cond (zFM (ix (zdD u9_11 u9_12 u9_13 u9_14 u9_0 u9_5 u9_3).Tables u9_1 zbB) (ix (zdD u9_11 u9_12 u9_13 u9_14 u9_0 u9_5 u9_3).Guests u9_1 zi).Live (zdD u9_11 u9_12 u9_13 u9_14 u9_0 u9_5 u9_3).Outer u9_2) (cond (inb u9_1 (ln (zdD u9_11 u9_12 u9_13 u9_14 u9_0 u9_5 u9_3).Tables)) (share (up (ze1 (⟨u9_11,u9_12,u9_13,u9_14⟩:Host) u9_0 u9_5 u9_3).Mons u9_0 ({ (zdD u9_11 u9_12 u9_13 u9_14 u9_0 u9_5 u9_3) with Tables:=(up (zdD u9_11 u9_12 u9_13 u9_14 u9_0 u9_5 u9_3).Tables u9_1 (zHQ (ix (zdD u9_11 u9_12 u9_13 u9_14 u9_0 u9_5 u9_3).Tables u9_1 zbB) (ix (zdD u9_11 u9_12 u9_13 u9_14 u9_0 u9_5 u9_3).Guests u9_1 zi).Live (zdD u9_11 u9_12 u9_13 u9_14 u9_0 u9_5 u9_3).Outer u9_2)) }:Mon)) (fun x11=>(cond (inb u9_0 (ln x11)) (cond (inb u9_1 (ln (ix x11 u9_0 zf).Tables)) (cond (zCE (ix (ix x11 u9_0 zf).Tables u9_1 zbB) u9_2) (r10 (u9_2,(u9_4,(u9_6,(u9_7,(u9_8,(u9_9,(u9_10,((ziJ (ix (ix x11 u9_0 zf).Tables u9_1 zbB) u9_2).Page,((ziJ (ix (ix x11 u9_0 zf).Tables u9_1 zbB) u9_2).Rights,((ze1 (⟨u9_11,u9_12,u9_13,u9_14⟩:Host) u9_0 u9_5 u9_3).Memory,(x11,((ze1 (⟨u9_11,u9_12,u9_13,u9_14⟩:Host) u9_0 u9_5 u9_3).Buffer,((ze1 (⟨u9_11,u9_12,u9_13,u9_14⟩:Host) u9_0 u9_5 u9_3).IoBuffer,(u9_15,(u9_16,(u9_17,(u9_18,())))))))))))))))))) none) none) none))) none) none) none) none) none) none) none) none) none)
def zjM (N:Nat)(u9_0:Int)(u9_1:Int)(u9_2:Int)(u9_3:Int)(u9_4:Bool)(u9_5:Int)(u9_6:Int)(u9_7:Int)(u9_8:Int)(u9_9:Int)(u9_10:Int)(u9_11:List (List Int))(u9_12:List Mon)(u9_13:List Entry)(u9_14:List Entry)(u9_15:List (List Int))(u9_16:List Mon)(u9_17:List Entry)(u9_18:List Entry):Option Ans :=
 (cond (inb u9_0 (ln u9_12)) (cond (inb u9_1 (ln (ix u9_12 u9_0 zf).Tables)) (cond (zCE (ix (ix u9_12 u9_0 zf).Tables u9_1 zbB) u9_2) (share (fun (s10:(Int×(Bool×(Int×(Int×(Int×(Int×(Int×(Int×(Int×((List (List Int))×((List Mon)×((List Entry)×((List Entry)×((List (List Int))×((List Mon)×((List Entry)×((List Entry)×Unit))))))))))))))))))=>(zn7 N s10.1 s10.2.1 s10.2.2.1 s10.2.2.2.2.2.2.2.1 s10.2.2.2.2.2.2.2.2.1 s10.2.2.2.2.2.2.2.2.2.1 s10.2.2.2.2.2.2.2.2.2.2.1 s10.2.2.2.2.2.2.2.2.2.2.2.1 s10.2.2.2.2.2.2.2.2.2.2.2.2.1 s10.2.2.2.2.2.2.2.2.2.2.2.2.2.1 s10.2.2.2.2.2.2.2.2.2.2.2.2.2.2.1 s10.2.2.2.2.2.2.2.2.2.2.2.2.2.2.2.1 s10.2.2.2.2.2.2.2.2.2.2.2.2.2.2.2.2.1)) (fun r10=>(cond (cond (zC8 (ix (ix u9_12 u9_0 zf).Tables u9_1 zbB) u9_2) false true) (zij N u9_11 u9_12 u9_13 u9_14 u9_0 u9_5 u9_3 u9_1 u9_2 r10 u9_4 u9_6 u9_7 u9_8 u9_9 u9_10 u9_15 u9_16 u9_17 u9_18) (cond (ieq (ziJ (ix (ix u9_12 u9_0 zf).Tables u9_1 zbB) u9_2).Page (-1)) (zij N u9_11 u9_12 u9_13 u9_14 u9_0 u9_5 u9_3 u9_1 u9_2 r10 u9_4 u9_6 u9_7 u9_8 u9_9 u9_10 u9_15 u9_16 u9_17 u9_18) (cond (zf1 (ziJ (ix (ix u9_12 u9_0 zf).Tables u9_1 zbB) u9_2).Rights u9_3) (cond (cond (zgF (ziJ (ix (ix u9_12 u9_0 zf).Tables u9_1 zbB) u9_2).Rights u9_3) false true) (zij N u9_11 u9_12 u9_13 u9_14 u9_0 u9_5 u9_3 u9_1 u9_2 r10 u9_4 u9_6 u9_7 u9_8 u9_9 u9_10 u9_15 u9_16 u9_17 u9_18) (r10 (u9_2,(u9_4,(u9_6,(u9_7,(u9_8,(u9_9,(u9_10,((ziJ (ix (ix u9_12 u9_0 zf).Tables u9_1 zbB) u9_2).Page,((ziJ (ix (ix u9_12 u9_0 zf).Tables u9_1 zbB) u9_2).Rights,(u9_11,(u9_12,(u9_13,(u9_14,(u9_15,(u9_16,(u9_17,(u9_18,()))))))))))))))))))) none))))) none) none) none)
def zkZ (N:Nat)(a2:Int)(a0:Host)(a3 a4 a5:Int)(a1:List Entry)(a6:Bool):Option Ans :=
 (cond (inb a2 (ln a0.Mons)) (cond (inb a3 (ln (ix a0.Mons a2 zf).Guests)) (cond (zqz (ix (ix a0.Mons a2 zf).Guests a3 zi).Live a4 a5) (cond (cond (zio (ix (ix a0.Mons a2 zf).Guests a3 zi).Live a4 a5) false true) (some [(.agg (zx a0)),(.one (.i .i64 (-1))),(.one (.b false))]) (cond (zB3 a2 a3) (cond (ieq a5 2) (cond (inb a2 (ln a0.Mons)) (cond (inb (zgR a0 a2 a3 a4 a5) (ln (ix a0.Mons a2 zf).Dirty)) (share (up a0.Mons a2 ({ (ix a0.Mons a2 zf) with Dirty:=(up (ix a0.Mons a2 zf).Dirty (zgR a0 a2 a3 a4 a5) true) }:Mon)) (fun x8=>(cond (zkY a1 (zch a2 a3) a4) (share (fun (s9:(Int×(Int×(Int×(Int×(Bool×(Int×(Int×(Int×(Int×(Int×(Int×((List (List Int))×((List Mon)×((List Entry)×((List Entry)×((List (List Int))×((List Mon)×((List Entry)×((List Entry)×Unit))))))))))))))))))))=>(zjM N s9.1 s9.2.1 s9.2.2.1 s9.2.2.2.1 s9.2.2.2.2.1 s9.2.2.2.2.2.1 s9.2.2.2.2.2.2.1 s9.2.2.2.2.2.2.2.1 s9.2.2.2.2.2.2.2.2.1 s9.2.2.2.2.2.2.2.2.2.1 s9.2.2.2.2.2.2.2.2.2.2.1 s9.2.2.2.2.2.2.2.2.2.2.2.1 s9.2.2.2.2.2.2.2.2.2.2.2.2.1 s9.2.2.2.2.2.2.2.2.2.2.2.2.2.1 s9.2.2.2.2.2.2.2.2.2.2.2.2.2.2.1 s9.2.2.2.2.2.2.2.2.2.2.2.2.2.2.2.1 s9.2.2.2.2.2.2.2.2.2.2.2.2.2.2.2.2.1 s9.2.2.2.2.2.2.2.2.2.2.2.2.2.2.2.2.2.1 s9.2.2.2.2.2.2.2.2.2.2.2.2.2.2.2.2.2.2.1)) (fun r9=>(cond (ziq a1 (zch a2 a3) a4) (cond (zf1 (zbW a1 (zch a2 a3) a4).Rights a5) (cond (zgF (zbW a1 (zch a2 a3) a4).Rights a5) (some [(.agg (zx ({ a0 with Mons:=x8 }:Host))),(.one (.i .i64 (zbW a1 (zch a2 a3) a4).Host)),(.one (.b true))]) (r9 (a2,(a3,(a4,(a5,(a6,((zgR a0 a2 a3 a4 a5),((zch a2 a3),((zbW a1 (zch a2 a3) a4).Tag,((zbW a1 (zch a2 a3) a4).Page,((zbW a1 (zch a2 a3) a4).Host,((zbW a1 (zch a2 a3) a4).Rights,(a0.Memory,(x8,(a0.Buffer,(a0.IoBuffer,([],([],([],([],()))))))))))))))))))))) none) (r9 (a2,(a3,(a4,(a5,(a6,((zgR a0 a2 a3 a4 a5),((zch a2 a3),((zbW a1 (zch a2 a3) a4).Tag,((zbW a1 (zch a2 a3) a4).Page,((zbW a1 (zch a2 a3) a4).Host,((zbW a1 (zch a2 a3) a4).Rights,(a0.Memory,(x8,(a0.Buffer,(a0.IoBuffer,([],([],([],([],()))))))))))))))))))))))) none))) none) none) (cond (zkY a1 (zch a2 a3) a4) (share (fun (s8:(Int×(Int×(Int×(Int×(Bool×(Int×(Int×(Int×(Int×(Int×(Int×((List (List Int))×((List Mon)×((List Entry)×((List Entry)×((List (List Int))×((List Mon)×((List Entry)×((List Entry)×Unit))))))))))))))))))))=>(zjM N s8.1 s8.2.1 s8.2.2.1 s8.2.2.2.1 s8.2.2.2.2.1 s8.2.2.2.2.2.1 s8.2.2.2.2.2.2.1 s8.2.2.2.2.2.2.2.1 s8.2.2.2.2.2.2.2.2.1 s8.2.2.2.2.2.2.2.2.2.1 s8.2.2.2.2.2.2.2.2.2.2.1 s8.2.2.2.2.2.2.2.2.2.2.2.1 s8.2.2.2.2.2.2.2.2.2.2.2.2.1 s8.2.2.2.2.2.2.2.2.2.2.2.2.2.1 s8.2.2.2.2.2.2.2.2.2.2.2.2.2.2.1 s8.2.2.2.2.2.2.2.2.2.2.2.2.2.2.2.1 s8.2.2.2.2.2.2.2.2.2.2.2.2.2.2.2.2.1 s8.2.2.2.2.2.2.2.2.2.2.2.2.2.2.2.2.2.1 s8.2.2.2.2.2.2.2.2.2.2.2.2.2.2.2.2.2.2.1)) (fun r8=>(cond (ziq a1 (zch a2 a3) a4) (cond (zf1 (zbW a1 (zch a2 a3) a4).Rights a5) (cond (zgF (zbW a1 (zch a2 a3) a4).Rights a5) (some [(.agg (zx a0)),(.one (.i .i64 (zbW a1 (zch a2 a3) a4).Host)),(.one (.b true))]) (r8 (a2,(a3,(a4,(a5,(a6,((zgR a0 a2 a3 a4 a5),((zch a2 a3),((zbW a1 (zch a2 a3) a4).Tag,((zbW a1 (zch a2 a3) a4).Page,((zbW a1 (zch a2 a3) a4).Host,((zbW a1 (zch a2 a3) a4).Rights,(a0.Memory,(a0.Mons,(a0.Buffer,(a0.IoBuffer,([],([],([],([],()))))))))))))))))))))) none) (r8 (a2,(a3,(a4,(a5,(a6,((zgR a0 a2 a3 a4 a5),((zch a2 a3),((zbW a1 (zch a2 a3) a4).Tag,((zbW a1 (zch a2 a3) a4).Page,((zbW a1 (zch a2 a3) a4).Host,((zbW a1 (zch a2 a3) a4).Rights,(a0.Memory,(a0.Mons,(a0.Buffer,(a0.IoBuffer,([],([],([],([],()))))))))))))))))))))))) none)) none)) none) none) none)
def zoK (N:Nat)(a0:Host)(a1:List Entry)(a2 a3:Int)(a4 a5:Int)(a6:Bool):Option Ans :=
 (cond (zru a0) (cond (cond (znT a0) false true) (some [(.agg (zx a0)),(.one (.i .i64 (-1))),(.one (.b false))]) (cond (zZ a2 0 (wsub .i64 (ln a0.Mons) 1)) (cond (cond (zbf a2 0 (wsub .i64 (ln a0.Mons) 1)) false true) (some [(.agg (zx a0)),(.one (.i .i64 (-1))),(.one (.b false))]) (cond (inb a2 (ln a0.Mons)) (cond (zZ a3 0 (wsub .i64 (ln (ix a0.Mons a2 zf).Guests) 1)) (cond (cond (zbf a3 0 (wsub .i64 (ln (ix a0.Mons a2 zf).Guests) 1)) false true) (some [(.agg (zx a0)),(.one (.i .i64 (-1))),(.one (.b false))]) (cond (ine a5 1) (cond (ine a5 2) (some [(.agg (zx a0)),(.one (.i .i64 (-1))),(.one (.b false))]) (zkZ N a2 a0 a3 a4 a5 a1 a6)) (zkZ N a2 a0 a3 a4 a5 a1 a6))) none) none)) none)) none)
def zpV:FuncId->Nat->Option Tmpl:=zB [(97,999999,{ n:=0,tm:=[],lo:=[],ro:=[] }),(97,1007023,{ n:=210,tm:=[(2,.i .i64),(3,.i .i64),(4,.i .i64),(5,.i .i64),(6,.b),(7,.lp 0 0),(14,.lp 1 0),(17,.i .i64),(19,.i .i64),(20,.lp 2 0)],lo:=[(0,[.sl 0 [],.sl 1 [],.sl 2 [],.sl 3 []]),(1,[.sl 4 [],.sl 5 [],.sl 6 [],.sl 7 []]),(2,[.i .i64,.i .i64,.i .i64,.i .i64])],ro:=[(0,(.sl .int),true),(1,.mon,true),(2,.entry,true),(3,.entry,true),(4,(.sl .int),true),(5,.mon,true),(6,.entry,true),(7,.entry,true)],kr:=1 }),(97,1009011,{ n:=210,tm:=[(4,.i .i64),(6,.b),(7,.lp 0 0),(14,.lp 1 0),(19,.i .i64),(20,.lp 2 0),(22,.lp 3 0)],lo:=[(0,[.sl 0 [],.sl 1 [],.sl 2 [],.sl 3 []]),(1,[.sl 4 [],.sl 5 [],.sl 6 [],.sl 7 []]),(2,[.i .i64,.i .i64,.i .i64,.i .i64]),(3,[.i .i64,.i .i64])],ro:=[(0,(.sl .int),true),(1,.mon,true),(2,.entry,true),(3,.entry,true),(4,(.sl .int),true),(5,.mon,true),(6,.entry,true),(7,.entry,true)],kr:=1 }),(97,1005003,{ n:=210,tm:=[(7,.lp 0 0),(14,.lp 1 0),(22,.lp 2 0)],lo:=[(0,[.sl 0 [],.sl 1 [],.sl 2 [],.sl 3 []]),(1,[.sl 4 [],.sl 5 [],.sl 6 [],.sl 7 []]),(2,[.i .i64,.i .i64])],ro:=[(0,(.sl .int),true),(1,.mon,true),(2,.entry,true),(3,.entry,true),(4,(.sl .int),true),(5,.mon,true),(6,.entry,true),(7,.entry,true)],kr:=1 })]
theorem zKQ (N:Nat)(a0:Host)(a2 a3:Int)(a4 a5:Int)(a6:Bool):zO3 (cQ zjV zV zgI zGp) zpV N 12 97 [true,true,true,true,false,false,false,false,false,false] [(4,2)] 1 1 [[0],[1],[2],[4],[7]] .mon [.agg (zx a0),.one (.s .entry a0.Buffer),.one (.i .i64 a2),.one (.i .i64 a3),.one (.i .i64 a4),.one (.i .i64 a5),.one (.b a6)]=zoK N a0 a0.Buffer a2 a3 a4 a5 a6:=by kernel_rfl
theorem zJs (N:Nat)(a0:Host)(a2 a3:Int)(a4 a5:Int)(a6:Bool):zO3 (cQ zjV zV zgI zGp) zpV N 12 97 [true,true,true,true,false,false,false,false,false,false] [(4,3)] 1 1 [[0],[1],[2],[4],[7]] .mon [.agg (zx a0),.one (.s .entry a0.IoBuffer),.one (.i .i64 a2),.one (.i .i64 a3),.one (.i .i64 a4),.one (.i .i64 a5),.one (.b a6)]=zoK N a0 a0.IoBuffer a2 a3 a4 a5 a6:=by kernel_rfl
theorem zC2 {N:Nat}{r:Host}{m g page:Int}{io:Bool}{z1 z2 z3 z4}(hb:r.Buffer.length<=1048576)(hi:r.IoBuffer.length<=1048576) :
 zn7 N page io (zi2 m g) (ze4 (zcR r m g) page).Page (ze4 (zcR r m g) page).Rights r.Memory r.Mons r.Buffer r.IoBuffer z1 z2 z3 z4=some (zif (zeS r m g page io)):=by
 unfold zn7;refine shr ?_;cases io
 ·exact zex rfl (must (zbr hb) rfl)
 ·exact must rfl (must (zbr hi) rfl)
theorem zQt {N:Nat}{r:Host}{m g page need q:Int}{io:Bool}{R:Option Ans}{r11}{u6 u7 u8 u9 u10 z1 z2 z3 z4}(A:LookAt r m g q need)(hr:r11 (page,(io,(u6,(u7,(u8,(u9,(u10,((ze4 (zcR (zc0 (mended r m q need) m g page) m g) page).Page,((ze4 (zcR (zc0 (mended r m q need) m g page) m g) page).Rights,((zc0 (mended r m q need) m g page).Memory,((zc0 (mended r m q need) m g page).Mons,((zc0 (mended r m q need) m g page).Buffer,((zc0 (mended r m q need) m g page).IoBuffer,(z1,(z2,(z3,(z4,())))))))))))))))))=R) :
 zij N r.Memory r.Mons r.Buffer r.IoBuffer m q need g page r11 io u6 u7 u8 u9 u10 z1 z2 z3 z4=R:=by
 have M:=zkc A.kp A.hm A.hg;have F:=zkc (A.fill page) A.hm A.hg;unfold zij;exact must (zbr A.mend) (must (zF M.hm) (must (zF M.hm) (must (zF M.ht) (must (zF M.hm) (must (zF M.hg) (must (zF M.hm) (must (zbr M.hk) (must (zF M.ht) (shr (must (zF F.hm) (must (zF F.ht) (must (zbr F.hk) hr))))))))))))
theorem zVv {r:Host}{m g page need:Int}(h:zkF (zcR r m g) page=false):zeD r m g page need=true:=by
 unfold zeD;rw [h];rfl
theorem zVw {r:Host}{m g page need:Int}(h:ieq (ze4 (zcR r m g) page).Page (-1)=true):zeD r m g page need=true:=by
 unfold zeD;rw [h];cases zkF (zcR r m g) page<;>rfl
theorem zVK {r:Host}{m g page need:Int}(h:enough (ze4 (zcR r m g) page).Rights need=false):zeD r m g page need=true:=by
 unfold zeD;rw [h];cases zkF (zcR r m g) page<;>cases ieq (ze4 (zcR r m g) page).Page (-1)<;>rfl
theorem zVU {r:Host}{m g page need:Int}(h1:zkF (zcR r m g) page=true)(h2:ieq (ze4 (zcR r m g) page).Page (-1)=false)(h3:enough (ze4 (zcR r m g) page).Rights need=true):zeD r m g page need=false:=by
 unfold zeD;rw [h1,h2,h3];rfl
theorem zr9 {r:Host}{m g page need q:Int}{io:Bool}(h:zeD r m g page need=true):(cond (zeD r m g page need) (zeS (zc0 (mended r m q need) m g page) m g page io) (zeS r m g page io))=zeS (zc0 (mended r m q need) m g page) m g page io:=by
 rw [h];rfl
theorem zVL {r:Host}{m g page need q:Int}{io:Bool}(h:zeD r m g page need=false):(cond (zeD r m g page need) (zeS (zc0 (mended r m q need) m g page) m g page io) (zeS r m g page io))=zeS r m g page io:=by
 rw [h];rfl
theorem zCC {N:Nat}{r:Host}{m g page need q:Int}{io:Bool}{u7 u8 u9 u10 z1 z2 z3 z4}(A:LookAt r m g q need) :
 zjM N m g page need io q (zi2 m g) u7 u8 u9 u10 r.Memory r.Mons r.Buffer r.IoBuffer z1 z2 z3 z4=some (zif (cond (zeD r m g page need) (zeS (zc0 (mended r m q need) m g page) m g page io) (zeS r m g page io))):=by
 have M:=zkc ⟨A.fit.1,rfl⟩ A.hm A.hg;have F:=zkc (A.fill page) A.hm A.hg;unfold zjM;refine must (zF M.hm) (must (zF M.ht) (must (zbr M.hk) (shr (brN (fun h1=>?_) (fun h1=>br (fun h2=>?_) (fun h2=>must rfl (brN (fun h3=>?_) (fun h3=>?_))))))))
 ·rw [zr9 (zVv h1)];exact zQt A (zC2 (r:=zc0 (mended r m q need) m g page) (m:=m) (g:=g) F.hb F.hi)
 ·rw [zr9 (zVw h2)];exact zQt A (zC2 (r:=zc0 (mended r m q need) m g page) (m:=m) (g:=g) F.hb F.hi)
 ·rw [zr9 (zVK h3)];exact zQt A (zC2 (r:=zc0 (mended r m q need) m g page) (m:=m) (g:=g) F.hb F.hi)
 ·rw [zVL (zVU h1 h2 h3)];exact zC2 (r:=r) (m:=m) (g:=g) M.hb M.hi
theorem zCD {b:List Entry}{m g page need:Int}(h:(zuG b m g page).isSome=false):zjP b m g page need=false:=by
 unfold zjP;rw [h];rfl
theorem zlM {b:List Entry}{m g page need:Int}{x:Bool}(h1:(zuG b m g page).isSome=true)(h:enough ((zuG b m g page).getD ⟨0,0,0,0⟩).Rights need=x):zjP b m g page need=x:=by
 unfold zjP;rw [h1,h];rfl
theorem zlF {r:Host}{b:List Entry}{m g page need q:Int}{io:Bool}(h:zjP b m g page need=false):zhw r b m g page need q io=bif zeD r m g page need then zeS (zc0 (mended r m q need) m g page) m g page io else zeS r m g page io:=by
 unfold zhw;rw [h];rfl
theorem zCT {r:Host}{b:List Entry}{m g page need q:Int}{io:Bool}(h:zjP b m g page need=true):zhw r b m g page need q io=(r,((zuG b m g page).getD ⟨0,0,0,0⟩).Host,true):=by
 unfold zhw;rw [h];rfl
theorem zRk {h:Host}{b:List Entry}{m g page need:Int}{io:Bool}(hh:zdG h m g page need=true):lookOf h b m g page need io=zhw (cond (ieq need 2) (zb8 h m (zcQ (zdq h m g) page need)) h) b m g page need (zcQ (zdq h m g) page need) io:=by
 unfold lookOf;rw [hh];rfl
theorem zYZ {N:Nat}{r:Host}{b:List Entry}{m g page need:Int}{io:Bool}(hs:SmH r)(hg:zcF r m g=true)(hn:zgv need=true) :
 zkZ N m r g page need b io=some (zif (lookOf r b m g page need io)):=by
 obtain ⟨g1,g2,g3⟩:=zcK hg;unfold zkZ;refine must (zF g2) (must (zF g3) (must rfl (brN (fun hw=>?_) (fun hw=>must rfl ?_))))
 ·have:zdG r m g page need=false:=by
   unfold zdG;rw [hg,hn,show zfW (zdq r m g) page need=false from hw]
   rfl
  rw [zix this];rfl
 ·have hl:zdG r m g page need=true:=by
   unfold zdG;rw [hg,hn,show zfW (zdq r m g) page need=true from hw]
   rfl
  obtain ⟨A,B⟩:=zBl hs hl;rw [zRk hl];have hd:hasB (zcQ (zdq r m g) page need) (ln (ix r.Mons m mZ).Dirty)=true:=zdc (zck A.fit.1 g2).2.2.2.1 A.hq;refine br (fun h2=>?_) (fun h2=>?_)
  ·rw [h2]
   show _=some (zif (zhw (zb8 r m (zcQ (zdq r m g) page need)) b m g page need (zcQ (zdq r m g) page need) io))
   refine must (zF g2) (must (zF hd) (shr (must rfl (shr (br (fun f1=>must rfl (br (fun f2=>?_) (fun f2=>?_))) (fun f1=>?_))))))
   ·rw [zCT (zlM f1 f2)];rfl
   ·rw [zlF (zlM f1 f2)];exact zCC (r:=zb8 r m (zcQ (zdq r m g) page need)) B
   ·rw [zlF (zCD f1)];exact zCC (r:=zb8 r m (zcQ (zdq r m g) page need)) B
  ·rw [h2]
   show _=some (zif (zhw r b m g page need (zcQ (zdq r m g) page need) io))
   refine must rfl (shr (br (fun f1=>must rfl (br (fun f2=>?_) (fun f2=>?_))) (fun f1=>?_)))
   ·rw [zCT (zlM f1 f2)];rfl
   ·rw [zlF (zlM f1 f2)];exact zCC A
   ·rw [zlF (zCD f1)];exact zCC A
theorem zOb (a0:Host)(a1:List Entry)(a2 a3:Int)(a4 a5:Int)(a6:Bool)(hb:zG big [.agg (zx a0),.one (.s .entry a1),.one (.i .i64 a2),.one (.i .i64 a3),.one (.i .i64 a4),.one (.i .i64 a5),.one (.b a6)])(hc:(zoN a0 a1 a2 a3 a4 a5 a6)=true):∃N,zoK N a0 a1 a2 a3 a4 a5 a6=some [.agg (zx (zT a0 a1 a2 a3 a4 a5 a6)),.one (.i .i64 (zht a0 a1 a2 a3 a4 a5 a6)),.one (.b (zoM a0 a1 a2 a3 a4 a5 a6))]:=by
 have hs:=(zbg a0).1 (zI.1 hc);refine ⟨0,?_⟩
 show _=some (zif (lookOf a0 a1 a2 a3 a4 a5 a6))
 unfold zoK;refine must rfl (brN (fun h1=>?_) (fun h1=>must rfl ?_))
 ·rw [zix (zlE (zCB h1))];rfl
 rw [show zbf a2 0 (wsub .i64 (ln a0.Mons) 1)=hasB a2 (ln a0.Mons) from zr8 hs.2.1.1 a2]
 refine brN (fun h2=>?_) (fun h2=>must (zF h2) (must rfl ?_))
 ·rw [zix (zlE (zJ1 h2))];rfl
 have hl:(ix a0.Mons a2 mZ).Guests.length<=1048576:=(hs.2.1.2 _ (zde h2 _)).2.2.2.1.1;rw [show zbf a3 0 (wsub .i64 (ln (ix a0.Mons a2 zf).Guests) 1)=hasB a3 (ln (ix a0.Mons a2 mZ).Guests) from zr8 hl a3]
 refine brN (fun h3=>?_) (fun h3=>?_)
 ·rw [zix (zlE (zLa h3))];rfl
 have hg:=zJM h1 h2 h3;have hno:∀{n:Int},zgv n=false->zdG a0 a2 a3 a4 n=false:=fun {n} h=>by
  unfold zdG;rw [hg,h];rfl
 rw [zj2,zj2];cases h4:ieq a5 1
 ·cases h5:ieq a5 2
  ·have:zgv a5=false:=by unfold zgv;rw [h4,h5];rfl
   rw [zix (hno this)];rfl
  ·exact zYZ hs hg (by unfold zgv;rw [h4,h5];rfl)
 ·exact zYZ hs hg (by unfold zgv;rw [h4];rfl)
theorem zGG:zeG Tryz.prog 97 [true,true,true,true,false,false,false,false,false,false] (some (1,1,[[0],[1],[2],[4],[7]])) zpH:=by
 refine zKs (kt:=.mon) (zdJ zgs zD zdS zxT) (zC (by kernel_rfl)) ?_
 intro al avs rs hal heq hl hr h;have hb:=zjv hr;have hal':al=[(4,2)]\/al=[(4,3)]:=by
  rw [show zly 97=[[(4,2)],[(4,3)]] from by kernel_rfl] at hal
  simpa using hal
 unfold zpH at h;split at h
 ·rename_i a0_0 a0_1 a0_2 a0_3 a1 a2 a3 a4 a5 a6;obtain ⟨hc,rfl⟩:=zl h;obtain ⟨N,hN⟩:=zOb (⟨a0_0,a0_1,a0_2,a0_3⟩:Host) a1 a2 a3 a4 a5 a6 hb hc;refine ⟨⟨_,rfl⟩,rfl,zpV,N,12,?_⟩;rcases hal' with rfl|rfl
  ·have e:=heq 4 2 (by simp)
   simp only [zJ,List.flatMap_cons,AV.cvs] at e;cases e;exact (zKQ N (⟨a0_0,a0_1,a0_2,a0_3⟩:Host) a2 a3 a4 a5 a6).trans hN
  ·have e:=heq 4 3 (by simp)
   simp only [zJ,List.flatMap_cons,AV.cvs] at e;cases e;exact (zJs N (⟨a0_0,a0_1,a0_2,a0_3⟩:Host) a2 a3 a4 a5 a6).trans hN
 ·cases h
def zjC:zzE:=[(97,([true,true,true,true,false,false,false,false,false,false],(some (1,1,[[0],[1],[2],[4],[7]])),zpH))]++zGp
theorem zeW:∀f own inp run,zy zjC f=some (own,inp,run)->zeG Tryz.prog f own inp run:=ztD zxT (by
 intro x hx;simp only [List.mem_cons,List.not_mem_nil,or_false] at hx;rcases hx with rfl
 ·exact zGG)
def gOf (h:Host)(m g:Int):Guest:=ix (ix h.Mons m mZ).Guests g gZ
def zfz (h:Host)(m g:Int)(x:Guest):Host:={ h with Mons:=up h.Mons m { ix h.Mons m mZ with Guests:=up (ix h.Mons m mZ).Guests g x } }
def zhA (h:Host)(m g:Int)(x:Guest)(w:Bool):Host×Int×Bool:=lookOf h h.Buffer m g (zdA (address x)) (zeN w) false
def zhl (L:Host×Int×Bool)(m g:Int)(x:Guest)(w:Bool):Host :=
 bif L.2.2 then (cond w (zfz { L.1 with Memory:=ze8 L.1.Memory L.2.1 (zgB (address x)) x.A } m g (zb7 x)) (zfz L.1 m g (loaded x (cellAt L.1.Memory L.2.1 (zgB (address x))))))
 else zfz L.1 m g (stopped x (zu7 (zdA (address x)) w))
def owned (h:Host)(m:Int):Host:=bif ilt (ix h.Mons m mZ).Own 1000000000 then { h with Mons:=up h.Mons m { ix h.Mons m mZ with Own:=zq .i64 (ix h.Mons m mZ).Own 1 } } else h
def zjE (h:Host)(m n:Int):Host:=bif ilt (ln (ix h.Mons m mZ).Outs) 40 then { h with Mons:=up h.Mons m { ix h.Mons m mZ with Outs:=ap (ix h.Mons m mZ).Outs [n] } } else h
def zfp (h:Host)(m:Int)(x:Guest)(w:Int):Host:=bif (cond (ine w 6) (ieq (ziV (ix h.Mons m mZ).Traps x.Ctl.Traps (zeO w)) 2) false) then owned h m else h
def zih (h:Host)(m:Int)(x:Guest)(w:Int):Host:=bif (cond (zgH x.Ctl.Traps w) (ieq w 5) false) then zjE h m (zdE x.Prog x.Pc).X else h
def zi5 (h:Host)(m g:Int)(x:Guest)(w:Int):Host:=zfz (zih (zfp h m x w) m x w) m g (zfv x x.Ctl.Traps w)
def zHo (h:Host)(m g:Int)(x:Guest)(w:Int):Host×Bool :=
 bif ieq w 0 then (h,false) else (bif ieq w 1 then (zfz h m g (interrupted x),true) else (bif ieq w 2 then (zfz h m g (plainly x),true) else
  (cond (cond (ieq w 3) true (ieq w 4)) (zhl (zhA h m g x (ieq w 4)) m g x (ieq w 4),true) (zi5 h m g x w,true))))
def zbE (h:Host)(m g:Int):Host×Bool:=bif zcF h m g then zHo h m g (gOf h m g) (zN (gOf h m g)) else (h,false)
def zdN (x:Host×Bool):List AV:=[.agg (zx x.1),.one (.b x.2)]
theorem zii {h:Host}{m g:Int}(hs:SmH h)(hm:hasB m (ln h.Mons)=true)(hg:hasB g (ln (ix h.Mons m mZ).Guests)=true):SmG (gOf h m g):=(hs.2.1.2 _ (zde hm _)).2.2.2.1.2 _ (zde hg _)
theorem zWK {h:Host}{m g:Int}{x:Guest}(hs:Shape h)(hm:hasB m (ln h.Mons)=true)(hx:SmG x):Shape (zfz h m g x):=by
 obtain ⟨g1,g2⟩:=zck hs hm;exact zhn hs ⟨g1.1,g1.2.1,g1.2.2.1,zJR g1.2.2.2.1 hx,g1.2.2.2.2⟩ ⟨g2.1,g2.2.1,g2.2.2.1,by simpa using g2.2.2.2⟩
theorem z2D (o i t:Int):ieq (ziV o i t) 1=zds i t:=by
 unfold ziV;cases zds i t
 ·cases zds o t<;>rfl
 ·rfl
theorem z19 {o i t:Int}(h:zds i t=true):ieq (ziV o i t) 2=false:=by
 unfold ziV;rw [h];rfl
theorem zlS {h:Host}{m:Int}(hm:hasB m (ln h.Mons)=true)(x:Mon):ix (up h.Mons m x) m mZ=x:=by
 obtain ⟨k,rfl,hk⟩:=zem (n:=h.Mons.length) hm;exact ze5 hk _ _
@[simp,reducible] def zeq (h:Host)(m g:Int):Bool:=pc (zdQ h)
@[simp,reducible] def zeQ (h:Host)(m g:Int):Host:=(zbE h m g).1
@[simp,reducible] def zBg (h:Host)(m g:Int):Bool:=(zbE h m g).2
theorem zPe {α:Type}{l:List α}{x:α}(h:ilt (ln l) 40=true):few (ln (ap l [x]))=true:=by
 have:=of_decide_eq_true h;simp only [ln] at this;exact zes (by simp [ap];omega)
theorem zVk {h:Host}{m:Int}{x:Guest}{w:Int}(hh:(cond (zgH x.Ctl.Traps w) (ieq w 5) false)=false):zih h m x w=h:=by
 unfold zih;rw [hh];rfl
theorem zMy {h:Host}{m:Int}{x:Guest}{w:Int}(hh:ilt (ln (ix h.Mons m mZ).Outs) 40=false):zih h m x w=h:=by
 unfold zih zjE;rw [hh];cases (cond (zgH x.Ctl.Traps w) (ieq w 5) false)<;>rfl
theorem zPY {h:Host}{m:Int}{x:Guest}{w:Int}(h1:zgH x.Ctl.Traps w=true)(h2:ieq w 5=true)(hh:ilt (ln (ix h.Mons m mZ).Outs) 40=true):zih h m x w={ h with Mons:=up h.Mons m { ix h.Mons m mZ with Outs:=ap (ix h.Mons m mZ).Outs [(zdE x.Prog x.Pc).X] } }:=by
 unfold zih zjE;rw [h1,h2,hh];rfl
theorem zGT {h:Host}{m:Int}{x:Guest}{w:Int}(h1:zgH x.Ctl.Traps w=false):zih h m x w=h:=zVk (by rw [h1];rfl)
theorem zBm {h:Host}{m:Int}{x:Guest}{w:Int}(h1:ieq w 5=false):zih h m x w=h:=zVk (by rw [h1];cases zgH x.Ctl.Traps w<;>rfl)
theorem zG4 (a:Int):(cond (ieq a a) true false)=true:=by rw [zfN];rfl
theorem zgo {h:Host}{m g:Int}(hh:zcF h m g=false):zbE h m g=(h,false):=by
 unfold zbE;rw [hh];rfl
theorem zhk {h:Host}{m g:Int}(hh:zcF h m g=true):zbE h m g=zHo h m g (gOf h m g) (zN (gOf h m g)):=by
 unfold zbE;rw [hh];rfl
theorem zku {a b:Bool}(h:(cond a b false)=true):a=true/\b=true:=by
 cases a
 ·cases h
 ·exact ⟨rfl,h⟩
theorem zhy {a b:Bool}(ha:a=true)(hb:b=true):(cond a b false)=true:=by
 rw [ha];exact hb
theorem zVr {h:Host}{m:Int}{x:Guest}{w:Int}(h6:ine w 6=true)(h0:ieq (ziV (ix h.Mons m mZ).Traps x.Ctl.Traps (zeO w)) 2=true)(h9:ilt (ix h.Mons m mZ).Own 1000000000=true):zfp h m x w={ h with Mons:=up h.Mons m { ix h.Mons m mZ with Own:=zq .i64 (ix h.Mons m mZ).Own 1 } }:=by
 unfold zfp owned;rw [h6,h0,h9];rfl
theorem zVh {h:Host}{m:Int}{x:Guest}{w:Int}(h0:ieq (ziV (ix h.Mons m mZ).Traps x.Ctl.Traps (zeO w)) 2=false):zfp h m x w=h:=by
 unfold zfp;rw [h0];cases ine w 6<;>rfl
theorem zV6 {h:Host}{m:Int}{x:Guest}{w:Int}(h9:ilt (ix h.Mons m mZ).Own 1000000000=false):zfp h m x w=h:=by
 unfold zfp owned;rw [h9];cases (cond (ine w 6) (ieq (ziV (ix h.Mons m mZ).Traps x.Ctl.Traps (zeO w)) 2) false)<;>rfl
theorem z1y {h:Host}{m:Int}{x:Guest}:zfp h m x 6=h:=rfl
theorem zk4 {h h':Host}{m g:Int}{x:Guest}{w:Int}(e:zfp h m x w=h'):zi5 h m g x w=zfz (zih h' m x w) m g (zfv x x.Ctl.Traps w):=by
 unfold zi5;rw [e]
theorem zZc (x:Guest):ieq (zN x) 0=true\/ieq (zN x) 1=true\/ieq (zN x) 2=true\/ieq (zN x) 3=true\/ieq (zN x) 4=true\/ieq (zN x) 5=true\/ieq (zN x) 6=true\/ieq (zN x) 7=true:=by
 cases h0:ieq (zN x) 0
 ·cases h1:ieq (zN x) 1
  ·cases h2:ieq (zN x) 2
   ·cases h3:ieq (zN x) 3
    ·cases h4:ieq (zN x) 4
     ·cases h5:ieq (zN x) 5
      ·cases h6:ieq (zN x) 6
       ·exact .inr (.inr (.inr (.inr (.inr (.inr (.inr (zWG x h0 h1 h2 h3 h4 h5 h6)))))))
       ·exact .inr (.inr (.inr (.inr (.inr (.inr (.inl rfl))))))
      ·exact .inr (.inr (.inr (.inr (.inr (.inl rfl)))))
     ·exact .inr (.inr (.inr (.inr (.inl rfl))))
    ·exact .inr (.inr (.inr (.inl rfl)))
   ·exact .inr (.inr (.inl rfl))
  ·exact .inr (.inl rfl)
 ·exact .inl rfl
@[reducible] def zAD (x:Guest):Bool:=bif zey x then ieq (zN x) 0 else false
def zl0:List AV->Option (Bool×List AV)
 | [.agg [.s .ins c,.i .i64 d,.i .i64 e,.s .slot f,.s .slot g,.i .i64 h,.i .i64 j,.b k,.i .i64 l,.i .i64 m,.i .i64 n,.b o,.i .i64 p,.b q,.s .int r]]=>some ((zAD (⟨c,d,e,f,g,⟨h,j,k⟩,l,⟨m,n,o,p⟩,q,r⟩:Guest)),[.one (.i .i64 0)])
 | _=>none
theorem zDR:Holds Tryz.prog 40 zl0:=by
 refine ⟨zcf.1,fun w avs xs rs hrep h=>?_⟩;unfold zl0 at h;split at h
 ·obtain ⟨hc,rfl⟩:=zl h;obtain ⟨h1,h2⟩:=zku hc;exact zcf.2 w _ xs _ hrep (congr (congrArg (fun c v=>some (c,[AV.one (CV.i .i64 v)])) h1) (of_decide_eq_true h2))
 ·cases h
def zVF:zbP:=[(40,zl0)]++zjV
theorem zXb:zbv zVF:=zn zDR zgs
@[simp,reducible] def zvb (h:Host)(m g:Int):Bool:=bif zeq h m g then ieq (zN (gOf h m g)) 0 else false
@[simp,reducible] def zvU (h:Host)(m g:Int):Host:=(zbE h m g).1
@[simp,reducible] def zvJ (h:Host)(m g:Int):Bool:=(zbE h m g).2
def zrm:List AV->Option (Bool×List AV)
 | [.agg [.s (.sl .int) c,.s .mon d,.s .entry e,.s .entry f],.one (.i .i64 g),.one (.i .i64 h)]=>some ((zvb (⟨c,d,e,f⟩:Host) g h),[.agg (zx (zvU (⟨c,d,e,f⟩:Host) g h)),.one (.b (zvJ (⟨c,d,e,f⟩:Host) g h))])
 | _=>none
def zmt (N:Nat)(a0:Host)(a1 a2:Int):Option Ans :=
 (cond (zd4 a0) (cond (zgf (zh a0) a1 a2) (cond (cond (zhH (zh a0) a1 a2) false true) (some [(.agg (zx (zh a0))),(.one (.b false))]) (cond (inb a1 (ln (zh a0).Mons)) (cond (inb a2 (ln (ix (zh a0).Mons a1 zf).Guests)) (cond (zAD (ix (ix (zh a0).Mons a1 zf).Guests a2 zi)) (some [(.agg (zx (zh a0))),(.one (.b false))]) none) none) none)) none) none)
theorem zFl (N:Nat)(a0:Host)(a1 a2:Int):evalFn (cQ zVF zV zgI zjC) (zB []) N 12 18 [.agg (zx a0),.one (.i .i64 a1),.one (.i .i64 a2)]=zmt N a0 a1 a2:=by kernel_rfl
@[reducible] def zAL (x:Guest):Bool:=bif zey x then ieq (zN x) 1 else false
def zmb:List AV->Option (Bool×List AV)
 | [.agg [.s .ins c,.i .i64 d,.i .i64 e,.s .slot f,.s .slot g,.i .i64 h,.i .i64 j,.b k,.i .i64 l,.i .i64 m,.i .i64 n,.b o,.i .i64 p,.b q,.s .int r]]=>some ((zAL (⟨c,d,e,f,g,⟨h,j,k⟩,l,⟨m,n,o,p⟩,q,r⟩:Guest)),[.one (.i .i64 1)])
 | _=>none
theorem zDt:Holds Tryz.prog 40 zmb:=by
 refine ⟨zcf.1,fun w avs xs rs hrep h=>?_⟩;unfold zmb at h;split at h
 ·obtain ⟨hc,rfl⟩:=zl h;obtain ⟨h1,h2⟩:=zku hc;exact zcf.2 w _ xs _ hrep (congr (congrArg (fun c v=>some (c,[AV.one (CV.i .i64 v)])) h1) (of_decide_eq_true h2))
 ·cases h
def zVd:zbP:=[(40,zmb)]++zjV
theorem zWt:zbv zVd:=zn zDt zgs
@[simp,reducible] def zvH (h:Host)(m g:Int):Bool:=bif zeq h m g then ieq (zN (gOf h m g)) 1 else false
@[simp,reducible] def zvK (h:Host)(m g:Int):Host:=(zbE h m g).1
@[simp,reducible] def zu3 (h:Host)(m g:Int):Bool:=(zbE h m g).2
def zrp:List AV->Option (Bool×List AV)
 | [.agg [.s (.sl .int) c,.s .mon d,.s .entry e,.s .entry f],.one (.i .i64 g),.one (.i .i64 h)]=>some ((zvH (⟨c,d,e,f⟩:Host) g h),[.agg (zx (zvK (⟨c,d,e,f⟩:Host) g h)),.one (.b (zu3 (⟨c,d,e,f⟩:Host) g h))])
 | _=>none
def zmX (N:Nat)(a0:Host)(a1 a2:Int):Option Ans :=
 (cond (zd4 a0) (cond (zgf (zh a0) a1 a2) (cond (cond (zhH (zh a0) a1 a2) false true) (some [(.agg (zx (zh a0))),(.one (.b false))]) (cond (inb a1 (ln (zh a0).Mons)) (cond (inb a2 (ln (ix (zh a0).Mons a1 zf).Guests)) (cond (zAL (ix (ix (zh a0).Mons a1 zf).Guests a2 zi)) (cond (inb a1 (ln (zh a0).Mons)) (cond (zme (ix (ix (zh a0).Mons a1 zf).Guests a2 zi)) (cond (inb a2 (ln (ix (zh a0).Mons a1 zf).Guests)) (share (up (zh a0).Mons a1 ({ (ix (zh a0).Mons a1 zf) with Guests:=(up (ix (zh a0).Mons a1 zf).Guests a2 (zin (ix (ix (zh a0).Mons a1 zf).Guests a2 zi))) }:Mon)) (fun x4=>(some [(.agg (zx ({ (zh a0) with Mons:=x4 }:Host))),(.one (.b true))]))) none) none) none) none) none) none)) none) none)
theorem zFr (N:Nat)(a0:Host)(a1 a2:Int):evalFn (cQ zVd zV zgI zjC) (zB []) N 12 18 [.agg (zx a0),.one (.i .i64 a1),.one (.i .i64 a2)]=zmX N a0 a1 a2:=by kernel_rfl
@[reducible] def zAG (x:Guest):Bool:=bif zey x then ieq (zN x) 2 else false
def zmu:List AV->Option (Bool×List AV)
 | [.agg [.s .ins c,.i .i64 d,.i .i64 e,.s .slot f,.s .slot g,.i .i64 h,.i .i64 j,.b k,.i .i64 l,.i .i64 m,.i .i64 n,.b o,.i .i64 p,.b q,.s .int r]]=>some ((zAG (⟨c,d,e,f,g,⟨h,j,k⟩,l,⟨m,n,o,p⟩,q,r⟩:Guest)),[.one (.i .i64 2)])
 | _=>none
theorem zDS:Holds Tryz.prog 40 zmu:=by
 refine ⟨zcf.1,fun w avs xs rs hrep h=>?_⟩;unfold zmu at h;split at h
 ·obtain ⟨hc,rfl⟩:=zl h;obtain ⟨h1,h2⟩:=zku hc;exact zcf.2 w _ xs _ hrep (congr (congrArg (fun c v=>some (c,[AV.one (CV.i .i64 v)])) h1) (of_decide_eq_true h2))
 ·cases h
def zVi:zbP:=[(40,zmu)]++zjV
theorem zWQ:zbv zVi:=zn zDS zgs
@[simp,reducible] def zu1 (h:Host)(m g:Int):Bool:=bif zeq h m g then ieq (zN (gOf h m g)) 2 else false
@[simp,reducible] def zvz (h:Host)(m g:Int):Host:=(zbE h m g).1
@[simp,reducible] def zvj (h:Host)(m g:Int):Bool:=(zbE h m g).2
def zrl:List AV->Option (Bool×List AV)
 | [.agg [.s (.sl .int) c,.s .mon d,.s .entry e,.s .entry f],.one (.i .i64 g),.one (.i .i64 h)]=>some ((zu1 (⟨c,d,e,f⟩:Host) g h),[.agg (zx (zvz (⟨c,d,e,f⟩:Host) g h)),.one (.b (zvj (⟨c,d,e,f⟩:Host) g h))])
 | _=>none
def zl6 (N:Nat)(a0:Host)(a1 a2:Int):Option Ans :=
 (cond (zd4 a0) (cond (zgf (zh a0) a1 a2) (cond (cond (zhH (zh a0) a1 a2) false true) (some [(.agg (zx (zh a0))),(.one (.b false))]) (cond (inb a1 (ln (zh a0).Mons)) (cond (inb a2 (ln (ix (zh a0).Mons a1 zf).Guests)) (cond (zAG (ix (ix (zh a0).Mons a1 zf).Guests a2 zi)) (cond (inb a1 (ln (zh a0).Mons)) (cond (zwp (ix (ix (zh a0).Mons a1 zf).Guests a2 zi)) (cond (inb a2 (ln (ix (zh a0).Mons a1 zf).Guests)) (share (up (zh a0).Mons a1 ({ (ix (zh a0).Mons a1 zf) with Guests:=(up (ix (zh a0).Mons a1 zf).Guests a2 (zpl (ix (ix (zh a0).Mons a1 zf).Guests a2 zi))) }:Mon)) (fun x4=>(some [(.agg (zx ({ (zh a0) with Mons:=x4 }:Host))),(.one (.b true))]))) none) none) none) none) none) none)) none) none)
theorem zFw (N:Nat)(a0:Host)(a1 a2:Int):evalFn (cQ zVi zV zgI zjC) (zB []) N 12 18 [.agg (zx a0),.one (.i .i64 a1),.one (.i .i64 a2)]=zl6 N a0 a1 a2:=by kernel_rfl
@[reducible] def zAJ (x:Guest):Bool:=bif zey x then ieq (zN x) 3 else false
def zmp:List AV->Option (Bool×List AV)
 | [.agg [.s .ins c,.i .i64 d,.i .i64 e,.s .slot f,.s .slot g,.i .i64 h,.i .i64 j,.b k,.i .i64 l,.i .i64 m,.i .i64 n,.b o,.i .i64 p,.b q,.s .int r]]=>some ((zAJ (⟨c,d,e,f,g,⟨h,j,k⟩,l,⟨m,n,o,p⟩,q,r⟩:Guest)),[.one (.i .i64 3)])
 | _=>none
theorem zDV:Holds Tryz.prog 40 zmp:=by
 refine ⟨zcf.1,fun w avs xs rs hrep h=>?_⟩;unfold zmp at h;split at h
 ·obtain ⟨hc,rfl⟩:=zl h;obtain ⟨h1,h2⟩:=zku hc;exact zcf.2 w _ xs _ hrep (congr (congrArg (fun c v=>some (c,[AV.one (CV.i .i64 v)])) h1) (of_decide_eq_true h2))
 ·cases h
def zVR:zbP:=[(40,zmp)]++zjV
theorem zWk:zbv zVR:=zn zDV zgs
@[simp,reducible] def zvN (h:Host)(m g:Int):Bool:=bif zeq h m g then ieq (zN (gOf h m g)) 3 else false
@[simp,reducible] def zvR (h:Host)(m g:Int):Host:=(zbE h m g).1
@[simp,reducible] def zve (h:Host)(m g:Int):Bool:=(zbE h m g).2
def zri:List AV->Option (Bool×List AV)
 | [.agg [.s (.sl .int) c,.s .mon d,.s .entry e,.s .entry f],.one (.i .i64 g),.one (.i .i64 h)]=>some ((zvN (⟨c,d,e,f⟩:Host) g h),[.agg (zx (zvR (⟨c,d,e,f⟩:Host) g h)),.one (.b (zve (⟨c,d,e,f⟩:Host) g h))])
 | _=>none
def zm3 (N:Nat)(a0:Host)(a1 a2:Int):Option Ans :=
 (cond (zd4 a0) (cond (zgf (zh a0) a1 a2) (cond (cond (zhH (zh a0) a1 a2) false true) (some [(.agg (zx (zh a0))),(.one (.b false))]) (cond (inb a1 (ln (zh a0).Mons)) (cond (inb a2 (ln (ix (zh a0).Mons a1 zf).Guests)) (cond (zAJ (ix (ix (zh a0).Mons a1 zf).Guests a2 zi)) (cond (zo6 (ix (ix (zh a0).Mons a1 zf).Guests a2 zi)) (cond (zhD (zL (ix (ix (zh a0).Mons a1 zf).Guests a2 zi))) (cond (zrH false) (cond (zoN (zh a0) (zh a0).Buffer a1 a2 (zM (zL (ix (ix (zh a0).Mons a1 zf).Guests a2 zi))) (zba false) false) (cond (cond (zoM (zh a0) (zh a0).Buffer a1 a2 (zM (zL (ix (ix (zh a0).Mons a1 zf).Guests a2 zi))) (zba false) false) false true) (cond (inb a1 (ln (zT (zh a0) (zh a0).Buffer a1 a2 (zM (zL (ix (ix (zh a0).Mons a1 zf).Guests a2 zi))) (zba false) false).Mons)) (cond (zhD (zL (ix (ix (zh a0).Mons a1 zf).Guests a2 zi))) (cond (zkO (zM (zL (ix (ix (zh a0).Mons a1 zf).Guests a2 zi))) false) (cond (zgb ({ (ix (ix (zh a0).Mons a1 zf).Guests a2 zi) with Prog:=(ix (ix (zT (zh a0) (zh a0).Buffer a1 a2 (zM (zL (ix (ix (zh a0).Mons a1 zf).Guests a2 zi))) (zba false) false).Mons a1 zf).Guests a2 zi).Prog,Written:=(ix (ix (zT (zh a0) (zh a0).Buffer a1 a2 (zM (zL (ix (ix (zh a0).Mons a1 zf).Guests a2 zi))) (zba false) false).Mons a1 zf).Guests a2 zi).Written,Live:=(ix (ix (zT (zh a0) (zh a0).Buffer a1 a2 (zM (zL (ix (ix (zh a0).Mons a1 zf).Guests a2 zi))) (zba false) false).Mons a1 zf).Guests a2 zi).Live,Seen:=(ix (ix (zT (zh a0) (zh a0).Buffer a1 a2 (zM (zL (ix (ix (zh a0).Mons a1 zf).Guests a2 zi))) (zba false) false).Mons a1 zf).Guests a2 zi).Seen }:Guest) (zgk (zM (zL (ix (ix (zh a0).Mons a1 zf).Guests a2 zi))) false)) (cond (inb a2 (ln (ix (zT (zh a0) (zh a0).Buffer a1 a2 (zM (zL (ix (ix (zh a0).Mons a1 zf).Guests a2 zi))) (zba false) false).Mons a1 zf).Guests)) (share (up (zT (zh a0) (zh a0).Buffer a1 a2 (zM (zL (ix (ix (zh a0).Mons a1 zf).Guests a2 zi))) (zba false) false).Mons a1 ({ (ix (zT (zh a0) (zh a0).Buffer a1 a2 (zM (zL (ix (ix (zh a0).Mons a1 zf).Guests a2 zi))) (zba false) false).Mons a1 zf) with Guests:=(up (ix (zT (zh a0) (zh a0).Buffer a1 a2 (zM (zL (ix (ix (zh a0).Mons a1 zf).Guests a2 zi))) (zba false) false).Mons a1 zf).Guests a2 (zgc ({ (ix (ix (zh a0).Mons a1 zf).Guests a2 zi) with Prog:=(ix (ix (zT (zh a0) (zh a0).Buffer a1 a2 (zM (zL (ix (ix (zh a0).Mons a1 zf).Guests a2 zi))) (zba false) false).Mons a1 zf).Guests a2 zi).Prog,Written:=(ix (ix (zT (zh a0) (zh a0).Buffer a1 a2 (zM (zL (ix (ix (zh a0).Mons a1 zf).Guests a2 zi))) (zba false) false).Mons a1 zf).Guests a2 zi).Written,Live:=(ix (ix (zT (zh a0) (zh a0).Buffer a1 a2 (zM (zL (ix (ix (zh a0).Mons a1 zf).Guests a2 zi))) (zba false) false).Mons a1 zf).Guests a2 zi).Live,Seen:=(ix (ix (zT (zh a0) (zh a0).Buffer a1 a2 (zM (zL (ix (ix (zh a0).Mons a1 zf).Guests a2 zi))) (zba false) false).Mons a1 zf).Guests a2 zi).Seen }:Guest) (zgk (zM (zL (ix (ix (zh a0).Mons a1 zf).Guests a2 zi))) false))) }:Mon)) (fun x4=>(some [(.agg (zx ({ (zT (zh a0) (zh a0).Buffer a1 a2 (zM (zL (ix (ix (zh a0).Mons a1 zf).Guests a2 zi))) (zba false) false) with Mons:=x4 }:Host))),(.one (.b true))]))) none) none) none) none) none) (cond (inb a1 (ln (zT (zh a0) (zh a0).Buffer a1 a2 (zM (zL (ix (ix (zh a0).Mons a1 zf).Guests a2 zi))) (zba false) false).Mons)) (cond (zmN (zL (ix (ix (zh a0).Mons a1 zf).Guests a2 zi))) (cond (zz6 (zT (zh a0) (zh a0).Buffer a1 a2 (zM (zL (ix (ix (zh a0).Mons a1 zf).Guests a2 zi))) (zba false) false).Memory (zht (zh a0) (zh a0).Buffer a1 a2 (zM (zL (ix (ix (zh a0).Mons a1 zf).Guests a2 zi))) (zba false) false) (zf9 (zL (ix (ix (zh a0).Mons a1 zf).Guests a2 zi)))) (cond (zAf ({ (ix (ix (zh a0).Mons a1 zf).Guests a2 zi) with Prog:=(ix (ix (zT (zh a0) (zh a0).Buffer a1 a2 (zM (zL (ix (ix (zh a0).Mons a1 zf).Guests a2 zi))) (zba false) false).Mons a1 zf).Guests a2 zi).Prog,Written:=(ix (ix (zT (zh a0) (zh a0).Buffer a1 a2 (zM (zL (ix (ix (zh a0).Mons a1 zf).Guests a2 zi))) (zba false) false).Mons a1 zf).Guests a2 zi).Written,Live:=(ix (ix (zT (zh a0) (zh a0).Buffer a1 a2 (zM (zL (ix (ix (zh a0).Mons a1 zf).Guests a2 zi))) (zba false) false).Mons a1 zf).Guests a2 zi).Live,Seen:=(ix (ix (zT (zh a0) (zh a0).Buffer a1 a2 (zM (zL (ix (ix (zh a0).Mons a1 zf).Guests a2 zi))) (zba false) false).Mons a1 zf).Guests a2 zi).Seen }:Guest) (zoD (zT (zh a0) (zh a0).Buffer a1 a2 (zM (zL (ix (ix (zh a0).Mons a1 zf).Guests a2 zi))) (zba false) false).Memory (zht (zh a0) (zh a0).Buffer a1 a2 (zM (zL (ix (ix (zh a0).Mons a1 zf).Guests a2 zi))) (zba false) false) (zf9 (zL (ix (ix (zh a0).Mons a1 zf).Guests a2 zi))))) (cond (inb a2 (ln (ix (zT (zh a0) (zh a0).Buffer a1 a2 (zM (zL (ix (ix (zh a0).Mons a1 zf).Guests a2 zi))) (zba false) false).Mons a1 zf).Guests)) (share (up (zT (zh a0) (zh a0).Buffer a1 a2 (zM (zL (ix (ix (zh a0).Mons a1 zf).Guests a2 zi))) (zba false) false).Mons a1 ({ (ix (zT (zh a0) (zh a0).Buffer a1 a2 (zM (zL (ix (ix (zh a0).Mons a1 zf).Guests a2 zi))) (zba false) false).Mons a1 zf) with Guests:=(up (ix (zT (zh a0) (zh a0).Buffer a1 a2 (zM (zL (ix (ix (zh a0).Mons a1 zf).Guests a2 zi))) (zba false) false).Mons a1 zf).Guests a2 (ztT ({ (ix (ix (zh a0).Mons a1 zf).Guests a2 zi) with Prog:=(ix (ix (zT (zh a0) (zh a0).Buffer a1 a2 (zM (zL (ix (ix (zh a0).Mons a1 zf).Guests a2 zi))) (zba false) false).Mons a1 zf).Guests a2 zi).Prog,Written:=(ix (ix (zT (zh a0) (zh a0).Buffer a1 a2 (zM (zL (ix (ix (zh a0).Mons a1 zf).Guests a2 zi))) (zba false) false).Mons a1 zf).Guests a2 zi).Written,Live:=(ix (ix (zT (zh a0) (zh a0).Buffer a1 a2 (zM (zL (ix (ix (zh a0).Mons a1 zf).Guests a2 zi))) (zba false) false).Mons a1 zf).Guests a2 zi).Live,Seen:=(ix (ix (zT (zh a0) (zh a0).Buffer a1 a2 (zM (zL (ix (ix (zh a0).Mons a1 zf).Guests a2 zi))) (zba false) false).Mons a1 zf).Guests a2 zi).Seen }:Guest) (zoD (zT (zh a0) (zh a0).Buffer a1 a2 (zM (zL (ix (ix (zh a0).Mons a1 zf).Guests a2 zi))) (zba false) false).Memory (zht (zh a0) (zh a0).Buffer a1 a2 (zM (zL (ix (ix (zh a0).Mons a1 zf).Guests a2 zi))) (zba false) false) (zf9 (zL (ix (ix (zh a0).Mons a1 zf).Guests a2 zi)))))) }:Mon)) (fun x4=>(some [(.agg (zx ({ (zT (zh a0) (zh a0).Buffer a1 a2 (zM (zL (ix (ix (zh a0).Mons a1 zf).Guests a2 zi))) (zba false) false) with Mons:=x4 }:Host))),(.one (.b true))]))) none) none) none) none) none)) none) none) none) none) none) none) none)) none) none)
theorem zGn (N:Nat)(a0:Host)(a1 a2:Int):evalFn (cQ zVR zV zgI zjC) (zB []) N 12 18 [.agg (zx a0),.one (.i .i64 a1),.one (.i .i64 a2)]=zm3 N a0 a1 a2:=by kernel_rfl
@[reducible] def zAE (x:Guest):Bool:=bif zey x then ieq (zN x) 4 else false
def zmd:List AV->Option (Bool×List AV)
 | [.agg [.s .ins c,.i .i64 d,.i .i64 e,.s .slot f,.s .slot g,.i .i64 h,.i .i64 j,.b k,.i .i64 l,.i .i64 m,.i .i64 n,.b o,.i .i64 p,.b q,.s .int r]]=>some ((zAE (⟨c,d,e,f,g,⟨h,j,k⟩,l,⟨m,n,o,p⟩,q,r⟩:Guest)),[.one (.i .i64 4)])
 | _=>none
theorem zDv:Holds Tryz.prog 40 zmd:=by
 refine ⟨zcf.1,fun w avs xs rs hrep h=>?_⟩;unfold zmd at h;split at h
 ·obtain ⟨hc,rfl⟩:=zl h;obtain ⟨h1,h2⟩:=zku hc;exact zcf.2 w _ xs _ hrep (congr (congrArg (fun c v=>some (c,[AV.one (CV.i .i64 v)])) h1) (of_decide_eq_true h2))
 ·cases h
def zVS:zbP:=[(40,zmd)]++zjV
theorem zXx:zbv zVS:=zn zDv zgs
@[simp,reducible] def zvd (h:Host)(m g:Int):Bool:=bif zeq h m g then ieq (zN (gOf h m g)) 4 else false
@[simp,reducible] def zvi (h:Host)(m g:Int):Host:=(zbE h m g).1
@[simp,reducible] def zvy (h:Host)(m g:Int):Bool:=(zbE h m g).2
def zrj:List AV->Option (Bool×List AV)
 | [.agg [.s (.sl .int) c,.s .mon d,.s .entry e,.s .entry f],.one (.i .i64 g),.one (.i .i64 h)]=>some ((zvd (⟨c,d,e,f⟩:Host) g h),[.agg (zx (zvi (⟨c,d,e,f⟩:Host) g h)),.one (.b (zvy (⟨c,d,e,f⟩:Host) g h))])
 | _=>none
def zmM (N:Nat)(a0:Host)(a1 a2:Int):Option Ans :=
 (cond (zd4 a0) (cond (zgf (zh a0) a1 a2) (cond (cond (zhH (zh a0) a1 a2) false true) (some [(.agg (zx (zh a0))),(.one (.b false))]) (cond (inb a1 (ln (zh a0).Mons)) (cond (inb a2 (ln (ix (zh a0).Mons a1 zf).Guests)) (cond (zAE (ix (ix (zh a0).Mons a1 zf).Guests a2 zi)) (cond (zo6 (ix (ix (zh a0).Mons a1 zf).Guests a2 zi)) (cond (zhD (zL (ix (ix (zh a0).Mons a1 zf).Guests a2 zi))) (cond (zrH true) (cond (zoN (zh a0) (zh a0).Buffer a1 a2 (zM (zL (ix (ix (zh a0).Mons a1 zf).Guests a2 zi))) (zba true) false) (cond (cond (zoM (zh a0) (zh a0).Buffer a1 a2 (zM (zL (ix (ix (zh a0).Mons a1 zf).Guests a2 zi))) (zba true) false) false true) (cond (inb a1 (ln (zT (zh a0) (zh a0).Buffer a1 a2 (zM (zL (ix (ix (zh a0).Mons a1 zf).Guests a2 zi))) (zba true) false).Mons)) (cond (zhD (zL (ix (ix (zh a0).Mons a1 zf).Guests a2 zi))) (cond (zkO (zM (zL (ix (ix (zh a0).Mons a1 zf).Guests a2 zi))) true) (cond (zgb ({ (ix (ix (zh a0).Mons a1 zf).Guests a2 zi) with Prog:=(ix (ix (zT (zh a0) (zh a0).Buffer a1 a2 (zM (zL (ix (ix (zh a0).Mons a1 zf).Guests a2 zi))) (zba true) false).Mons a1 zf).Guests a2 zi).Prog,Written:=(ix (ix (zT (zh a0) (zh a0).Buffer a1 a2 (zM (zL (ix (ix (zh a0).Mons a1 zf).Guests a2 zi))) (zba true) false).Mons a1 zf).Guests a2 zi).Written,Live:=(ix (ix (zT (zh a0) (zh a0).Buffer a1 a2 (zM (zL (ix (ix (zh a0).Mons a1 zf).Guests a2 zi))) (zba true) false).Mons a1 zf).Guests a2 zi).Live,Seen:=(ix (ix (zT (zh a0) (zh a0).Buffer a1 a2 (zM (zL (ix (ix (zh a0).Mons a1 zf).Guests a2 zi))) (zba true) false).Mons a1 zf).Guests a2 zi).Seen }:Guest) (zgk (zM (zL (ix (ix (zh a0).Mons a1 zf).Guests a2 zi))) true)) (cond (inb a2 (ln (ix (zT (zh a0) (zh a0).Buffer a1 a2 (zM (zL (ix (ix (zh a0).Mons a1 zf).Guests a2 zi))) (zba true) false).Mons a1 zf).Guests)) (share (up (zT (zh a0) (zh a0).Buffer a1 a2 (zM (zL (ix (ix (zh a0).Mons a1 zf).Guests a2 zi))) (zba true) false).Mons a1 ({ (ix (zT (zh a0) (zh a0).Buffer a1 a2 (zM (zL (ix (ix (zh a0).Mons a1 zf).Guests a2 zi))) (zba true) false).Mons a1 zf) with Guests:=(up (ix (zT (zh a0) (zh a0).Buffer a1 a2 (zM (zL (ix (ix (zh a0).Mons a1 zf).Guests a2 zi))) (zba true) false).Mons a1 zf).Guests a2 (zgc ({ (ix (ix (zh a0).Mons a1 zf).Guests a2 zi) with Prog:=(ix (ix (zT (zh a0) (zh a0).Buffer a1 a2 (zM (zL (ix (ix (zh a0).Mons a1 zf).Guests a2 zi))) (zba true) false).Mons a1 zf).Guests a2 zi).Prog,Written:=(ix (ix (zT (zh a0) (zh a0).Buffer a1 a2 (zM (zL (ix (ix (zh a0).Mons a1 zf).Guests a2 zi))) (zba true) false).Mons a1 zf).Guests a2 zi).Written,Live:=(ix (ix (zT (zh a0) (zh a0).Buffer a1 a2 (zM (zL (ix (ix (zh a0).Mons a1 zf).Guests a2 zi))) (zba true) false).Mons a1 zf).Guests a2 zi).Live,Seen:=(ix (ix (zT (zh a0) (zh a0).Buffer a1 a2 (zM (zL (ix (ix (zh a0).Mons a1 zf).Guests a2 zi))) (zba true) false).Mons a1 zf).Guests a2 zi).Seen }:Guest) (zgk (zM (zL (ix (ix (zh a0).Mons a1 zf).Guests a2 zi))) true))) }:Mon)) (fun x4=>(some [(.agg (zx ({ (zT (zh a0) (zh a0).Buffer a1 a2 (zM (zL (ix (ix (zh a0).Mons a1 zf).Guests a2 zi))) (zba true) false) with Mons:=x4 }:Host))),(.one (.b true))]))) none) none) none) none) none) (cond (zmN (zL (ix (ix (zh a0).Mons a1 zf).Guests a2 zi))) (cond (ztj (zT (zh a0) (zh a0).Buffer a1 a2 (zM (zL (ix (ix (zh a0).Mons a1 zf).Guests a2 zi))) (zba true) false).Memory (zht (zh a0) (zh a0).Buffer a1 a2 (zM (zL (ix (ix (zh a0).Mons a1 zf).Guests a2 zi))) (zba true) false) (zf9 (zL (ix (ix (zh a0).Mons a1 zf).Guests a2 zi))) (ix (ix (zh a0).Mons a1 zf).Guests a2 zi).A) (cond (inb a1 (ln (zT (zh a0) (zh a0).Buffer a1 a2 (zM (zL (ix (ix (zh a0).Mons a1 zf).Guests a2 zi))) (zba true) false).Mons)) (cond (zyF ({ (ix (ix (zh a0).Mons a1 zf).Guests a2 zi) with Prog:=(ix (ix (zT (zh a0) (zh a0).Buffer a1 a2 (zM (zL (ix (ix (zh a0).Mons a1 zf).Guests a2 zi))) (zba true) false).Mons a1 zf).Guests a2 zi).Prog,Written:=(ix (ix (zT (zh a0) (zh a0).Buffer a1 a2 (zM (zL (ix (ix (zh a0).Mons a1 zf).Guests a2 zi))) (zba true) false).Mons a1 zf).Guests a2 zi).Written,Live:=(ix (ix (zT (zh a0) (zh a0).Buffer a1 a2 (zM (zL (ix (ix (zh a0).Mons a1 zf).Guests a2 zi))) (zba true) false).Mons a1 zf).Guests a2 zi).Live,Seen:=(ix (ix (zT (zh a0) (zh a0).Buffer a1 a2 (zM (zL (ix (ix (zh a0).Mons a1 zf).Guests a2 zi))) (zba true) false).Mons a1 zf).Guests a2 zi).Seen }:Guest)) (cond (inb a2 (ln (ix (zT (zh a0) (zh a0).Buffer a1 a2 (zM (zL (ix (ix (zh a0).Mons a1 zf).Guests a2 zi))) (zba true) false).Mons a1 zf).Guests)) (share (up (zT (zh a0) (zh a0).Buffer a1 a2 (zM (zL (ix (ix (zh a0).Mons a1 zf).Guests a2 zi))) (zba true) false).Mons a1 ({ (ix (zT (zh a0) (zh a0).Buffer a1 a2 (zM (zL (ix (ix (zh a0).Mons a1 zf).Guests a2 zi))) (zba true) false).Mons a1 zf) with Guests:=(up (ix (zT (zh a0) (zh a0).Buffer a1 a2 (zM (zL (ix (ix (zh a0).Mons a1 zf).Guests a2 zi))) (zba true) false).Mons a1 zf).Guests a2 (ztu ({ (ix (ix (zh a0).Mons a1 zf).Guests a2 zi) with Prog:=(ix (ix (zT (zh a0) (zh a0).Buffer a1 a2 (zM (zL (ix (ix (zh a0).Mons a1 zf).Guests a2 zi))) (zba true) false).Mons a1 zf).Guests a2 zi).Prog,Written:=(ix (ix (zT (zh a0) (zh a0).Buffer a1 a2 (zM (zL (ix (ix (zh a0).Mons a1 zf).Guests a2 zi))) (zba true) false).Mons a1 zf).Guests a2 zi).Written,Live:=(ix (ix (zT (zh a0) (zh a0).Buffer a1 a2 (zM (zL (ix (ix (zh a0).Mons a1 zf).Guests a2 zi))) (zba true) false).Mons a1 zf).Guests a2 zi).Live,Seen:=(ix (ix (zT (zh a0) (zh a0).Buffer a1 a2 (zM (zL (ix (ix (zh a0).Mons a1 zf).Guests a2 zi))) (zba true) false).Mons a1 zf).Guests a2 zi).Seen }:Guest))) }:Mon)) (fun x4=>(some [(.agg (zx ({ (zT (zh a0) (zh a0).Buffer a1 a2 (zM (zL (ix (ix (zh a0).Mons a1 zf).Guests a2 zi))) (zba true) false) with Memory:=(zmP (zT (zh a0) (zh a0).Buffer a1 a2 (zM (zL (ix (ix (zh a0).Mons a1 zf).Guests a2 zi))) (zba true) false).Memory (zht (zh a0) (zh a0).Buffer a1 a2 (zM (zL (ix (ix (zh a0).Mons a1 zf).Guests a2 zi))) (zba true) false) (zf9 (zL (ix (ix (zh a0).Mons a1 zf).Guests a2 zi))) (ix (ix (zh a0).Mons a1 zf).Guests a2 zi).A),Mons:=x4 }:Host))),(.one (.b true))]))) none) none) none) none) none)) none) none) none) none) none) none) none)) none) none)
theorem zF4 (N:Nat)(a0:Host)(a1 a2:Int):evalFn (cQ zVS zV zgI zjC) (zB []) N 12 18 [.agg (zx a0),.one (.i .i64 a1),.one (.i .i64 a2)]=zmM N a0 a1 a2:=by kernel_rfl
@[reducible] def zAM (x:Guest):Bool:=bif zey x then ieq (zN x) 5 else false
def zmi:List AV->Option (Bool×List AV)
 | [.agg [.s .ins c,.i .i64 d,.i .i64 e,.s .slot f,.s .slot g,.i .i64 h,.i .i64 j,.b k,.i .i64 l,.i .i64 m,.i .i64 n,.b o,.i .i64 p,.b q,.s .int r]]=>some ((zAM (⟨c,d,e,f,g,⟨h,j,k⟩,l,⟨m,n,o,p⟩,q,r⟩:Guest)),[.one (.i .i64 5)])
 | _=>none
theorem zDN:Holds Tryz.prog 40 zmi:=by
 refine ⟨zcf.1,fun w avs xs rs hrep h=>?_⟩;unfold zmi at h;split at h
 ·obtain ⟨hc,rfl⟩:=zl h;obtain ⟨h1,h2⟩:=zku hc;exact zcf.2 w _ xs _ hrep (congr (congrArg (fun c v=>some (c,[AV.one (CV.i .i64 v)])) h1) (of_decide_eq_true h2))
 ·cases h
def zVH:zbP:=[(40,zmi)]++zjV
theorem zXt:zbv zVH:=zn zDN zgs
@[simp,reducible] def zvm (h:Host)(m g:Int):Bool:=bif zeq h m g then ieq (zN (gOf h m g)) 5 else false
@[simp,reducible] def zvE (h:Host)(m g:Int):Host:=(zbE h m g).1
@[simp,reducible] def zu5 (h:Host)(m g:Int):Bool:=(zbE h m g).2
def zro:List AV->Option (Bool×List AV)
 | [.agg [.s (.sl .int) c,.s .mon d,.s .entry e,.s .entry f],.one (.i .i64 g),.one (.i .i64 h)]=>some ((zvm (⟨c,d,e,f⟩:Host) g h),[.agg (zx (zvE (⟨c,d,e,f⟩:Host) g h)),.one (.b (zu5 (⟨c,d,e,f⟩:Host) g h))])
 | _=>none
def zmy (N:Nat)(a0:Host)(a1 a2:Int):Option Ans :=
 (cond (zd4 a0) (cond (zgf (zh a0) a1 a2) (cond (cond (zhH (zh a0) a1 a2) false true) (some [(.agg (zx (zh a0))),(.one (.b false))]) (cond (inb a1 (ln (zh a0).Mons)) (cond (inb a2 (ln (ix (zh a0).Mons a1 zf).Guests)) (cond (zAM (ix (ix (zh a0).Mons a1 zf).Guests a2 zi)) (cond (inb a1 (ln (zh a0).Mons)) (cond (zo4 (ix (zh a0).Mons a1 zf).Traps (ix (ix (zh a0).Mons a1 zf).Guests a2 zi).Ctl.Traps 1) (cond (ieq (zlD (ix (zh a0).Mons a1 zf).Traps (ix (ix (zh a0).Mons a1 zf).Guests a2 zi).Ctl.Traps 1) 2) (cond (inb a1 (ln (zh a0).Mons)) (cond (ilt (ix (zh a0).Mons a1 zf).Own 1000000000) (cond (inb a1 (ln (zh a0).Mons)) (cond (inb a1 (ln (zh a0).Mons)) (share (up (zh a0).Mons a1 ({ (ix (zh a0).Mons a1 zf) with Own:=(zq .i64 (ix (zh a0).Mons a1 zf).Own 1) }:Mon)) (fun x4=>(cond (zdH ({ (ix (ix (zh a0).Mons a1 zf).Guests a2 zi) with Prog:=(ix (ix x4 a1 zf).Guests a2 zi).Prog,Written:=(ix (ix x4 a1 zf).Guests a2 zi).Written,Live:=(ix (ix x4 a1 zf).Guests a2 zi).Live,Seen:=(ix (ix x4 a1 zf).Guests a2 zi).Seen }:Guest) (ix (ix (zh a0).Mons a1 zf).Guests a2 zi).Ctl.Traps 5) (cond (zc8 ({ (ix (ix (zh a0).Mons a1 zf).Guests a2 zi) with Prog:=(ix (ix x4 a1 zf).Guests a2 zi).Prog,Written:=(ix (ix x4 a1 zf).Guests a2 zi).Written,Live:=(ix (ix x4 a1 zf).Guests a2 zi).Live,Seen:=(ix (ix x4 a1 zf).Guests a2 zi).Seen }:Guest) (ix (ix (zh a0).Mons a1 zf).Guests a2 zi).Ctl.Traps 5) (cond (inb a1 (ln x4)) (cond (ilt (ln (ix x4 a1 zf).Outs) 40) (cond (inb a1 (ln x4)) (cond (zeZ (ix (ix x4 a1 zf).Guests a2 zi).Prog (ix (ix (zh a0).Mons a1 zf).Guests a2 zi).Pc) (cond (few (ln (ap (ix x4 a1 zf).Outs [(zbN (ix (ix x4 a1 zf).Guests a2 zi).Prog (ix (ix (zh a0).Mons a1 zf).Guests a2 zi).Pc).X]))) (cond (inb a1 (ln x4)) (cond (cond (ieq a1 a1) true false) (share (up x4 a1 ({ (ix x4 a1 zf) with Outs:=(ap (ix x4 a1 zf).Outs [(zbN (ix (ix x4 a1 zf).Guests a2 zi).Prog (ix (ix (zh a0).Mons a1 zf).Guests a2 zi).Pc).X]) }:Mon)) (fun x5=>(cond (inb a1 (ln x5)) (cond (inb a2 (ln (ix x5 a1 zf).Guests)) (share (up x5 a1 ({ (ix x5 a1 zf) with Guests:=(up (ix x5 a1 zf).Guests a2 (zbR ({ (ix (ix (zh a0).Mons a1 zf).Guests a2 zi) with Prog:=(ix (ix x4 a1 zf).Guests a2 zi).Prog,Written:=(ix (ix x4 a1 zf).Guests a2 zi).Written,Live:=(ix (ix x4 a1 zf).Guests a2 zi).Live,Seen:=(ix (ix x4 a1 zf).Guests a2 zi).Seen }:Guest) (ix (ix (zh a0).Mons a1 zf).Guests a2 zi).Ctl.Traps 5)) }:Mon)) (fun x6=>(some [(.agg (zx ({ (zh a0) with Mons:=x6 }:Host))),(.one (.b true))]))) none) none))) none) none) none) none) none) (cond (inb a1 (ln x4)) (cond (inb a2 (ln (ix x4 a1 zf).Guests)) (share (up x4 a1 ({ (ix x4 a1 zf) with Guests:=(up (ix x4 a1 zf).Guests a2 (zbR ({ (ix (ix (zh a0).Mons a1 zf).Guests a2 zi) with Prog:=(ix (ix x4 a1 zf).Guests a2 zi).Prog,Written:=(ix (ix x4 a1 zf).Guests a2 zi).Written,Live:=(ix (ix x4 a1 zf).Guests a2 zi).Live,Seen:=(ix (ix x4 a1 zf).Guests a2 zi).Seen }:Guest) (ix (ix (zh a0).Mons a1 zf).Guests a2 zi).Ctl.Traps 5)) }:Mon)) (fun x5=>(some [(.agg (zx ({ (zh a0) with Mons:=x5 }:Host))),(.one (.b true))]))) none) none)) none) (cond (inb a1 (ln x4)) (cond (inb a2 (ln (ix x4 a1 zf).Guests)) (share (up x4 a1 ({ (ix x4 a1 zf) with Guests:=(up (ix x4 a1 zf).Guests a2 (zbR ({ (ix (ix (zh a0).Mons a1 zf).Guests a2 zi) with Prog:=(ix (ix x4 a1 zf).Guests a2 zi).Prog,Written:=(ix (ix x4 a1 zf).Guests a2 zi).Written,Live:=(ix (ix x4 a1 zf).Guests a2 zi).Live,Seen:=(ix (ix x4 a1 zf).Guests a2 zi).Seen }:Guest) (ix (ix (zh a0).Mons a1 zf).Guests a2 zi).Ctl.Traps 5)) }:Mon)) (fun x5=>(some [(.agg (zx ({ (zh a0) with Mons:=x5 }:Host))),(.one (.b true))]))) none) none)) none))) none) none) (cond (zdH (ix (ix (zh a0).Mons a1 zf).Guests a2 zi) (ix (ix (zh a0).Mons a1 zf).Guests a2 zi).Ctl.Traps 5) (cond (zc8 (ix (ix (zh a0).Mons a1 zf).Guests a2 zi) (ix (ix (zh a0).Mons a1 zf).Guests a2 zi).Ctl.Traps 5) (cond (inb a1 (ln (zh a0).Mons)) (cond (ilt (ln (ix (zh a0).Mons a1 zf).Outs) 40) (cond (inb a1 (ln (zh a0).Mons)) (cond (zeZ (ix (ix (zh a0).Mons a1 zf).Guests a2 zi).Prog (ix (ix (zh a0).Mons a1 zf).Guests a2 zi).Pc) (cond (few (ln (ap (ix (zh a0).Mons a1 zf).Outs [(zbN (ix (ix (zh a0).Mons a1 zf).Guests a2 zi).Prog (ix (ix (zh a0).Mons a1 zf).Guests a2 zi).Pc).X]))) (cond (inb a1 (ln (zh a0).Mons)) (cond (cond (ieq a1 a1) true false) (share (up (zh a0).Mons a1 ({ (ix (zh a0).Mons a1 zf) with Outs:=(ap (ix (zh a0).Mons a1 zf).Outs [(zbN (ix (ix (zh a0).Mons a1 zf).Guests a2 zi).Prog (ix (ix (zh a0).Mons a1 zf).Guests a2 zi).Pc).X]) }:Mon)) (fun x4=>(cond (inb a1 (ln x4)) (cond (inb a2 (ln (ix x4 a1 zf).Guests)) (share (up x4 a1 ({ (ix x4 a1 zf) with Guests:=(up (ix x4 a1 zf).Guests a2 (zbR (ix (ix (zh a0).Mons a1 zf).Guests a2 zi) (ix (ix (zh a0).Mons a1 zf).Guests a2 zi).Ctl.Traps 5)) }:Mon)) (fun x5=>(some [(.agg (zx ({ (zh a0) with Mons:=x5 }:Host))),(.one (.b true))]))) none) none))) none) none) none) none) none) (cond (inb a1 (ln (zh a0).Mons)) (cond (inb a2 (ln (ix (zh a0).Mons a1 zf).Guests)) (share (up (zh a0).Mons a1 ({ (ix (zh a0).Mons a1 zf) with Guests:=(up (ix (zh a0).Mons a1 zf).Guests a2 (zbR (ix (ix (zh a0).Mons a1 zf).Guests a2 zi) (ix (ix (zh a0).Mons a1 zf).Guests a2 zi).Ctl.Traps 5)) }:Mon)) (fun x4=>(some [(.agg (zx ({ (zh a0) with Mons:=x4 }:Host))),(.one (.b true))]))) none) none)) none) (cond (inb a1 (ln (zh a0).Mons)) (cond (inb a2 (ln (ix (zh a0).Mons a1 zf).Guests)) (share (up (zh a0).Mons a1 ({ (ix (zh a0).Mons a1 zf) with Guests:=(up (ix (zh a0).Mons a1 zf).Guests a2 (zbR (ix (ix (zh a0).Mons a1 zf).Guests a2 zi) (ix (ix (zh a0).Mons a1 zf).Guests a2 zi).Ctl.Traps 5)) }:Mon)) (fun x4=>(some [(.agg (zx ({ (zh a0) with Mons:=x4 }:Host))),(.one (.b true))]))) none) none)) none)) none) (cond (zdH (ix (ix (zh a0).Mons a1 zf).Guests a2 zi) (ix (ix (zh a0).Mons a1 zf).Guests a2 zi).Ctl.Traps 5) (cond (zc8 (ix (ix (zh a0).Mons a1 zf).Guests a2 zi) (ix (ix (zh a0).Mons a1 zf).Guests a2 zi).Ctl.Traps 5) (cond (inb a1 (ln (zh a0).Mons)) (cond (ilt (ln (ix (zh a0).Mons a1 zf).Outs) 40) (cond (inb a1 (ln (zh a0).Mons)) (cond (zeZ (ix (ix (zh a0).Mons a1 zf).Guests a2 zi).Prog (ix (ix (zh a0).Mons a1 zf).Guests a2 zi).Pc) (cond (few (ln (ap (ix (zh a0).Mons a1 zf).Outs [(zbN (ix (ix (zh a0).Mons a1 zf).Guests a2 zi).Prog (ix (ix (zh a0).Mons a1 zf).Guests a2 zi).Pc).X]))) (cond (inb a1 (ln (zh a0).Mons)) (cond (cond (ieq a1 a1) true false) (share (up (zh a0).Mons a1 ({ (ix (zh a0).Mons a1 zf) with Outs:=(ap (ix (zh a0).Mons a1 zf).Outs [(zbN (ix (ix (zh a0).Mons a1 zf).Guests a2 zi).Prog (ix (ix (zh a0).Mons a1 zf).Guests a2 zi).Pc).X]) }:Mon)) (fun x4=>(cond (inb a1 (ln x4)) (cond (inb a2 (ln (ix x4 a1 zf).Guests)) (share (up x4 a1 ({ (ix x4 a1 zf) with Guests:=(up (ix x4 a1 zf).Guests a2 (zbR (ix (ix (zh a0).Mons a1 zf).Guests a2 zi) (ix (ix (zh a0).Mons a1 zf).Guests a2 zi).Ctl.Traps 5)) }:Mon)) (fun x5=>(some [(.agg (zx ({ (zh a0) with Mons:=x5 }:Host))),(.one (.b true))]))) none) none))) none) none) none) none) none) (cond (inb a1 (ln (zh a0).Mons)) (cond (inb a2 (ln (ix (zh a0).Mons a1 zf).Guests)) (share (up (zh a0).Mons a1 ({ (ix (zh a0).Mons a1 zf) with Guests:=(up (ix (zh a0).Mons a1 zf).Guests a2 (zbR (ix (ix (zh a0).Mons a1 zf).Guests a2 zi) (ix (ix (zh a0).Mons a1 zf).Guests a2 zi).Ctl.Traps 5)) }:Mon)) (fun x4=>(some [(.agg (zx ({ (zh a0) with Mons:=x4 }:Host))),(.one (.b true))]))) none) none)) none) (cond (inb a1 (ln (zh a0).Mons)) (cond (inb a2 (ln (ix (zh a0).Mons a1 zf).Guests)) (share (up (zh a0).Mons a1 ({ (ix (zh a0).Mons a1 zf) with Guests:=(up (ix (zh a0).Mons a1 zf).Guests a2 (zbR (ix (ix (zh a0).Mons a1 zf).Guests a2 zi) (ix (ix (zh a0).Mons a1 zf).Guests a2 zi).Ctl.Traps 5)) }:Mon)) (fun x4=>(some [(.agg (zx ({ (zh a0) with Mons:=x4 }:Host))),(.one (.b true))]))) none) none)) none)) none) none) none) none) none)) none) none)
theorem zEI (N:Nat)(a0:Host)(a1 a2:Int):evalFn (cQ zVH zV zgI zjC) (zB []) N 12 18 [.agg (zx a0),.one (.i .i64 a1),.one (.i .i64 a2)]=zmy N a0 a1 a2:=by kernel_rfl
@[reducible] def zAN (x:Guest):Bool:=bif zey x then ieq (zN x) 6 else false
def zmL:List AV->Option (Bool×List AV)
 | [.agg [.s .ins c,.i .i64 d,.i .i64 e,.s .slot f,.s .slot g,.i .i64 h,.i .i64 j,.b k,.i .i64 l,.i .i64 m,.i .i64 n,.b o,.i .i64 p,.b q,.s .int r]]=>some ((zAN (⟨c,d,e,f,g,⟨h,j,k⟩,l,⟨m,n,o,p⟩,q,r⟩:Guest)),[.one (.i .i64 6)])
 | _=>none
theorem zDm:Holds Tryz.prog 40 zmL:=by
 refine ⟨zcf.1,fun w avs xs rs hrep h=>?_⟩;unfold zmL at h;split at h
 ·obtain ⟨hc,rfl⟩:=zl h;obtain ⟨h1,h2⟩:=zku hc;exact zcf.2 w _ xs _ hrep (congr (congrArg (fun c v=>some (c,[AV.one (CV.i .i64 v)])) h1) (of_decide_eq_true h2))
 ·cases h
def zV7:zbP:=[(40,zmL)]++zjV
theorem zWg:zbv zV7:=zn zDm zgs
@[simp,reducible] def zvk (h:Host)(m g:Int):Bool:=bif zeq h m g then ieq (zN (gOf h m g)) 6 else false
@[simp,reducible] def zvv (h:Host)(m g:Int):Host:=(zbE h m g).1
@[simp,reducible] def zvF (h:Host)(m g:Int):Bool:=(zbE h m g).2
def zrk:List AV->Option (Bool×List AV)
 | [.agg [.s (.sl .int) c,.s .mon d,.s .entry e,.s .entry f],.one (.i .i64 g),.one (.i .i64 h)]=>some ((zvk (⟨c,d,e,f⟩:Host) g h),[.agg (zx (zvv (⟨c,d,e,f⟩:Host) g h)),.one (.b (zvF (⟨c,d,e,f⟩:Host) g h))])
 | _=>none
def zl9 (N:Nat)(a0:Host)(a1 a2:Int):Option Ans :=
 (cond (zd4 a0) (cond (zgf (zh a0) a1 a2) (cond (cond (zhH (zh a0) a1 a2) false true) (some [(.agg (zx (zh a0))),(.one (.b false))]) (cond (inb a1 (ln (zh a0).Mons)) (cond (inb a2 (ln (ix (zh a0).Mons a1 zf).Guests)) (cond (zAN (ix (ix (zh a0).Mons a1 zf).Guests a2 zi)) (cond (zdH (ix (ix (zh a0).Mons a1 zf).Guests a2 zi) (ix (ix (zh a0).Mons a1 zf).Guests a2 zi).Ctl.Traps 6) (cond (zc8 (ix (ix (zh a0).Mons a1 zf).Guests a2 zi) (ix (ix (zh a0).Mons a1 zf).Guests a2 zi).Ctl.Traps 6) (cond (inb a1 (ln (zh a0).Mons)) (cond (inb a2 (ln (ix (zh a0).Mons a1 zf).Guests)) (share (up (zh a0).Mons a1 ({ (ix (zh a0).Mons a1 zf) with Guests:=(up (ix (zh a0).Mons a1 zf).Guests a2 (zbR (ix (ix (zh a0).Mons a1 zf).Guests a2 zi) (ix (ix (zh a0).Mons a1 zf).Guests a2 zi).Ctl.Traps 6)) }:Mon)) (fun x4=>(some [(.agg (zx ({ (zh a0) with Mons:=x4 }:Host))),(.one (.b true))]))) none) none) (cond (inb a1 (ln (zh a0).Mons)) (cond (inb a2 (ln (ix (zh a0).Mons a1 zf).Guests)) (share (up (zh a0).Mons a1 ({ (ix (zh a0).Mons a1 zf) with Guests:=(up (ix (zh a0).Mons a1 zf).Guests a2 (zbR (ix (ix (zh a0).Mons a1 zf).Guests a2 zi) (ix (ix (zh a0).Mons a1 zf).Guests a2 zi).Ctl.Traps 6)) }:Mon)) (fun x4=>(some [(.agg (zx ({ (zh a0) with Mons:=x4 }:Host))),(.one (.b true))]))) none) none)) none) none) none) none)) none) none)
theorem zE3 (N:Nat)(a0:Host)(a1 a2:Int):evalFn (cQ zV7 zV zgI zjC) (zB []) N 12 18 [.agg (zx a0),.one (.i .i64 a1),.one (.i .i64 a2)]=zl9 N a0 a1 a2:=by kernel_rfl
@[reducible] def zAH (x:Guest):Bool:=bif zey x then ieq (zN x) 7 else false
def zmq:List AV->Option (Bool×List AV)
 | [.agg [.s .ins c,.i .i64 d,.i .i64 e,.s .slot f,.s .slot g,.i .i64 h,.i .i64 j,.b k,.i .i64 l,.i .i64 m,.i .i64 n,.b o,.i .i64 p,.b q,.s .int r]]=>some ((zAH (⟨c,d,e,f,g,⟨h,j,k⟩,l,⟨m,n,o,p⟩,q,r⟩:Guest)),[.one (.i .i64 7)])
 | _=>none
theorem zDi:Holds Tryz.prog 40 zmq:=by
 refine ⟨zcf.1,fun w avs xs rs hrep h=>?_⟩;unfold zmq at h;split at h
 ·obtain ⟨hc,rfl⟩:=zl h;obtain ⟨h1,h2⟩:=zku hc;exact zcf.2 w _ xs _ hrep (congr (congrArg (fun c v=>some (c,[AV.one (CV.i .i64 v)])) h1) (of_decide_eq_true h2))
 ·cases h
def zVt:zbP:=[(40,zmq)]++zjV
theorem zXi:zbv zVt:=zn zDi zgs
@[simp,reducible] def zvV (h:Host)(m g:Int):Bool:=bif zeq h m g then ieq (zN (gOf h m g)) 7 else false
@[simp,reducible] def zvu (h:Host)(m g:Int):Host:=(zbE h m g).1
@[simp,reducible] def zvM (h:Host)(m g:Int):Bool:=(zbE h m g).2
def zrn:List AV->Option (Bool×List AV)
 | [.agg [.s (.sl .int) c,.s .mon d,.s .entry e,.s .entry f],.one (.i .i64 g),.one (.i .i64 h)]=>some ((zvV (⟨c,d,e,f⟩:Host) g h),[.agg (zx (zvu (⟨c,d,e,f⟩:Host) g h)),.one (.b (zvM (⟨c,d,e,f⟩:Host) g h))])
 | _=>none
def zmE (N:Nat)(a0:Host)(a1 a2:Int):Option Ans :=
 (cond (zd4 a0) (cond (zgf (zh a0) a1 a2) (cond (cond (zhH (zh a0) a1 a2) false true) (some [(.agg (zx (zh a0))),(.one (.b false))]) (cond (inb a1 (ln (zh a0).Mons)) (cond (inb a2 (ln (ix (zh a0).Mons a1 zf).Guests)) (cond (zAH (ix (ix (zh a0).Mons a1 zf).Guests a2 zi)) (cond (inb a1 (ln (zh a0).Mons)) (cond (zo4 (ix (zh a0).Mons a1 zf).Traps (ix (ix (zh a0).Mons a1 zf).Guests a2 zi).Ctl.Traps 2) (cond (ieq (zlD (ix (zh a0).Mons a1 zf).Traps (ix (ix (zh a0).Mons a1 zf).Guests a2 zi).Ctl.Traps 2) 2) (cond (inb a1 (ln (zh a0).Mons)) (cond (ilt (ix (zh a0).Mons a1 zf).Own 1000000000) (cond (inb a1 (ln (zh a0).Mons)) (cond (inb a1 (ln (zh a0).Mons)) (share (up (zh a0).Mons a1 ({ (ix (zh a0).Mons a1 zf) with Own:=(zq .i64 (ix (zh a0).Mons a1 zf).Own 1) }:Mon)) (fun x4=>(cond (zdH ({ (ix (ix (zh a0).Mons a1 zf).Guests a2 zi) with Prog:=(ix (ix x4 a1 zf).Guests a2 zi).Prog,Written:=(ix (ix x4 a1 zf).Guests a2 zi).Written,Live:=(ix (ix x4 a1 zf).Guests a2 zi).Live,Seen:=(ix (ix x4 a1 zf).Guests a2 zi).Seen }:Guest) (ix (ix (zh a0).Mons a1 zf).Guests a2 zi).Ctl.Traps 7) (cond (zc8 ({ (ix (ix (zh a0).Mons a1 zf).Guests a2 zi) with Prog:=(ix (ix x4 a1 zf).Guests a2 zi).Prog,Written:=(ix (ix x4 a1 zf).Guests a2 zi).Written,Live:=(ix (ix x4 a1 zf).Guests a2 zi).Live,Seen:=(ix (ix x4 a1 zf).Guests a2 zi).Seen }:Guest) (ix (ix (zh a0).Mons a1 zf).Guests a2 zi).Ctl.Traps 7) (cond (inb a1 (ln x4)) (cond (inb a2 (ln (ix x4 a1 zf).Guests)) (share (up x4 a1 ({ (ix x4 a1 zf) with Guests:=(up (ix x4 a1 zf).Guests a2 (zbR ({ (ix (ix (zh a0).Mons a1 zf).Guests a2 zi) with Prog:=(ix (ix x4 a1 zf).Guests a2 zi).Prog,Written:=(ix (ix x4 a1 zf).Guests a2 zi).Written,Live:=(ix (ix x4 a1 zf).Guests a2 zi).Live,Seen:=(ix (ix x4 a1 zf).Guests a2 zi).Seen }:Guest) (ix (ix (zh a0).Mons a1 zf).Guests a2 zi).Ctl.Traps 7)) }:Mon)) (fun x5=>(some [(.agg (zx ({ (zh a0) with Mons:=x5 }:Host))),(.one (.b true))]))) none) none) (cond (inb a1 (ln x4)) (cond (inb a2 (ln (ix x4 a1 zf).Guests)) (share (up x4 a1 ({ (ix x4 a1 zf) with Guests:=(up (ix x4 a1 zf).Guests a2 (zbR ({ (ix (ix (zh a0).Mons a1 zf).Guests a2 zi) with Prog:=(ix (ix x4 a1 zf).Guests a2 zi).Prog,Written:=(ix (ix x4 a1 zf).Guests a2 zi).Written,Live:=(ix (ix x4 a1 zf).Guests a2 zi).Live,Seen:=(ix (ix x4 a1 zf).Guests a2 zi).Seen }:Guest) (ix (ix (zh a0).Mons a1 zf).Guests a2 zi).Ctl.Traps 7)) }:Mon)) (fun x5=>(some [(.agg (zx ({ (zh a0) with Mons:=x5 }:Host))),(.one (.b true))]))) none) none)) none))) none) none) (cond (zdH (ix (ix (zh a0).Mons a1 zf).Guests a2 zi) (ix (ix (zh a0).Mons a1 zf).Guests a2 zi).Ctl.Traps 7) (cond (zc8 (ix (ix (zh a0).Mons a1 zf).Guests a2 zi) (ix (ix (zh a0).Mons a1 zf).Guests a2 zi).Ctl.Traps 7) (cond (inb a1 (ln (zh a0).Mons)) (cond (inb a2 (ln (ix (zh a0).Mons a1 zf).Guests)) (share (up (zh a0).Mons a1 ({ (ix (zh a0).Mons a1 zf) with Guests:=(up (ix (zh a0).Mons a1 zf).Guests a2 (zbR (ix (ix (zh a0).Mons a1 zf).Guests a2 zi) (ix (ix (zh a0).Mons a1 zf).Guests a2 zi).Ctl.Traps 7)) }:Mon)) (fun x4=>(some [(.agg (zx ({ (zh a0) with Mons:=x4 }:Host))),(.one (.b true))]))) none) none) (cond (inb a1 (ln (zh a0).Mons)) (cond (inb a2 (ln (ix (zh a0).Mons a1 zf).Guests)) (share (up (zh a0).Mons a1 ({ (ix (zh a0).Mons a1 zf) with Guests:=(up (ix (zh a0).Mons a1 zf).Guests a2 (zbR (ix (ix (zh a0).Mons a1 zf).Guests a2 zi) (ix (ix (zh a0).Mons a1 zf).Guests a2 zi).Ctl.Traps 7)) }:Mon)) (fun x4=>(some [(.agg (zx ({ (zh a0) with Mons:=x4 }:Host))),(.one (.b true))]))) none) none)) none)) none) (cond (zdH (ix (ix (zh a0).Mons a1 zf).Guests a2 zi) (ix (ix (zh a0).Mons a1 zf).Guests a2 zi).Ctl.Traps 7) (cond (zc8 (ix (ix (zh a0).Mons a1 zf).Guests a2 zi) (ix (ix (zh a0).Mons a1 zf).Guests a2 zi).Ctl.Traps 7) (cond (inb a1 (ln (zh a0).Mons)) (cond (inb a2 (ln (ix (zh a0).Mons a1 zf).Guests)) (share (up (zh a0).Mons a1 ({ (ix (zh a0).Mons a1 zf) with Guests:=(up (ix (zh a0).Mons a1 zf).Guests a2 (zbR (ix (ix (zh a0).Mons a1 zf).Guests a2 zi) (ix (ix (zh a0).Mons a1 zf).Guests a2 zi).Ctl.Traps 7)) }:Mon)) (fun x4=>(some [(.agg (zx ({ (zh a0) with Mons:=x4 }:Host))),(.one (.b true))]))) none) none) (cond (inb a1 (ln (zh a0).Mons)) (cond (inb a2 (ln (ix (zh a0).Mons a1 zf).Guests)) (share (up (zh a0).Mons a1 ({ (ix (zh a0).Mons a1 zf) with Guests:=(up (ix (zh a0).Mons a1 zf).Guests a2 (zbR (ix (ix (zh a0).Mons a1 zf).Guests a2 zi) (ix (ix (zh a0).Mons a1 zf).Guests a2 zi).Ctl.Traps 7)) }:Mon)) (fun x4=>(some [(.agg (zx ({ (zh a0) with Mons:=x4 }:Host))),(.one (.b true))]))) none) none)) none)) none) none) none) none) none)) none) none)
theorem zFp (N:Nat)(a0:Host)(a1 a2:Int):evalFn (cQ zVt zV zgI zjC) (zB []) N 12 18 [.agg (zx a0),.one (.i .i64 a1),.one (.i .i64 a2)]=zmE N a0 a1 a2:=by kernel_rfl
theorem zDH (a0:Host)(a1 a2:Int)(hb:zG big [.agg (zx a0),.one (.i .i64 a1),.one (.i .i64 a2)])(hc:(zvb a0 a1 a2)=true):∃N,zmt N a0 a1 a2=some [.agg (zx (zvU a0 a1 a2)),.one (.b (zvJ a0 a1 a2))]:=by
 obtain ⟨hc,hw⟩:=zku hc;have hs:=(zbg a0).1 (zI.1 hc);refine ⟨0,?_⟩
 show _=some (zdN (zbE a0 a1 a2))
 unfold zmt;refine must (zbr ((zbg _).2 hs)) (must (zbr ((zbg _).2 hs)) (brN (fun hh=>?_) (fun hh=>?_)))
 ·rw [zgo hh];rfl
 obtain ⟨g1,g2,g3⟩:=zcK hh;have hx:=zii hs g2 g3;have hk:zN (gOf a0 a1 a2)=0:=of_decide_eq_true hw;rw [zhk hh,hk];refine must (zF g2) (must (zF g3) (must (zhy rfl hw) ?_));rfl
theorem znu:Holds Tryz.prog 18 zrm:=zo zXb zD zdS zeW (zC (by kernel_rfl)) fun avs rs hb h=>by
 unfold zrm at h;split at h
 ·obtain ⟨hc,rfl⟩:=zl h;exact (zd7 zDH zFl hc hb :)
 ·cases h
theorem zDk (a0:Host)(a1 a2:Int)(hb:zG big [.agg (zx a0),.one (.i .i64 a1),.one (.i .i64 a2)])(hc:(zvH a0 a1 a2)=true):∃N,zmX N a0 a1 a2=some [.agg (zx (zvK a0 a1 a2)),.one (.b (zu3 a0 a1 a2))]:=by
 obtain ⟨hc,hw⟩:=zku hc;have hs:=(zbg a0).1 (zI.1 hc);refine ⟨0,?_⟩
 show _=some (zdN (zbE a0 a1 a2))
 unfold zmX;refine must (zbr ((zbg _).2 hs)) (must (zbr ((zbg _).2 hs)) (brN (fun hh=>?_) (fun hh=>?_)))
 ·rw [zgo hh];rfl
 obtain ⟨g1,g2,g3⟩:=zcK hh;have hx:=zii hs g2 g3;have hk:zN (gOf a0 a1 a2)=1:=of_decide_eq_true hw;rw [zhk hh,hk];refine must (zF g2) (must (zF g3) (must (zhy rfl hw) ?_))
 show _=some (zdN (zfz a0 a1 a2 (interrupted (gOf a0 a1 a2)),true))
 exact must (zF g2) (must (zbr hx) (must (zF g3) rfl))
theorem zAZ:Holds Tryz.prog 18 zrp:=zo zWt zD zdS zeW (zC (by kernel_rfl)) fun avs rs hb h=>by
 unfold zrp at h;split at h
 ·obtain ⟨hc,rfl⟩:=zl h;exact (zd7 zDk zFr hc hb :)
 ·cases h
theorem zDI (a0:Host)(a1 a2:Int)(hb:zG big [.agg (zx a0),.one (.i .i64 a1),.one (.i .i64 a2)])(hc:(zu1 a0 a1 a2)=true):∃N,zl6 N a0 a1 a2=some [.agg (zx (zvz a0 a1 a2)),.one (.b (zvj a0 a1 a2))]:=by
 obtain ⟨hc,hw⟩:=zku hc;have hs:=(zbg a0).1 (zI.1 hc);refine ⟨0,?_⟩
 show _=some (zdN (zbE a0 a1 a2))
 unfold zl6;refine must (zbr ((zbg _).2 hs)) (must (zbr ((zbg _).2 hs)) (brN (fun hh=>?_) (fun hh=>?_)))
 ·rw [zgo hh];rfl
 obtain ⟨g1,g2,g3⟩:=zcK hh;have hx:=zii hs g2 g3;have hk:zN (gOf a0 a1 a2)=2:=of_decide_eq_true hw;rw [zhk hh,hk];refine must (zF g2) (must (zF g3) (must (zhy rfl hw) ?_))
 show _=some (zdN (zfz a0 a1 a2 (plainly (gOf a0 a1 a2)),true))
 exact must (zF g2) (must (zbr hx) (must (zF g3) rfl))
theorem zA0:Holds Tryz.prog 18 zrl:=zo zWQ zD zdS zeW (zC (by kernel_rfl)) fun avs rs hb h=>by
 unfold zrl at h;split at h
 ·obtain ⟨hc,rfl⟩:=zl h;exact (zd7 zDI zFw hc hb :)
 ·cases h
theorem zDX (a0:Host)(a1 a2:Int)(hb:zG big [.agg (zx a0),.one (.i .i64 a1),.one (.i .i64 a2)])(hc:(zvN a0 a1 a2)=true):∃N,zm3 N a0 a1 a2=some [.agg (zx (zvR a0 a1 a2)),.one (.b (zve a0 a1 a2))]:=by
 obtain ⟨hc,hw⟩:=zku hc;have hs:=(zbg a0).1 (zI.1 hc);refine ⟨0,?_⟩
 show _=some (zdN (zbE a0 a1 a2))
 unfold zm3;refine must (zbr ((zbg _).2 hs)) (must (zbr ((zbg _).2 hs)) (brN (fun hh=>?_) (fun hh=>?_)))
 ·rw [zgo hh];rfl
 obtain ⟨g1,g2,g3⟩:=zcK hh;have hx:=zii hs g2 g3;have hk:zN (gOf a0 a1 a2)=3:=of_decide_eq_true hw;rw [zhk hh,hk];refine must (zF g2) (must (zF g3) (must (zhy rfl hw) ?_))
 show _=some (zdN (zhl (zhA a0 a1 a2 (gOf a0 a1 a2) false) a1 a2 (gOf a0 a1 a2) false,true))
 have k:=zCN (b:=a0.Buffer) (page:=zdA (address (gOf a0 a1 a2))) (need:=zeN false) (io:=false) hs hh;have F:=zkc k g2 g3;have e3:(ix (ix (zT (zh a0) (zh a0).Buffer a1 a2 (zM (zL (ix (ix (zh a0).Mons a1 zf).Guests a2 zi))) (zba false) false).Mons a1 zf).Guests a2 zi)=(ix (ix (zh a0).Mons a1 zf).Guests a2 zi):=congrArg (fun l=>ix l a2 gZ) (zHn k.gs a1);rw [e3];unfold zhl;refine must rfl (must rfl (must rfl (must (zbr ((zbg _).2 hs)) (brN (fun h=>?_) (fun h=>?_)))))
 ·rw [show (zhA a0 a1 a2 (gOf a0 a1 a2) false).2.2=false from h]
  exact must (zF F.hm) (must rfl (must rfl (must (zbr hx) (must (zF F.hg) rfl))))
 ·rw [show (zhA a0 a1 a2 (gOf a0 a1 a2) false).2.2=true from h]
  exact must (zF F.hm) (must rfl (must rfl (must (zbr hx) (must (zF F.hg) rfl))))
theorem zA1:Holds Tryz.prog 18 zri:=zo zWk zD zdS zeW (zC (by kernel_rfl)) fun avs rs hb h=>by
 unfold zri at h;split at h
 ·obtain ⟨hc,rfl⟩:=zl h;exact (zd7 zDX zGn hc hb :)
 ·cases h
theorem zDg (a0:Host)(a1 a2:Int)(hb:zG big [.agg (zx a0),.one (.i .i64 a1),.one (.i .i64 a2)])(hc:(zvd a0 a1 a2)=true):∃N,zmM N a0 a1 a2=some [.agg (zx (zvi a0 a1 a2)),.one (.b (zvy a0 a1 a2))]:=by
 obtain ⟨hc,hw⟩:=zku hc;have hs:=(zbg a0).1 (zI.1 hc);refine ⟨0,?_⟩
 show _=some (zdN (zbE a0 a1 a2))
 unfold zmM;refine must (zbr ((zbg _).2 hs)) (must (zbr ((zbg _).2 hs)) (brN (fun hh=>?_) (fun hh=>?_)))
 ·rw [zgo hh];rfl
 obtain ⟨g1,g2,g3⟩:=zcK hh;have hx:=zii hs g2 g3;have hk:zN (gOf a0 a1 a2)=4:=of_decide_eq_true hw;rw [zhk hh,hk];refine must (zF g2) (must (zF g3) (must (zhy rfl hw) ?_))
 show _=some (zdN (zhl (zhA a0 a1 a2 (gOf a0 a1 a2) true) a1 a2 (gOf a0 a1 a2) true,true))
 have k:=zCN (b:=a0.Buffer) (page:=zdA (address (gOf a0 a1 a2))) (need:=zeN true) (io:=false) hs hh;have F:=zkc k g2 g3;have e3:(ix (ix (zT (zh a0) (zh a0).Buffer a1 a2 (zM (zL (ix (ix (zh a0).Mons a1 zf).Guests a2 zi))) (zba true) false).Mons a1 zf).Guests a2 zi)=(ix (ix (zh a0).Mons a1 zf).Guests a2 zi):=congrArg (fun l=>ix l a2 gZ) (zHn k.gs a1);rw [e3];unfold zhl;refine must rfl (must rfl (must rfl (must (zbr ((zbg _).2 hs)) (brN (fun h=>?_) (fun h=>?_)))))
 ·rw [show (zhA a0 a1 a2 (gOf a0 a1 a2) true).2.2=false from h]
  exact must (zF F.hm) (must rfl (must rfl (must (zbr hx) (must (zF F.hg) rfl))))
 ·rw [show (zhA a0 a1 a2 (gOf a0 a1 a2) true).2.2=true from h]
  exact must rfl (must (zbr k.shape.1.1) (must (zF F.hm) (must (zbr hx) (must (zF F.hg) rfl))))
theorem zAY:Holds Tryz.prog 18 zrj:=zo zXx zD zdS zeW (zC (by kernel_rfl)) fun avs rs hb h=>by
 unfold zrj at h;split at h
 ·obtain ⟨hc,rfl⟩:=zl h;exact (zd7 zDg zF4 hc hb :)
 ·cases h
theorem z0p {a0:Host}{a1 a2:Int}(hx:SmG (gOf a0 a1 a2))(g2:hasB a1 (ln a0.Mons)=true)(g3:hasB a2 (ln (ix a0.Mons a1 mZ).Guests)=true) :
 (cond (zdH (ix (ix (zh a0).Mons a1 zf).Guests a2 zi) (ix (ix (zh a0).Mons a1 zf).Guests a2 zi).Ctl.Traps 5) (cond (zc8 (ix (ix (zh a0).Mons a1 zf).Guests a2 zi) (ix (ix (zh a0).Mons a1 zf).Guests a2 zi).Ctl.Traps 5) (cond (inb a1 (ln (zh a0).Mons)) (cond (ilt (ln (ix (zh a0).Mons a1 zf).Outs) 40) (cond (inb a1 (ln (zh a0).Mons)) (cond (zeZ (ix (ix (zh a0).Mons a1 zf).Guests a2 zi).Prog (ix (ix (zh a0).Mons a1 zf).Guests a2 zi).Pc) (cond (few (ln (ap (ix (zh a0).Mons a1 zf).Outs [(zbN (ix (ix (zh a0).Mons a1 zf).Guests a2 zi).Prog (ix (ix (zh a0).Mons a1 zf).Guests a2 zi).Pc).X]))) (cond (inb a1 (ln (zh a0).Mons)) (cond (cond (ieq a1 a1) true false) (share (up (zh a0).Mons a1 ({ (ix (zh a0).Mons a1 zf) with Outs:=(ap (ix (zh a0).Mons a1 zf).Outs [(zbN (ix (ix (zh a0).Mons a1 zf).Guests a2 zi).Prog (ix (ix (zh a0).Mons a1 zf).Guests a2 zi).Pc).X]) }:Mon)) (fun x4=>(cond (inb a1 (ln x4)) (cond (inb a2 (ln (ix x4 a1 zf).Guests)) (share (up x4 a1 ({ (ix x4 a1 zf) with Guests:=(up (ix x4 a1 zf).Guests a2 (zbR (ix (ix (zh a0).Mons a1 zf).Guests a2 zi) (ix (ix (zh a0).Mons a1 zf).Guests a2 zi).Ctl.Traps 5)) }:Mon)) (fun x5=>(some [(.agg (zx ({ (zh a0) with Mons:=x5 }:Host))),(.one (.b true))]))) none) none))) none) none) none) none) none) (cond (inb a1 (ln (zh a0).Mons)) (cond (inb a2 (ln (ix (zh a0).Mons a1 zf).Guests)) (share (up (zh a0).Mons a1 ({ (ix (zh a0).Mons a1 zf) with Guests:=(up (ix (zh a0).Mons a1 zf).Guests a2 (zbR (ix (ix (zh a0).Mons a1 zf).Guests a2 zi) (ix (ix (zh a0).Mons a1 zf).Guests a2 zi).Ctl.Traps 5)) }:Mon)) (fun x4=>(some [(.agg (zx ({ (zh a0) with Mons:=x4 }:Host))),(.one (.b true))]))) none) none)) none) (cond (inb a1 (ln (zh a0).Mons)) (cond (inb a2 (ln (ix (zh a0).Mons a1 zf).Guests)) (share (up (zh a0).Mons a1 ({ (ix (zh a0).Mons a1 zf) with Guests:=(up (ix (zh a0).Mons a1 zf).Guests a2 (zbR (ix (ix (zh a0).Mons a1 zf).Guests a2 zi) (ix (ix (zh a0).Mons a1 zf).Guests a2 zi).Ctl.Traps 5)) }:Mon)) (fun x4=>(some [(.agg (zx ({ (zh a0) with Mons:=x4 }:Host))),(.one (.b true))]))) none) none)) none)=some (zdN (zfz (zih a0 a1 (gOf a0 a1 a2) 5) a1 a2 (zfv (gOf a0 a1 a2) (gOf a0 a1 a2).Ctl.Traps 5),true)):=by
 refine must (zbr hx) (br (fun h1=>must (zF g2) (br (fun h3=>?_) (fun h3=>?_))) (fun h1=>?_))
 ·rw [zPY (h:=a0) (m:=a1) (x:=gOf a0 a1 a2) (w:=5) h1 rfl h3];refine must (zF g2) (must rfl (must (zPe h3) (must (zF g2) (must (zG4 _) (shr (must (zF (zed g2)) (must ?_ rfl)))))));rw [zlS g2];exact zF g3
 ·rw [zMy (h:=a0) (m:=a1) (x:=gOf a0 a1 a2) (w:=5) h3];exact must (zF g2) (must (zF g3) rfl)
 ·rw [zGT (h:=a0) (m:=a1) (x:=gOf a0 a1 a2) (w:=5) h1];exact must (zF g2) (must (zF g3) rfl)
theorem z2V {a0:Host}{x4:List Mon}{a1 a2:Int}(hx:SmG (gOf a0 a1 a2))(g2:hasB a1 (ln x4)=true)(g3:hasB a2 (ln (ix x4 a1 mZ).Guests)=true)(e:(ix (ix x4 a1 zf).Guests a2 zi)=gOf a0 a1 a2) :
 (cond (zdH ({ (ix (ix (zh a0).Mons a1 zf).Guests a2 zi) with Prog:=(ix (ix x4 a1 zf).Guests a2 zi).Prog,Written:=(ix (ix x4 a1 zf).Guests a2 zi).Written,Live:=(ix (ix x4 a1 zf).Guests a2 zi).Live,Seen:=(ix (ix x4 a1 zf).Guests a2 zi).Seen }:Guest) (ix (ix (zh a0).Mons a1 zf).Guests a2 zi).Ctl.Traps 5) (cond (zc8 ({ (ix (ix (zh a0).Mons a1 zf).Guests a2 zi) with Prog:=(ix (ix x4 a1 zf).Guests a2 zi).Prog,Written:=(ix (ix x4 a1 zf).Guests a2 zi).Written,Live:=(ix (ix x4 a1 zf).Guests a2 zi).Live,Seen:=(ix (ix x4 a1 zf).Guests a2 zi).Seen }:Guest) (ix (ix (zh a0).Mons a1 zf).Guests a2 zi).Ctl.Traps 5) (cond (inb a1 (ln x4)) (cond (ilt (ln (ix x4 a1 zf).Outs) 40) (cond (inb a1 (ln x4)) (cond (zeZ (ix (ix x4 a1 zf).Guests a2 zi).Prog (ix (ix (zh a0).Mons a1 zf).Guests a2 zi).Pc) (cond (few (ln (ap (ix x4 a1 zf).Outs [(zbN (ix (ix x4 a1 zf).Guests a2 zi).Prog (ix (ix (zh a0).Mons a1 zf).Guests a2 zi).Pc).X]))) (cond (inb a1 (ln x4)) (cond (cond (ieq a1 a1) true false) (share (up x4 a1 ({ (ix x4 a1 zf) with Outs:=(ap (ix x4 a1 zf).Outs [(zbN (ix (ix x4 a1 zf).Guests a2 zi).Prog (ix (ix (zh a0).Mons a1 zf).Guests a2 zi).Pc).X]) }:Mon)) (fun x5=>(cond (inb a1 (ln x5)) (cond (inb a2 (ln (ix x5 a1 zf).Guests)) (share (up x5 a1 ({ (ix x5 a1 zf) with Guests:=(up (ix x5 a1 zf).Guests a2 (zbR ({ (ix (ix (zh a0).Mons a1 zf).Guests a2 zi) with Prog:=(ix (ix x4 a1 zf).Guests a2 zi).Prog,Written:=(ix (ix x4 a1 zf).Guests a2 zi).Written,Live:=(ix (ix x4 a1 zf).Guests a2 zi).Live,Seen:=(ix (ix x4 a1 zf).Guests a2 zi).Seen }:Guest) (ix (ix (zh a0).Mons a1 zf).Guests a2 zi).Ctl.Traps 5)) }:Mon)) (fun x6=>(some [(.agg (zx ({ (zh a0) with Mons:=x6 }:Host))),(.one (.b true))]))) none) none))) none) none) none) none) none) (cond (inb a1 (ln x4)) (cond (inb a2 (ln (ix x4 a1 zf).Guests)) (share (up x4 a1 ({ (ix x4 a1 zf) with Guests:=(up (ix x4 a1 zf).Guests a2 (zbR ({ (ix (ix (zh a0).Mons a1 zf).Guests a2 zi) with Prog:=(ix (ix x4 a1 zf).Guests a2 zi).Prog,Written:=(ix (ix x4 a1 zf).Guests a2 zi).Written,Live:=(ix (ix x4 a1 zf).Guests a2 zi).Live,Seen:=(ix (ix x4 a1 zf).Guests a2 zi).Seen }:Guest) (ix (ix (zh a0).Mons a1 zf).Guests a2 zi).Ctl.Traps 5)) }:Mon)) (fun x5=>(some [(.agg (zx ({ (zh a0) with Mons:=x5 }:Host))),(.one (.b true))]))) none) none)) none) (cond (inb a1 (ln x4)) (cond (inb a2 (ln (ix x4 a1 zf).Guests)) (share (up x4 a1 ({ (ix x4 a1 zf) with Guests:=(up (ix x4 a1 zf).Guests a2 (zbR ({ (ix (ix (zh a0).Mons a1 zf).Guests a2 zi) with Prog:=(ix (ix x4 a1 zf).Guests a2 zi).Prog,Written:=(ix (ix x4 a1 zf).Guests a2 zi).Written,Live:=(ix (ix x4 a1 zf).Guests a2 zi).Live,Seen:=(ix (ix x4 a1 zf).Guests a2 zi).Seen }:Guest) (ix (ix (zh a0).Mons a1 zf).Guests a2 zi).Ctl.Traps 5)) }:Mon)) (fun x5=>(some [(.agg (zx ({ (zh a0) with Mons:=x5 }:Host))),(.one (.b true))]))) none) none)) none)=some (zdN (zfz (zih { a0 with Mons:=x4 } a1 (gOf a0 a1 a2) 5) a1 a2 (zfv (gOf a0 a1 a2) (gOf a0 a1 a2).Ctl.Traps 5),true)):=by
 rw [e];refine must (zbr hx) (br (fun h1=>must (zF g2) (br (fun h3=>?_) (fun h3=>?_))) (fun h1=>?_))
 ·rw [zPY (h:={ a0 with Mons:=x4 }) (m:=a1) (x:=gOf a0 a1 a2) (w:=5) h1 rfl h3];refine must (zF g2) (must rfl (must (zPe h3) (must (zF g2) (must (zG4 _) (shr (must (zF (zed (h:={ a0 with Mons:=x4 }) g2)) (must ?_ rfl)))))));rw [zlS (h:={ a0 with Mons:=x4 }) g2];exact zF g3
 ·rw [zMy (h:={ a0 with Mons:=x4 }) (m:=a1) (x:=gOf a0 a1 a2) (w:=5) h3];exact must (zF g2) (must (zF g3) rfl)
 ·rw [zGT (h:={ a0 with Mons:=x4 }) (m:=a1) (x:=gOf a0 a1 a2) (w:=5) h1];exact must (zF g2) (must (zF g3) rfl)
theorem zDs (a0:Host)(a1 a2:Int)(hb:zG big [.agg (zx a0),.one (.i .i64 a1),.one (.i .i64 a2)])(hc:(zvm a0 a1 a2)=true):∃N,zmy N a0 a1 a2=some [.agg (zx (zvE a0 a1 a2)),.one (.b (zu5 a0 a1 a2))]:=by
 obtain ⟨hc,hw⟩:=zku hc;have hs:=(zbg a0).1 (zI.1 hc);refine ⟨0,?_⟩
 show _=some (zdN (zbE a0 a1 a2))
 unfold zmy;refine must (zbr ((zbg _).2 hs)) (must (zbr ((zbg _).2 hs)) (brN (fun hh=>?_) (fun hh=>?_)))
 ·rw [zgo hh];rfl
 obtain ⟨g1,g2,g3⟩:=zcK hh;have hx:=zii hs g2 g3;have hk:zN (gOf a0 a1 a2)=5:=of_decide_eq_true hw;rw [zhk hh,hk];refine must (zF g2) (must (zF g3) (must (zhy rfl hw) ?_))
 show _=some (zdN (zi5 a0 a1 a2 (gOf a0 a1 a2) 5,true))
 refine must (zF g2) (must rfl (br (fun h0=>must (zF g2) (br (fun h9=>must (zF g2) (must (zF g2) (shr ?_))) (fun h9=>?_))) (fun h0=>?_)))
 ·rw [zk4 (zVr (h:=a0) (m:=a1) (x:=gOf a0 a1 a2) (w:=5) rfl h0 h9)];have eM:=zlS g2 { ix a0.Mons a1 mZ with Own:=zq .i64 (ix a0.Mons a1 mZ).Own 1 };refine z2V hx (zed g2) ?_ ?_
  ·show hasB a2 (ln (ix (up a0.Mons a1 _) a1 mZ).Guests)=true
   rw [eM];exact g3
  ·show ix (ix (up a0.Mons a1 _) a1 mZ).Guests a2 gZ=_
   rw [eM];rfl
 ·rw [zk4 (zV6 (h:=a0) (m:=a1) (x:=gOf a0 a1 a2) (w:=5) h9)];exact z0p hx g2 g3
 ·rw [zk4 (zVh (h:=a0) (m:=a1) (x:=gOf a0 a1 a2) (w:=5) h0)];exact z0p hx g2 g3
theorem zAR:Holds Tryz.prog 18 zro:=zo zXt zD zdS zeW (zC (by kernel_rfl)) fun avs rs hb h=>by
 unfold zro at h;split at h
 ·obtain ⟨hc,rfl⟩:=zl h;exact (zd7 zDs zEI hc hb :)
 ·cases h
theorem zDo (a0:Host)(a1 a2:Int)(hb:zG big [.agg (zx a0),.one (.i .i64 a1),.one (.i .i64 a2)])(hc:(zvk a0 a1 a2)=true):∃N,zl9 N a0 a1 a2=some [.agg (zx (zvv a0 a1 a2)),.one (.b (zvF a0 a1 a2))]:=by
 obtain ⟨hc,hw⟩:=zku hc;have hs:=(zbg a0).1 (zI.1 hc);refine ⟨0,?_⟩
 show _=some (zdN (zbE a0 a1 a2))
 unfold zl9;refine must (zbr ((zbg _).2 hs)) (must (zbr ((zbg _).2 hs)) (brN (fun hh=>?_) (fun hh=>?_)))
 ·rw [zgo hh];rfl
 obtain ⟨g1,g2,g3⟩:=zcK hh;have hx:=zii hs g2 g3;have hk:zN (gOf a0 a1 a2)=6:=of_decide_eq_true hw;rw [zhk hh,hk];refine must (zF g2) (must (zF g3) (must (zhy rfl hw) ?_))
 show _=some (zdN (zi5 a0 a1 a2 (gOf a0 a1 a2) 6,true))
 rw [zk4 (z1y (h:=a0) (m:=a1) (x:=gOf a0 a1 a2)),zBm (w:=6) rfl];exact must (zbr hx) (br (fun h1=>must (zF g2) (must (zF g3) rfl)) (fun h1=>must (zF g2) (must (zF g3) rfl)))
theorem zAV:Holds Tryz.prog 18 zrk:=zo zWg zD zdS zeW (zC (by kernel_rfl)) fun avs rs hb h=>by
 unfold zrk at h;split at h
 ·obtain ⟨hc,rfl⟩:=zl h;exact (zd7 zDo zE3 hc hb :)
 ·cases h
theorem z0v {a0:Host}{a1 a2:Int}(hx:SmG (gOf a0 a1 a2))(g2:hasB a1 (ln a0.Mons)=true)(g3:hasB a2 (ln (ix a0.Mons a1 mZ).Guests)=true) :
 (cond (zdH (ix (ix (zh a0).Mons a1 zf).Guests a2 zi) (ix (ix (zh a0).Mons a1 zf).Guests a2 zi).Ctl.Traps 7) (cond (zc8 (ix (ix (zh a0).Mons a1 zf).Guests a2 zi) (ix (ix (zh a0).Mons a1 zf).Guests a2 zi).Ctl.Traps 7) (cond (inb a1 (ln (zh a0).Mons)) (cond (inb a2 (ln (ix (zh a0).Mons a1 zf).Guests)) (share (up (zh a0).Mons a1 ({ (ix (zh a0).Mons a1 zf) with Guests:=(up (ix (zh a0).Mons a1 zf).Guests a2 (zbR (ix (ix (zh a0).Mons a1 zf).Guests a2 zi) (ix (ix (zh a0).Mons a1 zf).Guests a2 zi).Ctl.Traps 7)) }:Mon)) (fun x4=>(some [(.agg (zx ({ (zh a0) with Mons:=x4 }:Host))),(.one (.b true))]))) none) none) (cond (inb a1 (ln (zh a0).Mons)) (cond (inb a2 (ln (ix (zh a0).Mons a1 zf).Guests)) (share (up (zh a0).Mons a1 ({ (ix (zh a0).Mons a1 zf) with Guests:=(up (ix (zh a0).Mons a1 zf).Guests a2 (zbR (ix (ix (zh a0).Mons a1 zf).Guests a2 zi) (ix (ix (zh a0).Mons a1 zf).Guests a2 zi).Ctl.Traps 7)) }:Mon)) (fun x4=>(some [(.agg (zx ({ (zh a0) with Mons:=x4 }:Host))),(.one (.b true))]))) none) none)) none)=some (zdN (zfz a0 a1 a2 (zfv (gOf a0 a1 a2) (gOf a0 a1 a2).Ctl.Traps 7),true)) :=
 must (zbr hx) (br (fun h1=>must (zF g2) (must (zF g3) rfl)) (fun h1=>must (zF g2) (must (zF g3) rfl)))
theorem z2T {a0:Host}{x4:List Mon}{a1 a2:Int}(hx:SmG (gOf a0 a1 a2))(g2:hasB a1 (ln x4)=true)(g3:hasB a2 (ln (ix x4 a1 mZ).Guests)=true)(e:(ix (ix x4 a1 zf).Guests a2 zi)=gOf a0 a1 a2) :
 (cond (zdH ({ (ix (ix (zh a0).Mons a1 zf).Guests a2 zi) with Prog:=(ix (ix x4 a1 zf).Guests a2 zi).Prog,Written:=(ix (ix x4 a1 zf).Guests a2 zi).Written,Live:=(ix (ix x4 a1 zf).Guests a2 zi).Live,Seen:=(ix (ix x4 a1 zf).Guests a2 zi).Seen }:Guest) (ix (ix (zh a0).Mons a1 zf).Guests a2 zi).Ctl.Traps 7) (cond (zc8 ({ (ix (ix (zh a0).Mons a1 zf).Guests a2 zi) with Prog:=(ix (ix x4 a1 zf).Guests a2 zi).Prog,Written:=(ix (ix x4 a1 zf).Guests a2 zi).Written,Live:=(ix (ix x4 a1 zf).Guests a2 zi).Live,Seen:=(ix (ix x4 a1 zf).Guests a2 zi).Seen }:Guest) (ix (ix (zh a0).Mons a1 zf).Guests a2 zi).Ctl.Traps 7) (cond (inb a1 (ln x4)) (cond (inb a2 (ln (ix x4 a1 zf).Guests)) (share (up x4 a1 ({ (ix x4 a1 zf) with Guests:=(up (ix x4 a1 zf).Guests a2 (zbR ({ (ix (ix (zh a0).Mons a1 zf).Guests a2 zi) with Prog:=(ix (ix x4 a1 zf).Guests a2 zi).Prog,Written:=(ix (ix x4 a1 zf).Guests a2 zi).Written,Live:=(ix (ix x4 a1 zf).Guests a2 zi).Live,Seen:=(ix (ix x4 a1 zf).Guests a2 zi).Seen }:Guest) (ix (ix (zh a0).Mons a1 zf).Guests a2 zi).Ctl.Traps 7)) }:Mon)) (fun x5=>(some [(.agg (zx ({ (zh a0) with Mons:=x5 }:Host))),(.one (.b true))]))) none) none) (cond (inb a1 (ln x4)) (cond (inb a2 (ln (ix x4 a1 zf).Guests)) (share (up x4 a1 ({ (ix x4 a1 zf) with Guests:=(up (ix x4 a1 zf).Guests a2 (zbR ({ (ix (ix (zh a0).Mons a1 zf).Guests a2 zi) with Prog:=(ix (ix x4 a1 zf).Guests a2 zi).Prog,Written:=(ix (ix x4 a1 zf).Guests a2 zi).Written,Live:=(ix (ix x4 a1 zf).Guests a2 zi).Live,Seen:=(ix (ix x4 a1 zf).Guests a2 zi).Seen }:Guest) (ix (ix (zh a0).Mons a1 zf).Guests a2 zi).Ctl.Traps 7)) }:Mon)) (fun x5=>(some [(.agg (zx ({ (zh a0) with Mons:=x5 }:Host))),(.one (.b true))]))) none) none)) none)=some (zdN (zfz { a0 with Mons:=x4 } a1 a2 (zfv (gOf a0 a1 a2) (gOf a0 a1 a2).Ctl.Traps 7),true)):=by
 rw [e];exact must (zbr hx) (br (fun h1=>must (zF g2) (must (zF g3) rfl)) (fun h1=>must (zF g2) (must (zF g3) rfl)))
theorem zDF (a0:Host)(a1 a2:Int)(hb:zG big [.agg (zx a0),.one (.i .i64 a1),.one (.i .i64 a2)])(hc:(zvV a0 a1 a2)=true):∃N,zmE N a0 a1 a2=some [.agg (zx (zvu a0 a1 a2)),.one (.b (zvM a0 a1 a2))]:=by
 obtain ⟨hc,hw⟩:=zku hc;have hs:=(zbg a0).1 (zI.1 hc);refine ⟨0,?_⟩
 show _=some (zdN (zbE a0 a1 a2))
 unfold zmE;refine must (zbr ((zbg _).2 hs)) (must (zbr ((zbg _).2 hs)) (brN (fun hh=>?_) (fun hh=>?_)))
 ·rw [zgo hh];rfl
 obtain ⟨g1,g2,g3⟩:=zcK hh;have hx:=zii hs g2 g3;have hk:zN (gOf a0 a1 a2)=7:=of_decide_eq_true hw;rw [zhk hh,hk];refine must (zF g2) (must (zF g3) (must (zhy rfl hw) ?_))
 show _=some (zdN (zi5 a0 a1 a2 (gOf a0 a1 a2) 7,true))
 refine must (zF g2) (must rfl (br (fun h0=>must (zF g2) (br (fun h9=>must (zF g2) (must (zF g2) (shr ?_))) (fun h9=>?_))) (fun h0=>?_)))
 ·rw [zk4 (zVr (h:=a0) (m:=a1) (x:=gOf a0 a1 a2) (w:=7) rfl h0 h9),zBm (w:=7) rfl];have eM:=zlS g2 { ix a0.Mons a1 mZ with Own:=zq .i64 (ix a0.Mons a1 mZ).Own 1 };refine z2T hx (zed g2) ?_ ?_
  ·show hasB a2 (ln (ix (up a0.Mons a1 _) a1 mZ).Guests)=true
   rw [eM];exact g3
  ·show ix (ix (up a0.Mons a1 _) a1 mZ).Guests a2 gZ=_
   rw [eM];rfl
 ·rw [zk4 (zV6 (h:=a0) (m:=a1) (x:=gOf a0 a1 a2) (w:=7) h9),zBm (w:=7) rfl];exact z0v hx g2 g3
 ·rw [zk4 (zVh (h:=a0) (m:=a1) (x:=gOf a0 a1 a2) (w:=7) h0),zBm (w:=7) rfl];exact z0v hx g2 g3
theorem zAT:Holds Tryz.prog 18 zrn:=zo zXi zD zdS zeW (zC (by kernel_rfl)) fun avs rs hb h=>by
 unfold zrn at h;split at h
 ·obtain ⟨hc,rfl⟩:=zl h;exact (zd7 zDF zFp hc hb :)
 ·cases h
def zom:List AV->Option (Bool×List AV)
 | [.agg [.s (.sl .int) c,.s .mon d,.s .entry e,.s .entry f],.one (.i .i64 g),.one (.i .i64 h)]=>some ((zeq (⟨c,d,e,f⟩:Host) g h),[.agg (zx (zeQ (⟨c,d,e,f⟩:Host) g h)),.one (.b (zBg (⟨c,d,e,f⟩:Host) g h))])
 | _=>none
theorem zFz:Holds Tryz.prog 18 zom:=by
 refine ⟨znu.1,fun w avs xs rs hrep h=>?_⟩;unfold zom at h;split at h
 ·rename_i a0_0 a0_1 a0_2 a0_3 a1 a2;obtain ⟨hc,rfl⟩:=zl h;rcases zZc (gOf (⟨a0_0,a0_1,a0_2,a0_3⟩:Host) a1 a2) with e|e|e|e|e|e|e|e
  ·exact znu.2 w _ xs _ hrep (congrArg (fun c=>some (c,zdN (zbE (⟨a0_0,a0_1,a0_2,a0_3⟩:Host) a1 a2))) (zhy hc e))
  ·exact zAZ.2 w _ xs _ hrep (congrArg (fun c=>some (c,zdN (zbE (⟨a0_0,a0_1,a0_2,a0_3⟩:Host) a1 a2))) (zhy hc e))
  ·exact zA0.2 w _ xs _ hrep (congrArg (fun c=>some (c,zdN (zbE (⟨a0_0,a0_1,a0_2,a0_3⟩:Host) a1 a2))) (zhy hc e))
  ·exact zA1.2 w _ xs _ hrep (congrArg (fun c=>some (c,zdN (zbE (⟨a0_0,a0_1,a0_2,a0_3⟩:Host) a1 a2))) (zhy hc e))
  ·exact zAY.2 w _ xs _ hrep (congrArg (fun c=>some (c,zdN (zbE (⟨a0_0,a0_1,a0_2,a0_3⟩:Host) a1 a2))) (zhy hc e))
  ·exact zAR.2 w _ xs _ hrep (congrArg (fun c=>some (c,zdN (zbE (⟨a0_0,a0_1,a0_2,a0_3⟩:Host) a1 a2))) (zhy hc e))
  ·exact zAV.2 w _ xs _ hrep (congrArg (fun c=>some (c,zdN (zbE (⟨a0_0,a0_1,a0_2,a0_3⟩:Host) a1 a2))) (zhy hc e))
  ·exact zAT.2 w _ xs _ hrep (congrArg (fun c=>some (c,zdN (zbE (⟨a0_0,a0_1,a0_2,a0_3⟩:Host) a1 a2))) (zhy hc e))
 ·cases h
@[simp,reducible] def zyz (h:Host)(m g page need:Int)(io:Bool):Bool:=pc (zdQ h)
@[simp,reducible] def zyN (h:Host)(m g page need:Int)(io:Bool):Host:=(lookOf h (zrS h io) m g page need io).1
@[simp,reducible] def zyX (h:Host)(m g page need:Int)(io:Bool):Int:=(lookOf h (zrS h io) m g page need io).2.1
@[simp,reducible] def zzw (h:Host)(m g page need:Int)(io:Bool):Bool:=(lookOf h (zrS h io) m g page need io).2.2
def zul:List AV->Option (Bool×List AV)
 | [.agg [.s (.sl .int) c,.s .mon d,.s .entry e,.s .entry f],.one (.i .i64 g),.one (.i .i64 h),.one (.i .i64 j),.one (.i .i64 k),.one (.b l)]=>some ((zyz (⟨c,d,e,f⟩:Host) g h j k l),[.agg (zx (zyN (⟨c,d,e,f⟩:Host) g h j k l)),.one (.i .i64 (zyX (⟨c,d,e,f⟩:Host) g h j k l)),.one (.b (zzw (⟨c,d,e,f⟩:Host) g h j k l))])
 | _=>none
@[reducible] def zd0 (u9_10:List (List Int))(u9_11:List Mon)(u9_12:List Entry)(u9_13:List Entry)(u9_0:Int)(u9_4:Int)(u9_3:Int):Mon :=
 (ix (zib (⟨u9_10,u9_11,u9_12,u9_13⟩:Host) u9_0 u9_4 u9_3).Mons u9_0 zf)
def zpM (N:Nat)(u10_0:Int)(u10_1:Int)(u10_2:Int)(u10_3:Int)(u10_8:List (List Int))(u10_9:List Mon)(u10_10:List Entry)(u10_11:List Entry):Option Ans :=
 (cond (zng u10_11 (⟨u10_1,u10_0,u10_2,u10_3⟩:Entry)) (some [(.agg (zx (⟨u10_8,u10_9,u10_10,(zmK u10_11 (⟨u10_1,u10_0,u10_2,u10_3⟩:Entry))⟩:Host))),(.one (.i .i64 u10_2)),(.one (.b true))]) none)
def zjD (N:Nat)(u9_10:List (List Int))(u9_11:List Mon)(u9_12:List Entry)(u9_13:List Entry)(u9_0:Int)(u9_4:Int)(u9_3:Int)(u9_1:Int)(u9_2:Int)(r10:((Int×(Int×(Int×(Int×((List (List Int))×((List Mon)×((List Entry)×((List Entry)×((List (List Int))×((List Mon)×((List Entry)×((List Entry)×Unit)))))))))))))->Option Ans)(u9_5:Int)(u9_6:List (List Int))(u9_7:List Mon)(u9_8:List Entry)(u9_9:List Entry):Option Ans :=
 (cond (zFS (⟨u9_10,u9_11,u9_12,u9_13⟩:Host) u9_0 u9_4 u9_3) (cond (inb u9_0 (ln (zib (⟨u9_10,u9_11,u9_12,u9_13⟩:Host) u9_0 u9_4 u9_3).Mons)) (cond (inb u9_1 (ln (zd0 u9_10 u9_11 u9_12 u9_13 u9_0 u9_4 u9_3).Tables)) (cond (inb u9_1 (ln (zd0 u9_10 u9_11 u9_12 u9_13 u9_0 u9_4 u9_3).Guests)) (cond (zEU (ix (zd0 u9_10 u9_11 u9_12 u9_13 u9_0 u9_4 u9_3).Tables u9_1 zbB) (ix (zd0 u9_10 u9_11 u9_12 u9_13 u9_0 u9_4 u9_3).Guests u9_1 zi).Live (zd0 u9_10 u9_11 u9_12 u9_13 u9_0 u9_4 u9_3).Outer u9_2) (cond (inb u9_1 (ln (zd0 u9_10 u9_11 u9_12 u9_13 u9_0 u9_4 u9_3).Tables)) (share (up (zib (⟨u9_10,u9_11,u9_12,u9_13⟩:Host) u9_0 u9_4 u9_3).Mons u9_0 ({ (zd0 u9_10 u9_11 u9_12 u9_13 u9_0 u9_4 u9_3) with Tables:=(up (zd0 u9_10 u9_11 u9_12 u9_13 u9_0 u9_4 u9_3).Tables u9_1 (zIV (ix (zd0 u9_10 u9_11 u9_12 u9_13 u9_0 u9_4 u9_3).Tables u9_1 zbB) (ix (zd0 u9_10 u9_11 u9_12 u9_13 u9_0 u9_4 u9_3).Guests u9_1 zi).Live (zd0 u9_10 u9_11 u9_12 u9_13 u9_0 u9_4 u9_3).Outer u9_2)) }:Mon)) (fun x11=>(cond (inb u9_1 (ln (ix x11 u9_0 zf).Tables)) (cond (zxB (ix (ix x11 u9_0 zf).Tables u9_1 zbB) u9_2) (r10 (u9_2,(u9_5,((ziH (ix (ix x11 u9_0 zf).Tables u9_1 zbB) u9_2).Page,((ziH (ix (ix x11 u9_0 zf).Tables u9_1 zbB) u9_2).Rights,(u9_6,(u9_7,(u9_8,(u9_9,((zib (⟨u9_10,u9_11,u9_12,u9_13⟩:Host) u9_0 u9_4 u9_3).Memory,(x11,((zib (⟨u9_10,u9_11,u9_12,u9_13⟩:Host) u9_0 u9_4 u9_3).Buffer,((zib (⟨u9_10,u9_11,u9_12,u9_13⟩:Host) u9_0 u9_4 u9_3).IoBuffer,()))))))))))))) none) none))) none) none) none) none) none) none)
def zl4 (N:Nat)(u9_11:List Mon)(u9_0:Int)(u9_1:Int)(u9_2:Int)(u9_10:List (List Int))(u9_12:List Entry)(u9_13:List Entry)(u9_4:Int)(u9_3:Int)(r10:((Int×(Int×(Int×(Int×((List (List Int))×((List Mon)×((List Entry)×((List Entry)×((List (List Int))×((List Mon)×((List Entry)×((List Entry)×Unit)))))))))))))->Option Ans)(u9_5:Int)(u9_6:List (List Int))(u9_7:List Mon)(u9_8:List Entry)(u9_9:List Entry):Option Ans :=
 (cond (cond (zCP (ix (ix u9_11 u9_0 zf).Tables u9_1 zbB) u9_2) false true) (zjD N u9_10 u9_11 u9_12 u9_13 u9_0 u9_4 u9_3 u9_1 u9_2 r10 u9_5 u9_6 u9_7 u9_8 u9_9) (cond (ieq (ziH (ix (ix u9_11 u9_0 zf).Tables u9_1 zbB) u9_2).Page (-1)) (zjD N u9_10 u9_11 u9_12 u9_13 u9_0 u9_4 u9_3 u9_1 u9_2 r10 u9_5 u9_6 u9_7 u9_8 u9_9) (cond (zdi (ziH (ix (ix u9_11 u9_0 zf).Tables u9_1 zbB) u9_2).Rights u9_3) (cond (cond (zdM (ziH (ix (ix u9_11 u9_0 zf).Tables u9_1 zbB) u9_2).Rights u9_3) false true) (zjD N u9_10 u9_11 u9_12 u9_13 u9_0 u9_4 u9_3 u9_1 u9_2 r10 u9_5 u9_6 u9_7 u9_8 u9_9) (r10 (u9_2,(u9_5,((ziH (ix (ix u9_11 u9_0 zf).Tables u9_1 zbB) u9_2).Page,((ziH (ix (ix u9_11 u9_0 zf).Tables u9_1 zbB) u9_2).Rights,(u9_6,(u9_7,(u9_8,(u9_9,(u9_10,(u9_11,(u9_12,(u9_13,())))))))))))))) none)))
def zqN (N:Nat)(u9_0:Int)(u9_1:Int)(u9_2:Int)(u9_3:Int)(u9_4:Int)(u9_5:Int)(u9_6:List (List Int))(u9_7:List Mon)(u9_8:List Entry)(u9_9:List Entry)(u9_10:List (List Int))(u9_11:List Mon)(u9_12:List Entry)(u9_13:List Entry):Option Ans :=
 (cond (inb u9_0 (ln u9_11)) (cond (inb u9_1 (ln (ix u9_11 u9_0 zf).Tables)) (cond (zxB (ix (ix u9_11 u9_0 zf).Tables u9_1 zbB) u9_2) (share (fun (s10:(Int×(Int×(Int×(Int×((List (List Int))×((List Mon)×((List Entry)×((List Entry)×((List (List Int))×((List Mon)×((List Entry)×((List Entry)×Unit)))))))))))))=>(zpM N s10.1 s10.2.1 s10.2.2.1 s10.2.2.2.1 s10.2.2.2.2.2.2.2.2.1 s10.2.2.2.2.2.2.2.2.2.1 s10.2.2.2.2.2.2.2.2.2.2.1 s10.2.2.2.2.2.2.2.2.2.2.2.1)) (fun r10=>(zl4 N u9_11 u9_0 u9_1 u9_2 u9_10 u9_12 u9_13 u9_4 u9_3 r10 u9_5 u9_6 u9_7 u9_8 u9_9))) none) none) none)
def zpP (N:Nat)(u10_0:Int)(u10_1:Int)(u10_2:Int)(u10_3:Int)(u10_8:List (List Int))(u10_9:List Mon)(u10_10:List Entry)(u10_11:List Entry):Option Ans :=
 (cond (zng u10_10 (⟨u10_1,u10_0,u10_2,u10_3⟩:Entry)) (some [(.agg (zx (⟨u10_8,u10_9,(zmK u10_10 (⟨u10_1,u10_0,u10_2,u10_3⟩:Entry)),u10_11⟩:Host))),(.one (.i .i64 u10_2)),(.one (.b true))]) none)
def zqC (N:Nat)(u9_0:Int)(u9_1:Int)(u9_2:Int)(u9_3:Int)(u9_4:Int)(u9_5:Int)(u9_6:List (List Int))(u9_7:List Mon)(u9_8:List Entry)(u9_9:List Entry)(u9_10:List (List Int))(u9_11:List Mon)(u9_12:List Entry)(u9_13:List Entry):Option Ans :=
 (cond (inb u9_0 (ln u9_11)) (cond (inb u9_1 (ln (ix u9_11 u9_0 zf).Tables)) (cond (zxB (ix (ix u9_11 u9_0 zf).Tables u9_1 zbB) u9_2) (share (fun (s10:(Int×(Int×(Int×(Int×((List (List Int))×((List Mon)×((List Entry)×((List Entry)×((List (List Int))×((List Mon)×((List Entry)×((List Entry)×Unit)))))))))))))=>(zpP N s10.1 s10.2.1 s10.2.2.1 s10.2.2.2.1 s10.2.2.2.2.2.2.2.2.1 s10.2.2.2.2.2.2.2.2.2.1 s10.2.2.2.2.2.2.2.2.2.2.1 s10.2.2.2.2.2.2.2.2.2.2.2.1)) (fun r10=>(zl4 N u9_11 u9_0 u9_1 u9_2 u9_10 u9_12 u9_13 u9_4 u9_3 r10 u9_5 u9_6 u9_7 u9_8 u9_9))) none) none) none)
def zp8 (N:Nat)(u8_0:Int)(u8_1:Int)(u8_2:Int)(u8_3:Int)(u8_4:Bool)(u8_5:Int)(u8_6:List (List Int))(u8_7:List Mon)(u8_8:List Entry)(u8_9:List Entry)(u8_10:List (List Int))(u8_11:List Mon)(u8_12:List Entry)(u8_13:List Entry):Option Ans :=
 (cond u8_4 (cond (zvr u8_0 u8_1) (share (fun (s9:(Int×(Int×(Int×(Int×(Int×(Int×((List (List Int))×((List Mon)×((List Entry)×((List Entry)×((List (List Int))×((List Mon)×((List Entry)×((List Entry)×Unit)))))))))))))))=>(zqN N s9.1 s9.2.1 s9.2.2.1 s9.2.2.2.1 s9.2.2.2.2.1 s9.2.2.2.2.2.1 s9.2.2.2.2.2.2.1 s9.2.2.2.2.2.2.2.1 s9.2.2.2.2.2.2.2.2.1 s9.2.2.2.2.2.2.2.2.2.1 s9.2.2.2.2.2.2.2.2.2.2.1 s9.2.2.2.2.2.2.2.2.2.2.2.1 s9.2.2.2.2.2.2.2.2.2.2.2.2.1 s9.2.2.2.2.2.2.2.2.2.2.2.2.2.1)) (fun r9=>(cond (zkT u8_13 (zen u8_0 u8_1) u8_2) (cond (zil u8_13 (zen u8_0 u8_1) u8_2) (cond (zdi (zeu u8_13 (zen u8_0 u8_1) u8_2).Rights u8_3) (cond (zdM (zeu u8_13 (zen u8_0 u8_1) u8_2).Rights u8_3) (some [(.agg (zx (⟨u8_10,u8_11,u8_12,u8_13⟩:Host))),(.one (.i .i64 (zeu u8_13 (zen u8_0 u8_1) u8_2).Host)),(.one (.b true))]) (r9 (u8_0,(u8_1,(u8_2,(u8_3,(u8_5,((zen u8_0 u8_1),(u8_6,(u8_7,(u8_8,(u8_9,(u8_10,(u8_11,(u8_12,(u8_13,())))))))))))))))) none) (r9 (u8_0,(u8_1,(u8_2,(u8_3,(u8_5,((zen u8_0 u8_1),(u8_6,(u8_7,(u8_8,(u8_9,(u8_10,(u8_11,(u8_12,(u8_13,())))))))))))))))) none))) none) (cond (zvr u8_0 u8_1) (share (fun (s9:(Int×(Int×(Int×(Int×(Int×(Int×((List (List Int))×((List Mon)×((List Entry)×((List Entry)×((List (List Int))×((List Mon)×((List Entry)×((List Entry)×Unit)))))))))))))))=>(zqC N s9.1 s9.2.1 s9.2.2.1 s9.2.2.2.1 s9.2.2.2.2.1 s9.2.2.2.2.2.1 s9.2.2.2.2.2.2.1 s9.2.2.2.2.2.2.2.1 s9.2.2.2.2.2.2.2.2.1 s9.2.2.2.2.2.2.2.2.2.1 s9.2.2.2.2.2.2.2.2.2.2.1 s9.2.2.2.2.2.2.2.2.2.2.2.1 s9.2.2.2.2.2.2.2.2.2.2.2.2.1 s9.2.2.2.2.2.2.2.2.2.2.2.2.2.1)) (fun r9=>(cond (zkT u8_12 (zen u8_0 u8_1) u8_2) (cond (zil u8_12 (zen u8_0 u8_1) u8_2) (cond (zdi (zeu u8_12 (zen u8_0 u8_1) u8_2).Rights u8_3) (cond (zdM (zeu u8_12 (zen u8_0 u8_1) u8_2).Rights u8_3) (some [(.agg (zx (⟨u8_10,u8_11,u8_12,u8_13⟩:Host))),(.one (.i .i64 (zeu u8_12 (zen u8_0 u8_1) u8_2).Host)),(.one (.b true))]) (r9 (u8_0,(u8_1,(u8_2,(u8_3,(u8_5,((zen u8_0 u8_1),(u8_6,(u8_7,(u8_8,(u8_9,(u8_10,(u8_11,(u8_12,(u8_13,())))))))))))))))) none) (r9 (u8_0,(u8_1,(u8_2,(u8_3,(u8_5,((zen u8_0 u8_1),(u8_6,(u8_7,(u8_8,(u8_9,(u8_10,(u8_11,(u8_12,(u8_13,())))))))))))))))) none))) none))
def zq5 (N:Nat)(u7_0:Int)(u7_1:Int)(u7_2:Int)(u7_3:Int)(u7_4:Bool)(u7_8:List (List Int))(u7_9:List Mon)(u7_10:List Entry)(u7_11:List Entry)(u7_12:List (List Int))(u7_13:List Mon)(u7_14:List Entry)(u7_15:List Entry)(u7_19:List Guest):Option Ans :=
 (cond (inb u7_1 (ln u7_19)) (cond (ziv (ix u7_19 u7_1 zi).Live u7_2 u7_3) (cond (cond (zfS (ix u7_19 u7_1 zi).Live u7_2 u7_3) false true) (some [(.agg (zx (⟨u7_12,u7_13,u7_14,u7_15⟩:Host))),(.one (.i .i64 (-1))),(.one (.b false))]) (share (fun (s8:(Int×(Int×(Int×(Int×(Bool×(Int×((List (List Int))×((List Mon)×((List Entry)×((List Entry)×((List (List Int))×((List Mon)×((List Entry)×((List Entry)×Unit)))))))))))))))=>(zp8 N s8.1 s8.2.1 s8.2.2.1 s8.2.2.2.1 s8.2.2.2.2.1 s8.2.2.2.2.2.1 s8.2.2.2.2.2.2.1 s8.2.2.2.2.2.2.2.1 s8.2.2.2.2.2.2.2.2.1 s8.2.2.2.2.2.2.2.2.2.1 s8.2.2.2.2.2.2.2.2.2.2.1 s8.2.2.2.2.2.2.2.2.2.2.2.1 s8.2.2.2.2.2.2.2.2.2.2.2.2.1 s8.2.2.2.2.2.2.2.2.2.2.2.2.2.1)) (fun r8=>(cond (ieq u7_3 2) (cond (inb u7_0 (ln u7_13)) (cond (inb (zb5 (ix u7_19 u7_1 zi).Live u7_2 u7_3) (ln (ix u7_13 u7_0 zf).Dirty)) (share (up u7_13 u7_0 ({ (ix u7_13 u7_0 zf) with Dirty:=(up (ix u7_13 u7_0 zf).Dirty (zb5 (ix u7_19 u7_1 zi).Live u7_2 u7_3) true) }:Mon)) (fun x9=>r8 (u7_0,(u7_1,(u7_2,(u7_3,(u7_4,((zb5 (ix u7_19 u7_1 zi).Live u7_2 u7_3),(u7_8,(u7_9,(u7_10,(u7_11,(u7_12,(x9,(u7_14,(u7_15,())))))))))))))))) none) none) (r8 (u7_0,(u7_1,(u7_2,(u7_3,(u7_4,((zb5 (ix u7_19 u7_1 zi).Live u7_2 u7_3),(u7_8,(u7_9,(u7_10,(u7_11,(u7_12,(u7_13,(u7_14,(u7_15,()))))))))))))))))))) none) none)
def zAt (N:Nat)(a0:Host)(a1 a2:Int)(a3 a4:Int)(a5:Bool):Option Ans :=
 (cond (zhC a0) (cond (zps a0 a1) (share (fun (s7:(Int×(Int×(Int×(Int×(Bool×(Int×(Int×(Int×((List (List Int))×((List Mon)×((List Entry)×((List Entry)×((List (List Int))×((List Mon)×((List Entry)×((List Entry)×((List Slot)×((List (List Int))×((List Bool)×((List Guest)×((List Int)×((List Kept)×Unit)))))))))))))))))))))))=>(zq5 N s7.1 s7.2.1 s7.2.2.1 s7.2.2.2.1 s7.2.2.2.2.1 s7.2.2.2.2.2.2.2.2.1 s7.2.2.2.2.2.2.2.2.2.1 s7.2.2.2.2.2.2.2.2.2.2.1 s7.2.2.2.2.2.2.2.2.2.2.2.1 s7.2.2.2.2.2.2.2.2.2.2.2.2.1 s7.2.2.2.2.2.2.2.2.2.2.2.2.2.1 s7.2.2.2.2.2.2.2.2.2.2.2.2.2.2.1 s7.2.2.2.2.2.2.2.2.2.2.2.2.2.2.2.1 s7.2.2.2.2.2.2.2.2.2.2.2.2.2.2.2.2.2.2.2.1)) (fun r7=>(cond (zrz a0) (cond (cond (zuV a0) false true) (some [(.agg (zx (zS a0))),(.one (.i .i64 (-1))),(.one (.b false))]) (cond (cond (zjb a0 a1) false true) (some [(.agg (zx (zS a0))),(.one (.i .i64 (-1))),(.one (.b false))]) (cond (zcz a2 (ln (zbm a0 a1).Guests)) (cond (cond (zcT a2 (ln (zbm a0 a1).Guests)) false true) (some [(.agg (zx (zS a0))),(.one (.i .i64 (-1))),(.one (.b false))]) (cond (ine a4 1) (cond (ine a4 2) (some [(.agg (zx (zS a0))),(.one (.i .i64 (-1))),(.one (.b false))]) (r7 (a1,(a2,(a3,(a4,(a5,((zbm a0 a1).Pending,((zbm a0 a1).Traps,((zbm a0 a1).Own,([],([],([],([],((zS a0).Memory,((zS a0).Mons,((zS a0).Buffer,((zS a0).IoBuffer,((zbm a0 a1).Outer,((zbm a0 a1).Out,((zbm a0 a1).Dirty,((zbm a0 a1).Guests,((zbm a0 a1).Outs,((zbm a0 a1).Tables,())))))))))))))))))))))))) (r7 (a1,(a2,(a3,(a4,(a5,((zbm a0 a1).Pending,((zbm a0 a1).Traps,((zbm a0 a1).Own,([],([],([],([],((zS a0).Memory,((zS a0).Mons,((zS a0).Buffer,((zS a0).IoBuffer,((zbm a0 a1).Outer,((zbm a0 a1).Out,((zbm a0 a1).Dirty,((zbm a0 a1).Guests,((zbm a0 a1).Outs,((zbm a0 a1).Tables,()))))))))))))))))))))))))) none))) none))) none) none)
def zRL:FuncId->Nat->Option Tmpl:=zB [(124,999999,{ n:=0,tm:=[],lo:=[],ro:=[] }),(124,1007055,{ n:=200,tm:=[(1,.i .i64),(2,.i .i64),(3,.i .i64),(4,.i .i64),(5,.b),(12,.lp 0 0),(15,.lp 1 0),(16,.lp 2 0)],lo:=[(0,[.sl 0 [],.sl 1 [],.sl 2 [],.sl 3 []]),(1,[.sl 4 [],.sl 5 [],.sl 6 [],.sl 7 []]),(2,[.sl 8 [],.sl 9 [],.sl 10 [],.sl 11 [],.sl 12 [],.i .i64,.i .i64,.sl 13 [],.i .i64])],ro:=[(0,(.sl .int),true),(1,.mon,true),(2,.entry,true),(3,.entry,true),(4,(.sl .int),true),(5,.mon,true),(6,.entry,true),(7,.entry,true),(8,.slot,true),(9,(.sl .int),true),(10,.bool,true),(11,.guest,true),(12,.int,true),(13,.kept,true)] }),(124,1005039,{ n:=200,tm:=[(1,.i .i64),(2,.i .i64),(3,.i .i64),(4,.i .i64),(5,.b),(12,.lp 0 0),(15,.lp 1 0),(18,.i .i64)],lo:=[(0,[.sl 0 [],.sl 1 [],.sl 2 [],.sl 3 []]),(1,[.sl 4 [],.sl 5 [],.sl 6 [],.sl 7 []])],ro:=[(0,(.sl .int),true),(1,.mon,true),(2,.entry,true),(3,.entry,true),(4,(.sl .int),true),(5,.mon,true),(6,.entry,true),(7,.entry,true)] }),(124,1009019,{ n:=200,tm:=[(1,.i .i64),(2,.i .i64),(3,.i .i64),(4,.i .i64),(12,.lp 0 0),(15,.lp 1 0),(18,.i .i64),(20,.lp 1 3),(21,.i .i64)],lo:=[(0,[.sl 0 [],.sl 1 [],.sl 2 [],.sl 3 []]),(1,[.sl 4 [],.sl 5 [],.sl 6 [],.sl 7 []])],ro:=[(0,(.sl .int),true),(1,.mon,true),(2,.entry,true),(3,.entry,true),(4,(.sl .int),true),(5,.mon,true),(6,.entry,true),(7,.entry,true)] }),(124,1011005,{ n:=200,tm:=[(3,.i .i64),(12,.lp 0 0),(15,.lp 1 0),(20,.lp 1 3),(21,.i .i64),(24,.lp 2 0)],lo:=[(0,[.sl 0 [],.sl 1 [],.sl 2 [],.sl 3 []]),(1,[.sl 4 [],.sl 5 [],.sl 6 [],.sl 7 []]),(2,[.i .i64,.i .i64])],ro:=[(0,(.sl .int),true),(1,.mon,true),(2,.entry,true),(3,.entry,true),(4,(.sl .int),true),(5,.mon,true),(6,.entry,true),(7,.entry,true)] }),(124,1001009019,{ n:=200,tm:=[(1,.i .i64),(2,.i .i64),(3,.i .i64),(4,.i .i64),(12,.lp 0 0),(15,.lp 1 0),(18,.i .i64),(20,.lp 1 2),(21,.i .i64)],lo:=[(0,[.sl 0 [],.sl 1 [],.sl 2 [],.sl 3 []]),(1,[.sl 4 [],.sl 5 [],.sl 6 [],.sl 7 []])],ro:=[(0,(.sl .int),true),(1,.mon,true),(2,.entry,true),(3,.entry,true),(4,(.sl .int),true),(5,.mon,true),(6,.entry,true),(7,.entry,true)] }),(124,1001011005,{ n:=200,tm:=[(3,.i .i64),(12,.lp 0 0),(15,.lp 1 0),(20,.lp 1 2),(21,.i .i64),(24,.lp 2 0)],lo:=[(0,[.sl 0 [],.sl 1 [],.sl 2 [],.sl 3 []]),(1,[.sl 4 [],.sl 5 [],.sl 6 [],.sl 7 []]),(2,[.i .i64,.i .i64])],ro:=[(0,(.sl .int),true),(1,.mon,true),(2,.entry,true),(3,.entry,true),(4,(.sl .int),true),(5,.mon,true),(6,.entry,true),(7,.entry,true)] })]
theorem zTo (N:Nat)(a0:Host)(a1 a2:Int)(a3 a4:Int)(a5:Bool):evalFn (cQ zjV zV zgI zjC) zRL N 12 124 [.agg (zx a0),.one (.i .i64 a1),.one (.i .i64 a2),.one (.i .i64 a3),.one (.i .i64 a4),.one (.b a5)]=zAt N a0 a1 a2 a3 a4 a5:=by kernel_rfl
theorem z0F {N:Nat}{r:Host}{m g page:Int}(hi:r.IoBuffer.length<=1048576) :
 zpM N page (zi2 m g) (ze4 (zcR r m g) page).Page (ze4 (zcR r m g) page).Rights r.Memory r.Mons r.Buffer r.IoBuffer=some (zif (zeS r m g page true)):=by
 unfold zpM;exact must (zbr hi) rfl
theorem z0L {N:Nat}{r:Host}{m g page:Int}(hi:r.Buffer.length<=1048576) :
 zpP N page (zi2 m g) (ze4 (zcR r m g) page).Page (ze4 (zcR r m g) page).Rights r.Memory r.Mons r.Buffer r.IoBuffer=some (zif (zeS r m g page false)):=by
 unfold zpP;exact must (zbr hi) rfl
theorem zZr {N:Nat}{r:Host}{m g page need q:Int}{R:Option Ans}{r10}{u5 u6 u7 u8 u9}(A:LookAt r m g q need)(hr:r10 (page,(u5,((ze4 (zcR (zc0 (mended r m q need) m g page) m g) page).Page,((ze4 (zcR (zc0 (mended r m q need) m g page) m g) page).Rights,(u6,(u7,(u8,(u9,((zc0 (mended r m q need) m g page).Memory,((zc0 (mended r m q need) m g page).Mons,((zc0 (mended r m q need) m g page).Buffer,((zc0 (mended r m q need) m g page).IoBuffer,()))))))))))))=R) :
 zjD N r.Memory r.Mons r.Buffer r.IoBuffer m q need g page r10 u5 u6 u7 u8 u9=R:=by
 have M:=zkc A.kp A.hm A.hg;have F:=zkc (A.fill page) A.hm A.hg;unfold zjD;exact must (zbr A.mend) (must (zF M.hm) (must (zF M.ht) (must (zF M.hg) (must (zbr M.hk) (must (zF M.ht) (shr (must (zF F.ht) (must rfl hr))))))))
theorem z2t {N:Nat}{r:Host}{m g page need q:Int}{io:Bool}{r10}{u5 u6 u7 u8 u9}(A:LookAt r m g q need)(h1:r10 (page,(u5,((ze4 (zcR (zc0 (mended r m q need) m g page) m g) page).Page,((ze4 (zcR (zc0 (mended r m q need) m g page) m g) page).Rights,(u6,(u7,(u8,(u9,((zc0 (mended r m q need) m g page).Memory,((zc0 (mended r m q need) m g page).Mons,((zc0 (mended r m q need) m g page).Buffer,((zc0 (mended r m q need) m g page).IoBuffer,()))))))))))))=some (zif (zeS (zc0 (mended r m q need) m g page) m g page io)))(h2:r10 (page,(u5,((ze4 (zcR r m g) page).Page,((ze4 (zcR r m g) page).Rights,(u6,(u7,(u8,(u9,(r.Memory,(r.Mons,(r.Buffer,(r.IoBuffer,()))))))))))))=some (zif (zeS r m g page io))) :
 zl4 N r.Mons m g page r.Memory r.Buffer r.IoBuffer q need r10 u5 u6 u7 u8 u9=some (zif (cond (zeD r m g page need) (zeS (zc0 (mended r m q need) m g page) m g page io) (zeS r m g page io))):=by
 unfold zl4;refine brN (fun f1=>?_) (fun f1=>br (fun f2=>?_) (fun f2=>must rfl (brN (fun f3=>?_) (fun f3=>?_))))
 ·rw [zr9 (zVv f1)];exact zZr A h1
 ·rw [zr9 (zVw f2)];exact zZr A h1
 ·rw [zr9 (zVK f3)];exact zZr A h1
 ·rw [zVL (zVU f1 f2 f3)];exact h2
theorem z0y {N:Nat}{r:Host}{m g page need q:Int}{u6 u7 u8 u9}(A:LookAt r m g q need) :
 zqN N m g page need q (zi2 m g) u6 u7 u8 u9 r.Memory r.Mons r.Buffer r.IoBuffer=some (zif (cond (zeD r m g page need) (zeS (zc0 (mended r m q need) m g page) m g page true) (zeS r m g page true))):=by
 have M:=zkc ⟨A.fit.1,rfl⟩ A.hm A.hg;have F:=zkc (A.fill page) A.hm A.hg;unfold zqN;exact must (zF M.hm) (must (zF M.ht) (must rfl (shr (z2t A (z0F (r:=zc0 (mended r m q need) m g page) (m:=m) (g:=g) F.hi) (z0F (r:=r) (m:=m) (g:=g) M.hi)))))
theorem z00 {N:Nat}{r:Host}{m g page need q:Int}{u6 u7 u8 u9}(A:LookAt r m g q need) :
 zqC N m g page need q (zi2 m g) u6 u7 u8 u9 r.Memory r.Mons r.Buffer r.IoBuffer=some (zif (cond (zeD r m g page need) (zeS (zc0 (mended r m q need) m g page) m g page false) (zeS r m g page false))):=by
 have M:=zkc ⟨A.fit.1,rfl⟩ A.hm A.hg;have F:=zkc (A.fill page) A.hm A.hg;unfold zqC;exact must (zF M.hm) (must (zF M.ht) (must rfl (shr (z2t A (z0L (r:=zc0 (mended r m q need) m g page) (m:=m) (g:=g) F.hb) (z0L (r:=r) (m:=m) (g:=g) M.hb)))))
theorem z0N {N:Nat}{r:Host}{m g page need q:Int}{io:Bool}{u6 u7 u8 u9}(A:LookAt r m g q need) :
 zp8 N m g page need io q u6 u7 u8 u9 r.Memory r.Mons r.Buffer r.IoBuffer=some (zif (zhw r (zrS r io) m g page need q io)):=by
 unfold zp8;cases io
 ·show _=some (zif (zhw r r.Buffer m g page need q false))
  refine zex rfl (must rfl (shr (must rfl (br (fun f1=>must rfl (br (fun f2=>?_) (fun f2=>?_))) (fun f1=>?_)))))
  ·rw [zCT (zlM f1 f2)];rfl
  ·rw [zlF (zlM f1 f2)];exact z00 A
  ·rw [zlF (zCD f1)];exact z00 A
 ·show _=some (zif (zhw r r.IoBuffer m g page need q true))
  refine must rfl (must rfl (shr (must rfl (br (fun f1=>must rfl (br (fun f2=>?_) (fun f2=>?_))) (fun f1=>?_)))))
  ·rw [zCT (zlM f1 f2)];rfl
  ·rw [zlF (zlM f1 f2)];exact z0y A
  ·rw [zlF (zCD f1)];exact z0y A
theorem z2R (r:Host)(m q:Int)(io:Bool):zrS (zb8 r m q) io=zrS r io:=by
 cases io<;>rfl
theorem z0E {N:Nat}{r:Host}{m g page need:Int}{io:Bool}{z1 z2 z3 z4}(hs:SmH r)(hg:zcF r m g=true)(hn:zgv need=true) :
 zq5 N m g page need io z1 z2 z3 z4 r.Memory r.Mons r.Buffer r.IoBuffer (ix r.Mons m mZ).Guests=some (zif (lookOf r (zrS r io) m g page need io)):=by
 obtain ⟨g1,g2,g3⟩:=zcK hg;unfold zq5;refine must (zF g3) (must rfl (brN (fun hw=>?_) (fun hw=>?_)))
 ·have:zdG r m g page need=false:=by
   unfold zdG;rw [hg,hn,show zfW (zdq r m g) page need=false from hw]
   rfl
  rw [zix this];rfl
 ·have hl:zdG r m g page need=true:=by
   unfold zdG;rw [hg,hn,show zfW (zdq r m g) page need=true from hw]
   rfl
  obtain ⟨A,B⟩:=zBl hs hl;rw [zRk hl];have hd:hasB (zcQ (zdq r m g) page need) (ln (ix r.Mons m mZ).Dirty)=true:=zdc (zck A.fit.1 g2).2.2.2.1 A.hq;refine shr (br (fun h2=>?_) (fun h2=>?_))
  ·rw [h2]
   show _=some (zif (zhw (zb8 r m (zcQ (zdq r m g) page need)) (zrS r io) m g page need (zcQ (zdq r m g) page need) io))
   rw [<- z2R r m (zcQ (zdq r m g) page need) io];exact must (zF g2) (must (zF hd) (shr (z0N (r:=zb8 r m (zcQ (zdq r m g) page need)) B)))
  ·rw [h2];exact z0N A
theorem zSf (a0:Host)(a1 a2:Int)(a3 a4:Int)(a5:Bool)(hb:zG big [.agg (zx a0),.one (.i .i64 a1),.one (.i .i64 a2),.one (.i .i64 a3),.one (.i .i64 a4),.one (.b a5)])(hc:(zyz a0 a1 a2 a3 a4 a5)=true):∃N,zAt N a0 a1 a2 a3 a4 a5=some [.agg (zx (zyN a0 a1 a2 a3 a4 a5)),.one (.i .i64 (zyX a0 a1 a2 a3 a4 a5)),.one (.b (zzw a0 a1 a2 a3 a4 a5))]:=by
 have hs:=(zbg a0).1 (zI.1 hc);refine ⟨0,?_⟩
 show _=some (zif (lookOf a0 (zrS a0 a5) a1 a2 a3 a4 a5))
 unfold zAt;refine must (zbr ((zbg _).2 hs)) (must (zbr ((zbg _).2 hs)) (shr (must rfl (brN (fun h1=>?_) (fun h1=>?_)))))
 ·rw [zix (zlE (zCB h1))];rfl
 refine brN (fun h2=>?_) (fun h2=>?_)
 ·rw [zix (zlE (zJ1 h2))];rfl
 have eM:zbm a0 a1=ix a0.Mons a1 mZ:=by
  unfold zbm;rw [show hasB a1 (ln a0.Mons)=true from h2]
  rfl
 rw [eM];refine must rfl (brN (fun h3=>?_) (fun h3=>?_))
 ·rw [zix (zlE (zLa h3))];rfl
 have hg:=zJM h1 h2 h3;have hno:∀{n:Int},zgv n=false->zdG a0 a1 a2 a3 n=false:=fun {n} h=>by
  unfold zdG;rw [hg,h];rfl
 rw [zj2,zj2];cases h4:ieq a4 1
 ·cases h5:ieq a4 2
  ·have:zgv a4=false:=by unfold zgv;rw [h4,h5];rfl
   rw [zix (hno this)];rfl
  ·exact z0E (r:=a0) hs hg (by unfold zgv;rw [h4,h5];rfl)
 ·exact z0E (r:=a0) hs hg (by unfold zgv;rw [h4];rfl)
theorem zLD:Holds Tryz.prog 124 zul:=zo zgs zD zdS zeW (zC (by kernel_rfl)) fun avs rs hb h=>by
 unfold zul at h;split at h
 ·obtain ⟨hc,rfl⟩:=zl h;exact (z3j zSf zTo hc hb :)
 ·cases h
def zXU:zbP:=[(124,zul),(18,zom)]++zjV
theorem zR5:zbv zXU:=zn zLD (zn zFz zgs)
@[simp,reducible] def zyH (h:Host)(m g page need:Int):Bool:=pc (zdQ h)
@[simp,reducible] def zrE (h:Host)(m g page need:Int):Host:=(lookOf h h.Buffer m g page need false).1
@[simp,reducible] def zrA (h:Host)(m g page need:Int):Int:=(lookOf h h.Buffer m g page need false).2.1
@[simp,reducible] def zy1 (h:Host)(m g page need:Int):Bool:=(lookOf h h.Buffer m g page need false).2.2
def ztW:List AV->Option (Bool×List AV)
 | [.agg [.s (.sl .int) c,.s .mon d,.s .entry e,.s .entry f],.one (.i .i64 g),.one (.i .i64 h),.one (.i .i64 j),.one (.i .i64 k)]=>some ((zyH (⟨c,d,e,f⟩:Host) g h j k),[.agg (zx (zrE (⟨c,d,e,f⟩:Host) g h j k)),.one (.i .i64 (zrA (⟨c,d,e,f⟩:Host) g h j k)),.one (.b (zy1 (⟨c,d,e,f⟩:Host) g h j k))])
 | _=>none
def zyA (N:Nat)(a0:Host)(a1 a2:Int)(a3 a4:Int):Option Ans :=
 (cond (zyz a0 a1 a2 a3 a4 false) (some [(.agg (zx (zyN a0 a1 a2 a3 a4 false))),(.one (.i .i64 (zyX a0 a1 a2 a3 a4 false))),(.one (.b (zzw a0 a1 a2 a3 a4 false)))]) none)
theorem zU4 (N:Nat)(a0:Host)(a1 a2:Int)(a3 a4:Int):evalFn (cQ zXU zV zgI zjC) (zB []) N 12 55 [.agg (zx a0),.one (.i .i64 a1),.one (.i .i64 a2),.one (.i .i64 a3),.one (.i .i64 a4)]=zyA N a0 a1 a2 a3 a4:=by kernel_rfl
theorem zQ8 (a0:Host)(a1 a2:Int)(a3 a4:Int)(hb:zG big [.agg (zx a0),.one (.i .i64 a1),.one (.i .i64 a2),.one (.i .i64 a3),.one (.i .i64 a4)])(hc:(zyH a0 a1 a2 a3 a4)=true):∃N,zyA N a0 a1 a2 a3 a4=some [.agg (zx (zrE a0 a1 a2 a3 a4)),.one (.i .i64 (zrA a0 a1 a2 a3 a4)),.one (.b (zy1 a0 a1 a2 a3 a4))]:=by
 refine ⟨0,?_⟩;unfold zyA;exact must hc rfl
theorem zJ0:Holds Tryz.prog 55 ztW:=zo zR5 zD zdS zeW (zC (by kernel_rfl)) fun avs rs hb h=>by
 unfold ztW at h;split at h
 ·obtain ⟨hc,rfl⟩:=zl h;exact (z3k zQ8 zU4 hc hb :)
 ·cases h
def z0D:zbP:=[(55,ztW)]++zXU
theorem z0j:zbv z0D:=zn zJ0 zR5
def brought (n a b:Int):Int:=bif ilt n a then a else (cond (ilt b a) a (zBt n b))
@[simp,reducible] def zxx (_ _ _:Int):Bool:=true
@[simp,reducible] def zpA (n a b:Int):Int:=brought n a b
def zqV:List AV->Option (Bool×List AV)
 | [.one (.i .i64 b),.one (.i .i64 c),.one (.i .i64 d)]=>some ((zxx b c d),[.one (.i .i64 (zpA b c d))])
 | _=>none
def zw8 (N:Nat)(a0 a1 a2:Int):Option Ans :=
 (cond (ilt a0 a1) (some [(.one (.i .i64 a1))]) (cond (ilt a2 a1) (some [(.one (.i .i64 a1))]) (some [(.one (.i .i64 (zBt a0 a2)))])))
theorem zR9 (N:Nat)(a0 a1 a2:Int):evalFn (cQ zzi zV zK zO) (zB []) N 12 34 [.one (.i .i64 a0),.one (.i .i64 a1),.one (.i .i64 a2)]=zw8 N a0 a1 a2:=by kernel_rfl
theorem zMK (a0 a1 a2:Int)(hb:zG big [.one (.i .i64 a0),.one (.i .i64 a1),.one (.i .i64 a2)])(hc:(zxx a0 a1 a2)=true):∃N,zw8 N a0 a1 a2=some [.one (.i .i64 (zpA a0 a1 a2))]:=by
 refine ⟨0,?_⟩;unfold zw8;refine br (fun _=>?_) (fun _=>br (fun _=>?_) (fun _=>?_))
 all_goals first|rfl|(simp only [*,zpA,brought,cT,cF]<;>rfl)|simp_all [Ty.cells,zpA,brought]
theorem zIA:Holds Tryz.prog 34 zqV:=zo znI zD zu zA (zC (by kernel_rfl)) fun avs rs hb h=>by
 unfold zqV at h;split at h
 ·obtain ⟨hc,rfl⟩:=zl h;exact (zd7 zMK zR9 hc hb :)
 ·cases h
@[simp,reducible] def zxz (_ _ _:Int):Bool:=true
@[simp,reducible] def zpp (n a b:Int):Int:=brought n a b
def zpQ:List AV->Option (Bool×List AV)
 | [.one (.i .i64 b),.one (.i .i64 c),.one (.i .i64 d)]=>some ((zxz b c d),[.one (.i .i64 (zpp b c d))])
 | _=>none
def zwK (N:Nat)(a0 a1 a2:Int):Option Ans :=
 (cond (ilt a2 a1) (some [(.one (.i .i64 a1))]) (cond (ilt a0 a1) (some [(.one (.i .i64 a1))]) (cond (igt a0 a2) (some [(.one (.i .i64 a2))]) (some [(.one (.i .i64 a0))]))))
theorem zPG (N:Nat)(a0 a1 a2:Int):evalFn (cQ zzi zV zK zO) (zB []) N 12 33 [.one (.i .i64 a0),.one (.i .i64 a1),.one (.i .i64 a2)]=zwK N a0 a1 a2:=by kernel_rfl
theorem zOe (a0 a1 a2:Int)(hb:zG big [.one (.i .i64 a0),.one (.i .i64 a1),.one (.i .i64 a2)])(hc:(zxz a0 a1 a2)=true):∃N,zwK N a0 a1 a2=some [.one (.i .i64 (zpp a0 a1 a2))]:=by
 refine ⟨0,?_⟩;unfold zwK;unfold zpp brought zBt;cases h1:ilt a2 a1<;>cases h2:ilt a0 a1<;>cases h3:igt a0 a2<;>simp [igt] at * <;> omega
theorem zG9:Holds Tryz.prog 33 zpQ:=zo znI zD zu zA (zC (by kernel_rfl)) fun avs rs hb h=>by
 unfold zpQ at h;split at h
 ·obtain ⟨hc,rfl⟩:=zl h;exact (zd7 zOe zPG hc hb :)
 ·cases h
theorem zMc (n:Int):0<=brought n 0 40/\brought n 0 40<=40:=by
 unfold brought;cases h1:ilt n 0
 ·have h1:=of_decide_eq_false h1;simp only [cF,show ilt 40 0=false from rfl,zBt]
  split<;>omega
 ·simp
structure RI (a:List Bare) (i:Nat) (l:List Bare):Prop where
 len:l.length=a.length
 sm:zWT l
 eq:∀k,i<=k->l[k]?=a[k]?
theorem RI.up {a l:List Bare}{i:Nat}(h:RI a i l)(x:Bare)(hx:SmB x):RI a (i+1) (up l (i:Int) x) :=
 ⟨by rw [ztw];exact h.len,z1N h.sm hx,fun k hk=>by rw [z2e (by omega)];exact h.eq k (by omega)⟩
structure RJ (l:List Bare) (i:Nat) (l':List Bare):Prop where
 len:l'.length=l.length
 sm:SmB (ix l' (i:Int) (Ty.dflt .bare))
 up:∀x,E.up l' (i:Int) x=E.up l (i:Int) x
theorem RJ.next {l l':List Bare}{i:Nat}(h:RJ l i l')(hi:i<l.length)(x:Bare)(hx:SmB x):RJ l i (E.up l' (i:Int) x) :=
 ⟨by rw [ztw];exact h.len,by rw [ze5 (by rw [h.len];exact hi)];exact hx,fun y=>by rw [zCH];exact h.up y⟩
def zRy:zbP:=[(66,zn8)]++z0D
theorem zMG:zbv zRy:=zn zFh z0j
@[simp,reducible] def zus (h:Host)(m g:Int):Bool:=pc (zdQ h)
@[simp,reducible] def zep (h:Host)(m g:Int):Host:=(zbE h m g).1
@[simp,reducible] def zuU (h:Host)(m g:Int):Bool:=(zbE h m g).2
def zn1:List AV->Option (Bool×List AV)
 | [.agg [.s (.sl .int) c,.s .mon d,.s .entry e,.s .entry f],.one (.i .i64 g),.one (.i .i64 h)]=>some ((zus (⟨c,d,e,f⟩:Host) g h),[.agg (zx (zep (⟨c,d,e,f⟩:Host) g h)),.one (.b (zuU (⟨c,d,e,f⟩:Host) g h))])
 | _=>none
@[reducible] def zca (a0:Host)(a1 a2:Int):Int :=
 (zbs (ix (zbm a0 a1).Guests a2 zi))
@[reducible] def zbw (a0:Host)(a1 a2:Int):Int :=
 (zbp (ix (zbm a0 a1).Guests a2 zi))
@[reducible] def zbT (a0:Host)(a1 a2:Int):Host :=
 (zrE a0 a1 a2 (zbH (zca a0 a1 a2)) (zcr (ieq (zbw a0 a1 a2) 4)))
@[reducible] def zbJ (a0:Host)(a1 a2:Int):Guest :=
 (ix (ix (zS a0).Mons a1 zf).Guests a2 zi)
@[reducible] def zb1 (x4:List Mon)(a1 a2:Int):Guest :=
 (ix (ix x4 a1 zf).Guests a2 zi)
@[reducible] def zgq (a0:Host)(a1 a2:Int):Int :=
 (zrA a0 a1 a2 (zbH (zca a0 a1 a2)) (zcr (ieq (zbw a0 a1 a2) 4)))
def zjJ (N:Nat)(a0:Host)(a1 a2:Int):Option Ans :=
 (cond (zfK (zca a0 a1 a2)) (cond (zl7 (ieq (zbw a0 a1 a2) 4)) (cond (zyH a0 a1 a2 (zbH (zca a0 a1 a2)) (zcr (ieq (zbw a0 a1 a2) 4))) (cond (cond (zy1 a0 a1 a2 (zbH (zca a0 a1 a2)) (zcr (ieq (zbw a0 a1 a2) 4))) false true) (cond (zfK (zca a0 a1 a2)) (cond (zir (zbH (zca a0 a1 a2)) (ieq (zbw a0 a1 a2) 4)) (cond (zfu (ix (zbm a0 a1).Guests a2 zi) (zd5 (zbH (zca a0 a1 a2)) (ieq (zbw a0 a1 a2) 4))) (cond (inb a1 (ln (zbT a0 a1 a2).Mons)) (cond (inb a2 (ln (ix (zbT a0 a1 a2).Mons a1 zf).Guests)) (share (up (zbT a0 a1 a2).Mons a1 ({ (ix (zbT a0 a1 a2).Mons a1 zf) with Guests:=(up (ix (zbT a0 a1 a2).Mons a1 zf).Guests a2 (zdZ (ix (zbm a0 a1).Guests a2 zi) (zd5 (zbH (zca a0 a1 a2)) (ieq (zbw a0 a1 a2) 4)))) }:Mon)) (fun x4=>(some [(.agg (zx ({ (zbT a0 a1 a2) with Mons:=x4 }:Host))),(.one (.b true))]))) none) none) none) none) none) (cond (ieq (zbw a0 a1 a2) 4) (cond (zfJ (zca a0 a1 a2)) (cond (zjq (zbT a0 a1 a2).Memory (zgq a0 a1 a2) (zcn (zca a0 a1 a2)) (ix (zbm a0 a1).Guests a2 zi).A) (cond (znc (ix (zbm a0 a1).Guests a2 zi)) (cond (inb a1 (ln (zbT a0 a1 a2).Mons)) (cond (inb a2 (ln (ix (zbT a0 a1 a2).Mons a1 zf).Guests)) (share (up (zbT a0 a1 a2).Mons a1 ({ (ix (zbT a0 a1 a2).Mons a1 zf) with Guests:=(up (ix (zbT a0 a1 a2).Mons a1 zf).Guests a2 (zh6 (ix (zbm a0 a1).Guests a2 zi))) }:Mon)) (fun x4=>(some [(.agg (zx ({ (zbT a0 a1 a2) with Memory:=(zf3 (zbT a0 a1 a2).Memory (zgq a0 a1 a2) (zcn (zca a0 a1 a2)) (ix (zbm a0 a1).Guests a2 zi).A),Mons:=x4 }:Host))),(.one (.b true))]))) none) none) none) none) none) (cond (zfJ (zca a0 a1 a2)) (cond (zmF (zbT a0 a1 a2).Memory (zgq a0 a1 a2) (zcn (zca a0 a1 a2))) (cond (zlP (ix (zbm a0 a1).Guests a2 zi) (zfQ (zbT a0 a1 a2).Memory (zgq a0 a1 a2) (zcn (zca a0 a1 a2)))) (cond (inb a1 (ln (zbT a0 a1 a2).Mons)) (cond (inb a2 (ln (ix (zbT a0 a1 a2).Mons a1 zf).Guests)) (share (up (zbT a0 a1 a2).Mons a1 ({ (ix (zbT a0 a1 a2).Mons a1 zf) with Guests:=(up (ix (zbT a0 a1 a2).Mons a1 zf).Guests a2 (zhY (ix (zbm a0 a1).Guests a2 zi) (zfQ (zbT a0 a1 a2).Memory (zgq a0 a1 a2) (zcn (zca a0 a1 a2))))) }:Mon)) (fun x4=>(some [(.agg (zx ({ (zbT a0 a1 a2) with Mons:=x4 }:Host))),(.one (.b true))]))) none) none) none) none) none))) none) none) none)
def zj7 (N:Nat)(a0:Host)(a1 a2:Int)(x4:List Mon):Option Ans :=
 (cond (zej ({ (zbJ a0 a1 a2) with Prog:=(zb1 x4 a1 a2).Prog,Written:=(zb1 x4 a1 a2).Written,Live:=(zb1 x4 a1 a2).Live,Seen:=(zb1 x4 a1 a2).Seen }:Guest)) (cond (inb a2 (ln (ix x4 a1 zf).Guests)) (share (up x4 a1 ({ (ix x4 a1 zf) with Guests:=(up (ix x4 a1 zf).Guests a2 (zdb ({ (zbJ a0 a1 a2) with Prog:=(zb1 x4 a1 a2).Prog,Written:=(zb1 x4 a1 a2).Written,Live:=(zb1 x4 a1 a2).Live,Seen:=(zb1 x4 a1 a2).Seen }:Guest))) }:Mon)) (fun x5=>(some [(.agg (zx ({ (zS a0) with Mons:=x5 }:Host))),(.one (.b true))]))) none) none)
def zjN (N:Nat)(a0:Host)(a1 a2:Int):Option Ans :=
 (cond (ieq (zbw a0 a1 a2) 7) (cond (zlk (zbJ a0 a1 a2)) (cond (inb a2 (ln (ix (zS a0).Mons a1 zf).Guests)) (share (up (zS a0).Mons a1 ({ (ix (zS a0).Mons a1 zf) with Guests:=(up (ix (zS a0).Mons a1 zf).Guests a2 (zjw (zbJ a0 a1 a2))) }:Mon)) (fun x4=>(some [(.agg (zx ({ (zS a0) with Mons:=x4 }:Host))),(.one (.b true))]))) none) none) (cond (ilt (ln (ix (zS a0).Mons a1 zf).Outs) 40) (cond (zfF (zbJ a0 a1 a2).Prog (zbJ a0 a1 a2).Pc) (cond (few (ln (ap (ix (zS a0).Mons a1 zf).Outs [(zb3 (zbJ a0 a1 a2).Prog (zbJ a0 a1 a2).Pc).X]))) (cond (cond (ieq a1 a1) true false) (share (up (zS a0).Mons a1 ({ (ix (zS a0).Mons a1 zf) with Outs:=(ap (ix (zS a0).Mons a1 zf).Outs [(zb3 (zbJ a0 a1 a2).Prog (zbJ a0 a1 a2).Pc).X]) }:Mon)) (fun x4=>(zj7 N a0 a1 a2 x4))) none) none) none) (cond (zej (zbJ a0 a1 a2)) (cond (inb a2 (ln (ix (zS a0).Mons a1 zf).Guests)) (share (up (zS a0).Mons a1 ({ (ix (zS a0).Mons a1 zf) with Guests:=(up (ix (zS a0).Mons a1 zf).Guests a2 (zdb (zbJ a0 a1 a2))) }:Mon)) (fun x4=>(some [(.agg (zx ({ (zS a0) with Mons:=x4 }:Host))),(.one (.b true))]))) none) none)))
def zj4 (N:Nat)(a1:Int)(a0:Host)(a2:Int):Option Ans :=
 (cond (inb a1 (ln (zS a0).Mons)) (cond (inb a2 (ln (ix (zS a0).Mons a1 zf).Guests)) (cond (zmQ (zbw a0 a1 a2)) (cond (zxb (ix (zS a0).Mons a1 zf).Traps (zbJ a0 a1 a2).Ctl.Traps (zfO (zbw a0 a1 a2))) (cond (ieq (zjF (ix (zS a0).Mons a1 zf).Traps (zbJ a0 a1 a2).Ctl.Traps (zfO (zbw a0 a1 a2))) 1) (cond (zkL (zbJ a0 a1 a2) (zbw a0 a1 a2)) (cond (inb a2 (ln (ix (zS a0).Mons a1 zf).Guests)) (share (up (zS a0).Mons a1 ({ (ix (zS a0).Mons a1 zf) with Guests:=(up (ix (zS a0).Mons a1 zf).Guests a2 (zhe (zbJ a0 a1 a2) (zbw a0 a1 a2))) }:Mon)) (fun x4=>(some [(.agg (zx ({ (zS a0) with Mons:=x4 }:Host))),(.one (.b true))]))) none) none) (cond (ieq (zjF (ix (zS a0).Mons a1 zf).Traps (zbJ a0 a1 a2).Ctl.Traps (zfO (zbw a0 a1 a2))) 2) (cond (ilt (ix (zS a0).Mons a1 zf).Own 1000000000) (share (up (zS a0).Mons a1 ({ (ix (zS a0).Mons a1 zf) with Own:=(zq .i64 (ix (zS a0).Mons a1 zf).Own 1) }:Mon)) (fun x4=>(cond (ieq (zbw a0 a1 a2) 7) (cond (zlk ({ (zbJ a0 a1 a2) with Prog:=(zb1 x4 a1 a2).Prog,Written:=(zb1 x4 a1 a2).Written,Live:=(zb1 x4 a1 a2).Live,Seen:=(zb1 x4 a1 a2).Seen }:Guest)) (cond (inb a2 (ln (ix x4 a1 zf).Guests)) (share (up x4 a1 ({ (ix x4 a1 zf) with Guests:=(up (ix x4 a1 zf).Guests a2 (zjw ({ (zbJ a0 a1 a2) with Prog:=(zb1 x4 a1 a2).Prog,Written:=(zb1 x4 a1 a2).Written,Live:=(zb1 x4 a1 a2).Live,Seen:=(zb1 x4 a1 a2).Seen }:Guest))) }:Mon)) (fun x5=>(some [(.agg (zx ({ (zS a0) with Mons:=x5 }:Host))),(.one (.b true))]))) none) none) (cond (ilt (ln (ix x4 a1 zf).Outs) 40) (cond (zfF (zb1 x4 a1 a2).Prog (zbJ a0 a1 a2).Pc) (cond (few (ln (ap (ix x4 a1 zf).Outs [(zb3 (zb1 x4 a1 a2).Prog (zbJ a0 a1 a2).Pc).X]))) (cond (cond (ieq a1 a1) true false) (share (up x4 a1 ({ (ix x4 a1 zf) with Outs:=(ap (ix x4 a1 zf).Outs [(zb3 (zb1 x4 a1 a2).Prog (zbJ a0 a1 a2).Pc).X]) }:Mon)) (fun x5=>(cond (zej ({ (zbJ a0 a1 a2) with Prog:=(ix (ix x5 a1 zf).Guests a2 zi).Prog,Written:=(ix (ix x5 a1 zf).Guests a2 zi).Written,Live:=(ix (ix x5 a1 zf).Guests a2 zi).Live,Seen:=(ix (ix x5 a1 zf).Guests a2 zi).Seen }:Guest)) (cond (inb a2 (ln (ix x5 a1 zf).Guests)) (share (up x5 a1 ({ (ix x5 a1 zf) with Guests:=(up (ix x5 a1 zf).Guests a2 (zdb ({ (zbJ a0 a1 a2) with Prog:=(ix (ix x5 a1 zf).Guests a2 zi).Prog,Written:=(ix (ix x5 a1 zf).Guests a2 zi).Written,Live:=(ix (ix x5 a1 zf).Guests a2 zi).Live,Seen:=(ix (ix x5 a1 zf).Guests a2 zi).Seen }:Guest))) }:Mon)) (fun x6=>(some [(.agg (zx ({ (zS a0) with Mons:=x6 }:Host))),(.one (.b true))]))) none) none))) none) none) none) (zj7 N a0 a1 a2 x4))))) (zjN N a0 a1 a2)) (zjN N a0 a1 a2))) none) none) none) none)
def zhG (N:Nat)(a0:Host)(a1 a2:Int):Option Ans :=
 (cond (zAe a0 a1) (cond (zuZ (zn6 a0 a1) a2) (cond (inb a1 (ln (zS a0).Mons)) (share (up (zS a0).Mons a1 ({ (ix (zS a0).Mons a1 zf) with Guests:=(zhP (zn6 a0 a1) a2).Guests }:Mon)) (fun x4=>(some [(.agg (zx ({ (zS a0) with Mons:=x4 }:Host))),(.one (.b true))]))) none) none) none)
def zfc (N:Nat)(a0:Host)(a1 a2:Int):Option Ans :=
 (cond (ieq (zbw a0 a1 a2) 5) (cond (ieq (zbw a0 a1 a2) 5) (zj4 N a1 a0 a2) (zhG N a0 a1 a2)) (cond (ieq (zbw a0 a1 a2) 7) (zj4 N a1 a0 a2) (zhG N a0 a1 a2)))
def zuR (N:Nat)(a0:Host)(a1 a2:Int):Option Ans :=
 (cond (zhC a0) (cond (zps a0 a1) (cond (zrz a0) (cond (cond (zuV a0) false true) (some [(.agg (zx (zS a0))),(.one (.b false))]) (cond (cond (zjb a0 a1) false true) (some [(.agg (zx (zS a0))),(.one (.b false))]) (cond (zcz a2 (ln (zbm a0 a1).Guests)) (cond (cond (zcT a2 (ln (zbm a0 a1).Guests)) false true) (some [(.agg (zx (zS a0))),(.one (.b false))]) (cond (inb a2 (ln (zbm a0 a1).Guests)) (cond (zic (ix (zbm a0 a1).Guests a2 zi)) (cond (ieq (zbw a0 a1 a2) 0) (some [(.agg (zx (zS a0))),(.one (.b false))]) (cond (inb a2 (ln (zbm a0 a1).Guests)) (cond (zic (ix (zbm a0 a1).Guests a2 zi)) (cond (zo5 (ix (zbm a0 a1).Guests a2 zi)) (cond (ieq (zbw a0 a1 a2) 3) (cond (ieq (zbw a0 a1 a2) 3) (zjJ N a0 a1 a2) (zfc N a0 a1 a2)) (cond (ieq (zbw a0 a1 a2) 4) (zjJ N a0 a1 a2) (zfc N a0 a1 a2))) none) none) none)) none) none)) none))) none) none) none)
theorem zML (N:Nat)(a0:Host)(a1 a2:Int):evalFn (cQ zRy zV zgI zjC) (zB []) N 12 23 [.agg (zx a0),.one (.i .i64 a1),.one (.i .i64 a2)]=zuR N a0 a1 a2:=by kernel_rfl
theorem zRZ {h:Host}{m:Int}(hm:hasB m (ln h.Mons)=true):zbm h m=ix h.Mons m mZ:=by
 unfold zbm;rw [hm];rfl
theorem z2a {N:Nat}{a0:Host}{a1 a2:Int}(hs:SmH a0)(hh:zcF a0 a1 a2=true) :
 zjJ N a0 a1 a2=some (zdN (zhl (zhA a0 a1 a2 (gOf a0 a1 a2) (ieq (zN (gOf a0 a1 a2)) 4)) a1 a2 (gOf a0 a1 a2) (ieq (zN (gOf a0 a1 a2)) 4),true)):=by
 obtain ⟨g1,g2,g3⟩:=zcK hh;have hx:=zii hs g2 g3;have k:=zCN (b:=a0.Buffer) (page:=zdA (address (gOf a0 a1 a2))) (need:=zeN (ieq (zN (gOf a0 a1 a2)) 4)) (io:=false) hs hh;have F:=zkc k g2 g3;have eM:=zRZ g2;have e3:zbw a0 a1 a2=zN (gOf a0 a1 a2):=by
  show zbp (ix (zbm a0 a1).Guests a2 gZ)=_
  rw [eM];rfl
 have e4:zca a0 a1 a2=address (gOf a0 a1 a2):=by
  show zbs (ix (zbm a0 a1).Guests a2 gZ)=_
  rw [eM];rfl
 have e1:zbT a0 a1 a2=(zhA a0 a1 a2 (gOf a0 a1 a2) (ieq (zN (gOf a0 a1 a2)) 4)).1:=by
  show zrE a0 a1 a2 (zbH (zca a0 a1 a2)) (zcr (ieq (zbw a0 a1 a2) 4))=_
  rw [e3,e4];rfl
 have e6:zgq a0 a1 a2=(zhA a0 a1 a2 (gOf a0 a1 a2) (ieq (zN (gOf a0 a1 a2)) 4)).2.1:=by
  show zrA a0 a1 a2 (zbH (zca a0 a1 a2)) (zcr (ieq (zbw a0 a1 a2) 4))=_
  rw [e3,e4];rfl
 unfold zjJ;rw [e1,e3,e4,e6,eM];unfold zhl;refine must rfl (must rfl (must (zbr ((zbg _).2 hs)) (brN (fun h=>?_) (fun h=>?_))))
 ·rw [show (zhA a0 a1 a2 (gOf a0 a1 a2) (ieq (zN (gOf a0 a1 a2)) 4)).2.2=false from h]
  exact must rfl (must rfl (must (zbr hx) (must (zF F.hm) (must (zF F.hg) rfl))))
 ·rw [show (zhA a0 a1 a2 (gOf a0 a1 a2) (ieq (zN (gOf a0 a1 a2)) 4)).2.2=true from h]
  refine br (fun h4=>?_) (fun h4=>?_)
  ·have kk:=k.shape.1.1;rw [h4] at F kk ⊢;exact must rfl (must (zbr kk) (must (zbr hx) (must (zF F.hm) (must (zF F.hg) rfl))))
  ·rw [h4] at F ⊢;exact must rfl (must rfl (must (zbr hx) (must (zF F.hm) (must (zF F.hg) rfl))))
theorem z3p {N:Nat}{a0:Host}{x4:List Mon}{a1 a2:Int}(hx:SmG (gOf a0 a1 a2))(g3:hasB a2 (ln (ix x4 a1 mZ).Guests)=true)(e:zb1 x4 a1 a2=zbJ a0 a1 a2) :
 zj7 N a0 a1 a2 x4=some (zdN (zfz { a0 with Mons:=x4 } a1 a2 (zb7 (gOf a0 a1 a2)),true)):=by
 unfold zj7;rw [e];exact must (zbr hx) (must (zF g3) rfl)
def leftG (x:Guest)(w:Int):Guest:=bif ieq w 7 then held x else zb7 x
def zAv (h:Host)(m:Int)(x:Guest)(w:Int):Host:=bif ieq w 7 then h else zjE h m (zdE x.Prog x.Pc).X
theorem zx5 {h:Host}{m:Int}{x:Guest}{w:Int}(hh:ieq w 7=true):leftG x w=held x/\zAv h m x w=h:=by
 unfold leftG zAv;rw [hh];exact ⟨rfl,rfl⟩
theorem zkK {h:Host}{m:Int}{x:Guest}{w:Int}(hh:ieq w 7=false):leftG x w=zb7 x/\zAv h m x w=zjE h m (zdE x.Prog x.Pc).X:=by
 unfold leftG zAv;rw [hh];exact ⟨rfl,rfl⟩
theorem zVq {h:Host}{m n:Int}(hh:ilt (ln (ix h.Mons m mZ).Outs) 40=true):zjE h m n={ h with Mons:=up h.Mons m { ix h.Mons m mZ with Outs:=ap (ix h.Mons m mZ).Outs [n] } }:=by
 unfold zjE;rw [hh];rfl
theorem zVs {h:Host}{m n:Int}(hh:ilt (ln (ix h.Mons m mZ).Outs) 40=false):zjE h m n=h:=by
 unfold zjE;rw [hh];rfl
theorem z3l {N:Nat}{a0:Host}{a1 a2:Int}(hs:SmH a0)(g2:hasB a1 (ln a0.Mons)=true)(g3:hasB a2 (ln (ix a0.Mons a1 mZ).Guests)=true)(eW:zbw a0 a1 a2=zN (gOf a0 a1 a2)) :
 zjN N a0 a1 a2=some (zdN (zfz (zAv a0 a1 (gOf a0 a1 a2) (zN (gOf a0 a1 a2))) a1 a2 (leftG (gOf a0 a1 a2) (zN (gOf a0 a1 a2))),true)):=by
 have hx:=zii hs g2 g3;unfold zjN;rw [eW];refine br (fun h7=>?_) (fun h7=>br (fun h3=>?_) (fun h3=>?_))
 ·rw [(zx5 (x:=gOf a0 a1 a2) (h:=a0) (m:=a1) h7).1,(zx5 (x:=gOf a0 a1 a2) h7).2];exact must (zbr hx) (must (zF g3) rfl)
 ·rw [(zkK (x:=gOf a0 a1 a2) (h:=a0) (m:=a1) h7).1,(zkK (x:=gOf a0 a1 a2) h7).2,zVq h3];refine must rfl (must (zPe h3) (must (zG4 _) (shr (z3p hx ?_ ?_))))
  ·rw [zlS g2];exact g3
  ·show ix (ix (up a0.Mons a1 _) a1 mZ).Guests a2 gZ=_
   rw [zlS g2]
 ·rw [(zkK (x:=gOf a0 a1 a2) (h:=a0) (m:=a1) h7).1,(zkK (x:=gOf a0 a1 a2) h7).2,zVs h3];exact must (zbr hx) (must (zF g3) rfl)
theorem z2w {h:Host}{m g:Int}{x:Guest}{w:Int}(h6:ieq w 6=false)(h57:ieq w 5=false->ieq w 6=false->ieq w 7=true)(hT:zds x.Ctl.Traps (zeO w)=false):zi5 h m g x w=zfz (zAv (zfp h m x w) m x w) m g (leftG x w):=by
 unfold zi5;cases h7:ieq w 7
 ·have h5:ieq w 5=true:=by
   cases h5:ieq w 5
   ·have:=h57 h5 h6;rw [h7] at this;cases this
   ·rfl
  obtain ⟨e1,e2⟩:=tr3 x x.Ctl.Traps w h6 h7 hT h5;rw [(zkK (x:=x) (h:=zfp h m x w) (m:=m) h7).1,(zkK (x:=x) h7).2,e1];unfold zih;rw [e2,h5];rfl
 ·have h5:ieq w 5=false:=by
   have:w=7:=of_decide_eq_true h7;rw [this];rfl
  rw [(zx5 (x:=x) (h:=zfp h m x w) (m:=m) h7).1,(zx5 (x:=x) h7).2,tr4 x x.Ctl.Traps w h6 h57 hT h5,zBm h5]
theorem z3n {a0:Host}{x5:List Mon}{a1 a2:Int}(hx:SmG (gOf a0 a1 a2))(g3:hasB a2 (ln (ix x5 a1 mZ).Guests)=true)(e:(ix (ix x5 a1 zf).Guests a2 zi)=gOf a0 a1 a2) :
 (cond (zej ({ (ix (ix (zS a0).Mons a1 zf).Guests a2 zi) with Prog:=(ix (ix x5 a1 zf).Guests a2 zi).Prog,Written:=(ix (ix x5 a1 zf).Guests a2 zi).Written,Live:=(ix (ix x5 a1 zf).Guests a2 zi).Live,Seen:=(ix (ix x5 a1 zf).Guests a2 zi).Seen }:Guest)) (cond (inb a2 (ln (ix x5 a1 zf).Guests)) (share (up x5 a1 ({ (ix x5 a1 zf) with Guests:=(up (ix x5 a1 zf).Guests a2 (zdb ({ (ix (ix (zS a0).Mons a1 zf).Guests a2 zi) with Prog:=(ix (ix x5 a1 zf).Guests a2 zi).Prog,Written:=(ix (ix x5 a1 zf).Guests a2 zi).Written,Live:=(ix (ix x5 a1 zf).Guests a2 zi).Live,Seen:=(ix (ix x5 a1 zf).Guests a2 zi).Seen }:Guest))) }:Mon)) (fun x6=>(some [(.agg (zx ({ (zS a0) with Mons:=x6 }:Host))),(.one (.b true))]))) none) none)=some (zdN (zfz { a0 with Mons:=x5 } a1 a2 (zb7 (gOf a0 a1 a2)),true)):=by
 rw [e];exact must (zbr hx) (must (zF g3) rfl)
theorem z3v {a0:Host}{x4:List Mon}{a1 a2:Int}(hx:SmG (gOf a0 a1 a2))(g2:hasB a1 (ln x4)=true)(g3:hasB a2 (ln (ix x4 a1 mZ).Guests)=true)(e:(ix (ix x4 a1 zf).Guests a2 zi)=gOf a0 a1 a2) :
 (cond (ieq (zN (gOf a0 a1 a2)) 7) (cond (zlk ({ (ix (ix (zS a0).Mons a1 zf).Guests a2 zi) with Prog:=(ix (ix x4 a1 zf).Guests a2 zi).Prog,Written:=(ix (ix x4 a1 zf).Guests a2 zi).Written,Live:=(ix (ix x4 a1 zf).Guests a2 zi).Live,Seen:=(ix (ix x4 a1 zf).Guests a2 zi).Seen }:Guest)) (cond (inb a2 (ln (ix x4 a1 zf).Guests)) (share (up x4 a1 ({ (ix x4 a1 zf) with Guests:=(up (ix x4 a1 zf).Guests a2 (zjw ({ (ix (ix (zS a0).Mons a1 zf).Guests a2 zi) with Prog:=(ix (ix x4 a1 zf).Guests a2 zi).Prog,Written:=(ix (ix x4 a1 zf).Guests a2 zi).Written,Live:=(ix (ix x4 a1 zf).Guests a2 zi).Live,Seen:=(ix (ix x4 a1 zf).Guests a2 zi).Seen }:Guest))) }:Mon)) (fun x5=>(some [(.agg (zx ({ (zS a0) with Mons:=x5 }:Host))),(.one (.b true))]))) none) none) (cond (ilt (ln (ix x4 a1 zf).Outs) 40) (cond (zfF (ix (ix x4 a1 zf).Guests a2 zi).Prog (ix (ix (zS a0).Mons a1 zf).Guests a2 zi).Pc) (cond (few (ln (ap (ix x4 a1 zf).Outs [(zb3 (ix (ix x4 a1 zf).Guests a2 zi).Prog (ix (ix (zS a0).Mons a1 zf).Guests a2 zi).Pc).X]))) (cond (cond (ieq a1 a1) true false) (share (up x4 a1 ({ (ix x4 a1 zf) with Outs:=(ap (ix x4 a1 zf).Outs [(zb3 (ix (ix x4 a1 zf).Guests a2 zi).Prog (ix (ix (zS a0).Mons a1 zf).Guests a2 zi).Pc).X]) }:Mon)) (fun x5=>(cond (zej ({ (ix (ix (zS a0).Mons a1 zf).Guests a2 zi) with Prog:=(ix (ix x5 a1 zf).Guests a2 zi).Prog,Written:=(ix (ix x5 a1 zf).Guests a2 zi).Written,Live:=(ix (ix x5 a1 zf).Guests a2 zi).Live,Seen:=(ix (ix x5 a1 zf).Guests a2 zi).Seen }:Guest)) (cond (inb a2 (ln (ix x5 a1 zf).Guests)) (share (up x5 a1 ({ (ix x5 a1 zf) with Guests:=(up (ix x5 a1 zf).Guests a2 (zdb ({ (ix (ix (zS a0).Mons a1 zf).Guests a2 zi) with Prog:=(ix (ix x5 a1 zf).Guests a2 zi).Prog,Written:=(ix (ix x5 a1 zf).Guests a2 zi).Written,Live:=(ix (ix x5 a1 zf).Guests a2 zi).Live,Seen:=(ix (ix x5 a1 zf).Guests a2 zi).Seen }:Guest))) }:Mon)) (fun x6=>(some [(.agg (zx ({ (zS a0) with Mons:=x6 }:Host))),(.one (.b true))]))) none) none))) none) none) none) (cond (zej ({ (ix (ix (zS a0).Mons a1 zf).Guests a2 zi) with Prog:=(ix (ix x4 a1 zf).Guests a2 zi).Prog,Written:=(ix (ix x4 a1 zf).Guests a2 zi).Written,Live:=(ix (ix x4 a1 zf).Guests a2 zi).Live,Seen:=(ix (ix x4 a1 zf).Guests a2 zi).Seen }:Guest)) (cond (inb a2 (ln (ix x4 a1 zf).Guests)) (share (up x4 a1 ({ (ix x4 a1 zf) with Guests:=(up (ix x4 a1 zf).Guests a2 (zdb ({ (ix (ix (zS a0).Mons a1 zf).Guests a2 zi) with Prog:=(ix (ix x4 a1 zf).Guests a2 zi).Prog,Written:=(ix (ix x4 a1 zf).Guests a2 zi).Written,Live:=(ix (ix x4 a1 zf).Guests a2 zi).Live,Seen:=(ix (ix x4 a1 zf).Guests a2 zi).Seen }:Guest))) }:Mon)) (fun x5=>(some [(.agg (zx ({ (zS a0) with Mons:=x5 }:Host))),(.one (.b true))]))) none) none)))=some (zdN (zfz (zAv { a0 with Mons:=x4 } a1 (gOf a0 a1 a2) (zN (gOf a0 a1 a2))) a1 a2 (leftG (gOf a0 a1 a2) (zN (gOf a0 a1 a2))),true)):=by
 rw [e];refine br (fun h7=>?_) (fun h7=>br (fun h3=>?_) (fun h3=>?_))
 ·rw [(zx5 (x:=gOf a0 a1 a2) (h:={ a0 with Mons:=x4 }) (m:=a1) h7).1,(zx5 (x:=gOf a0 a1 a2) h7).2];exact must (zbr hx) (must (zF g3) rfl)
 ·rw [(zkK (x:=gOf a0 a1 a2) (h:={ a0 with Mons:=x4 }) (m:=a1) h7).1,(zkK (x:=gOf a0 a1 a2) h7).2,zVq (h:={ a0 with Mons:=x4 }) h3];refine must rfl (must (zPe h3) (must (zG4 _) (shr (z3n hx ?_ ?_))))
  ·rw [zlS (h:={ a0 with Mons:=x4 }) g2];exact g3
  ·show ix (ix (up x4 a1 _) a1 mZ).Guests a2 gZ=_
   rw [zlS (h:={ a0 with Mons:=x4 }) g2];exact e
 ·rw [(zkK (x:=gOf a0 a1 a2) (h:={ a0 with Mons:=x4 }) (m:=a1) h7).1,(zkK (x:=gOf a0 a1 a2) h7).2,zVs (h:={ a0 with Mons:=x4 }) h3];exact must (zbr hx) (must (zF g3) rfl)
theorem tf (b:Bool):b=false\/b=true:=by cases b<;>simp
theorem z3r {N:Nat}{a0:Host}{a1 a2:Int}(hs:SmH a0)(g2:hasB a1 (ln a0.Mons)=true)(g3:hasB a2 (ln (ix a0.Mons a1 mZ).Guests)=true)(eW:zbw a0 a1 a2=zN (gOf a0 a1 a2))(h6:ieq (zN (gOf a0 a1 a2)) 6=false)(h57:ieq (zN (gOf a0 a1 a2)) 5=false->ieq (zN (gOf a0 a1 a2)) 6=false->ieq (zN (gOf a0 a1 a2)) 7=true) :
 zj4 N a1 a0 a2=some (zdN (zi5 a0 a1 a2 (gOf a0 a1 a2) (zN (gOf a0 a1 a2)),true)):=by
 have hx:=zii hs g2 g3;have T3:=z3l (N:=N) hs g2 g3 eW;have hn6:ine (zN (gOf a0 a1 a2)) 6=true:=by rw [zj2,h6];rfl
 unfold zj4;rw [eW];refine must (zF g2) (must (zF g3) (must rfl (must rfl ?_)));rw [show ieq (zjF (ix a0.Mons a1 zf).Traps (zbJ a0 a1 a2).Ctl.Traps (zfO (zN (gOf a0 a1 a2)))) 1=zds (gOf a0 a1 a2).Ctl.Traps (zeO (zN (gOf a0 a1 a2))) from z2D _ _ _]
 refine br (fun hT=>?_) (fun hT=>?_)
 ·obtain ⟨e1,e2⟩:=tr2 (gOf a0 a1 a2) (gOf a0 a1 a2).Ctl.Traps _ h6 h57 hT;have e0:zfp a0 a1 (gOf a0 a1 a2) (zN (gOf a0 a1 a2))=a0:=by
   unfold zfp;rw [hn6,z19 hT];rfl
  unfold zi5;rw [e0,zGT e2,e1];exact must (zbr hx) (must (zF g3) rfl)
 ·rw [z2w h6 h57 hT];have e0:zfp a0 a1 (gOf a0 a1 a2) (zN (gOf a0 a1 a2))=bif ieq (ziV (ix a0.Mons a1 mZ).Traps (gOf a0 a1 a2).Ctl.Traps (zeO (zN (gOf a0 a1 a2)))) 2 then owned a0 a1 else a0:=by
   unfold zfp;rw [hn6];rfl
  rw [e0];refine br (fun hO=>?_) (fun hO=>?_)
  ·rw [show ieq (ziV (ix a0.Mons a1 mZ).Traps (gOf a0 a1 a2).Ctl.Traps (zeO (zN (gOf a0 a1 a2)))) 2=true from hO]
   simp only [cT];unfold owned;refine br (fun h0=>?_) (fun h0=>?_)
   rotate_left
   ·rw [h0];exact T3
   rw [h0];refine shr ?_;have eM:=zlS g2 { ix a0.Mons a1 mZ with Own:=zq .i64 (ix a0.Mons a1 mZ).Own 1 };have g2':hasB a1 (ln (up a0.Mons a1 { ix a0.Mons a1 mZ with Own:=zq .i64 (ix a0.Mons a1 mZ).Own 1 }))=true:=zed g2;have e5:zb1 (up a0.Mons a1 { ix a0.Mons a1 mZ with Own:=zq .i64 (ix a0.Mons a1 mZ).Own 1 }) a1 a2=zbJ a0 a1 a2:=by
    show ix (ix (up a0.Mons a1 _) a1 mZ).Guests a2 gZ=_
    rw [eM]
   refine z3v hx g2' ?_ e5;rw [eM];exact g3
  ·rw [show ieq (ziV (ix a0.Mons a1 mZ).Traps (gOf a0 a1 a2).Ctl.Traps (zeO (zN (gOf a0 a1 a2)))) 2=false from hO]
   exact T3
theorem zZV {N:Nat}{a0:Host}{a1 a2:Int}(hs:SmH a0)(hh:zcF a0 a1 a2=true)(h0:ieq (zN (gOf a0 a1 a2)) 0=false){y:Guest}{o:List Int}(hy:(stepped (zer a0 a1) a2 (gOf a0 a1 a2) (zN (gOf a0 a1 a2))).Guests=up (ix a0.Mons a1 mZ).Guests a2 y)(hb:SmB (zer a0 a1)) :
 zhG N a0 a1 a2=some (zdN (zfz a0 a1 a2 y,true)):=by
 obtain ⟨g1,g2,g3⟩:=zcK hh;have hsb:=zUi g1 g2;have eg:(zer a0 a1).Guests=(ix a0.Mons a1 mZ).Guests:=by
  unfold zer;rw [g2];rfl
 have hgg:hasB a2 (ln (zer a0 a1).Guests)=true:=by rw [eg];exact g3
 have eA:gAt (zer a0 a1) a2=gOf a0 a1 a2:=by
  unfold gAt;rw [hgg,eg];rfl
 have hcan:znF (zer a0 a1) a2=true:=by
  unfold znF;rw [hgg,hsb,eA,h0];rfl
 have eS:zjG (zer a0 a1) a2=stepped (zer a0 a1) a2 (gOf a0 a1 a2) (zN (gOf a0 a1 a2)):=by
  unfold zjG;rw [hcan,eA];rfl
 have hG:(zhP (zn6 a0 a1) a2).Guests=up (ix a0.Mons a1 mZ).Guests a2 y:=by
  show (zjG (zer a0 a1) a2).Guests=_
  rw [eS,hy]
 unfold zhG;rw [hG];exact must (zbr ((zbg _).2 hs)) (must (zbr hb) (must (zF g2) rfl))
theorem zZq {h:Host}{m:Int}(hs:SmH h)(hm:hasB m (ln h.Mons)=true):SmB (zer h m):=by
 have g1:=hs.2.1.2 _ (zde hm mZ);have hP:∀(mm:List (List Int)) (q:Int),SmM mm->(zg5 mm q).length<=1048576:=fun mm q h=>zSe h;have hpg:∀p:Int,(zjg h m p).length<=1048576:=by
  intro p;unfold zjg;cases hasB m (ln h.Mons)
  ·exact (by decide:zyd.length<=1048576)
  ·cases hasB p 8
   ·exact (by decide:zyd.length<=1048576)
   ·simp only [cT];cases ine (zdR (ix h.Mons m zf).Outer p).Page (-1)
    ·exact hP _ _ g1.2.1
    ·exact hP _ _ hs.1
 have hN:∀(n i:Nat),∀x∈zjh h m n i,x.length<=1048576:=by
  intro n
  induction n with
  | zero=>intro i x hx;cases hx
  | succ n ih =>
   intro i x hx;rcases List.mem_cons.1 hx with rfl|hx
   ·exact hpg _
   ·exact ih (i+1) x hx
 unfold zer;rw [hm];exact ⟨⟨by show (zjh h m 8 0).length<=1048576;rw [zyv];decide,hN 8 0⟩,g1.2.2.2.1,g1.2.2.2.2.1⟩
theorem zw4 (b:Bare)(g:Int)(x:Guest):(znt b g x).Guests=up b.Guests g x:=rfl
theorem zJa (a0:Host)(a1 a2:Int)(hb:zG big [.agg (zx a0),.one (.i .i64 a1),.one (.i .i64 a2)])(hc:(zus a0 a1 a2)=true):∃N,zuR N a0 a1 a2=some [.agg (zx (zep a0 a1 a2)),.one (.b (zuU a0 a1 a2))]:=by
 have hs:=(zbg a0).1 (zI.1 hc);refine ⟨0,?_⟩
 show _=some (zdN (zbE a0 a1 a2))
 unfold zuR;refine must (zbr ((zbg _).2 hs)) (must (zbr ((zbg _).2 hs)) (must rfl (brN (fun h1=>?_) (fun h1=>brN (fun h2=>?_) (fun h2=>?_)))))
 ·rw [zgo (zCB h1)];rfl
 ·rw [zgo (zJ1 h2)];rfl
 have eM:=zRZ (h:=a0) (m:=a1) h2;have eW:zbw a0 a1 a2=zN (gOf a0 a1 a2):=by
  show zbp (ix (zbm a0 a1).Guests a2 gZ)=_
  rw [eM];rfl
 rw [eM,eW];refine must rfl (brN (fun h3=>?_) (fun h3=>?_))
 ·rw [zgo (zLa h3)];rfl
 have hh:=zJM h1 h2 h3;have g2:hasB a1 (ln a0.Mons)=true:=h2;have g3:hasB a2 (ln (ix a0.Mons a1 mZ).Guests)=true:=h3;have hb:=zZq hs g2;have eg:(zer a0 a1).Guests=(ix a0.Mons a1 mZ).Guests:=by
  unfold zer;rw [g2];rfl
 rw [zhk hh];unfold zHo;refine must (zF g3) (must rfl (br (fun h0=>?_) (fun h0=>must (zF g3) (must rfl (must rfl (br (fun q3=>must q3 ?_) (fun q3=>br (fun q4=>?_) (fun q4=>?_))))))))
 ·rw [h0];rfl
 ·have e:zN (gOf a0 a1 a2)=3:=of_decide_eq_true q3;have T:=z2a (N:=0) hs hh;rw [T];rw [e];rfl
 ·have e:zN (gOf a0 a1 a2)=4:=of_decide_eq_true q4;have T:=z2a (N:=0) hs hh;rw [T];rw [e];rfl
 ·have fin:∀{R:Host×Bool},zfc 0 a0 a1 a2=some (zdN R)->R=(bif ieq (zN (gOf a0 a1 a2)) 0 then (a0,false) else (bif ieq (zN (gOf a0 a1 a2)) 1 then (zfz a0 a1 a2 (interrupted (gOf a0 a1 a2)),true) else (bif ieq (zN (gOf a0 a1 a2)) 2 then (zfz a0 a1 a2 (plainly (gOf a0 a1 a2)),true) else
   (cond (cond (ieq (zN (gOf a0 a1 a2)) 3) true (ieq (zN (gOf a0 a1 a2)) 4)) (zhl (zhA a0 a1 a2 (gOf a0 a1 a2) (ieq (zN (gOf a0 a1 a2)) 4)) a1 a2 (gOf a0 a1 a2) (ieq (zN (gOf a0 a1 a2)) 4),true) (zi5 a0 a1 a2 (gOf a0 a1 a2) (zN (gOf a0 a1 a2)),true)))))->zfc 0 a0 a1 a2=_:=fun h e=>h.trans (congrArg (fun x=>some (zdN x)) e)
  have i6:ieq (zN (gOf a0 a1 a2)) 5=false->ieq (zN (gOf a0 a1 a2)) 7=false->zfc 0 a0 a1 a2=zhG 0 a0 a1 a2:=by
   intro h5 h7;unfold zfc;rw [eW];exact zex h5 (zex h7 rfl)
  rcases tf (ieq (zN (gOf a0 a1 a2)) 1) with w1|w1
  ·rcases tf (ieq (zN (gOf a0 a1 a2)) 2) with w2|w2
   ·rcases tf (ieq (zN (gOf a0 a1 a2)) 6) with w6|w6
    ·have h57:ieq (zN (gOf a0 a1 a2)) 5=false->ieq (zN (gOf a0 a1 a2)) 6=false->ieq (zN (gOf a0 a1 a2)) 7=true:=fun h5 h6=>zWG _ h0 w1 w2 q3 q4 h5 h6;have T:=z3r (N:=0) hs g2 g3 eW w6 h57;refine fin (R:=(zi5 a0 a1 a2 (gOf a0 a1 a2) (zN (gOf a0 a1 a2)),true)) ?_ (by rw [h0,w1,w2,q3,q4];rfl)
     unfold zfc;rw [eW];cases w5:ieq (zN (gOf a0 a1 a2)) 5
     ·exact zex rfl (must (h57 w5 w6) T)
     ·exact must rfl (must rfl T)
    ·have e:zN (gOf a0 a1 a2)=6:=of_decide_eq_true w6;refine fin (R:=(zfz a0 a1 a2 (zfv (gOf a0 a1 a2) (gOf a0 a1 a2).Ctl.Traps (zN (gOf a0 a1 a2))),true)) ?_ ?_
     ·rw [i6 (by rw [e];rfl) (by rw [e];rfl)]
      refine zZV (o:=[]) hs hh h0 ?_ hb;unfold stepped zsc;rw [w1,w2,q3,q4,(tr1 (gOf a0 a1 a2) (gOf a0 a1 a2).Ctl.Traps _ w6).2]
      show (znt (zer a0 a1) a2 _).Guests=_
      rw [zw4,eg]
     ·rw [h0,w1,w2,q3,q4];unfold zi5 zfp;rw [zGT (tr1 (gOf a0 a1 a2) (gOf a0 a1 a2).Ctl.Traps _ w6).2,zj2,w6];rfl
   ·have e:zN (gOf a0 a1 a2)=2:=of_decide_eq_true w2;refine fin (R:=(zfz a0 a1 a2 (plainly (gOf a0 a1 a2)),true)) ?_ (by rw [h0,w1,w2];rfl)
    rw [i6 (by rw [e];rfl) (by rw [e];rfl)]
    refine zZV (o:=[]) hs hh h0 ?_ hb;unfold stepped;rw [w1,w2]
    show (znt (zer a0 a1) a2 _).Guests=_
    rw [zw4,eg]
  ·have e:zN (gOf a0 a1 a2)=1:=of_decide_eq_true w1;refine fin (R:=(zfz a0 a1 a2 (interrupted (gOf a0 a1 a2)),true)) ?_ (by rw [h0,w1];rfl)
   rw [i6 (by rw [e];rfl) (by rw [e];rfl)]
   refine zZV (o:=[]) hs hh h0 ?_ hb;unfold stepped;rw [w1]
   show (znt (zer a0 a1) a2 _).Guests=_
   rw [zw4,eg]
theorem zGk:Holds Tryz.prog 23 zn1:=zo zMG zD zdS zeW (zC (by kernel_rfl)) fun avs rs hb h=>by
 unfold zn1 at h;split at h
 ·obtain ⟨hc,rfl⟩:=zl h;exact (zd7 zJa zML hc hb :)
 ·cases h
def z0q:zbP:=[(23,zn1)]++zRy
theorem zZR:zbv z0q:=zn zGk zMG
theorem zpw {α:Type}{m:α->Int}{c:Int}(h:∀x,m x=c):∀l:List α,mcL m l=c*l.length
 | []=>by simp [mcL]
 | x :: l=>by
  simp only [mcL,zpw h l,h x,List.length_cons];rw [Int.natCast_add,Int.mul_add];omega
theorem zXI {h:Host}{n:Int}(h0:0<=n)(h1:n<=1048576)(hp:0<=zfe h n):zrG h<=15728640:=by
 obtain ⟨hle,hw⟩:=zX6 h n h0 h1;have hw:=hw hp;omega
section
variable {α:Type} {f:α->Int->α} {nx:α->Int->Int} {m:α->Int}
structure ResK (f:α->Int->α) (nx:α->Int->Int) (m:α->Int) (l:List α) (k:Int):Prop where
 c:0<=k/\k+mcL m l<=mkB
 hc:mkL f nx (mkL f nx l k) k=mkL f nx l k/\0<=k/\k+mcL m (mkL f nx l k)<=mkB
 e:enL nx (mkL f nx l k) k=enL nx l k
 nn:0<=enL nx l k
 v:enL nx l k=k+mcL m l
theorem zWO (h:Mk f nx m)(l:List α)(k:Int)(hk:0<=k)(hl:k+mcL m l<=1000000000000):ResK f nx m l k:=by
 have hB:mkB=4611686018427387904:=rfl;have hn:=zb0 h.nn l;refine ⟨⟨hk,by omega⟩,⟨zie h l k,hk,by rw [zdU h];omega⟩,by rw [zbO h.nx,zbO h.nx,zdU h],by rw [zbO h.nx];omega,zbO h.nx l k⟩
end
def zlL (h:Host)(k:Int):Host:=⟨zfV h.Memory k,zja h.Mons (zX h.Memory k),zeA h.Buffer (zbX h.Mons (zX h.Memory k)),zeA h.IoBuffer (zbQ h.Buffer (zbX h.Mons (zX h.Memory k)))⟩
def zRh (h:Host)(k:Int):Int:=zbQ h.IoBuffer (zbQ h.Buffer (zbX h.Mons (zX h.Memory k)))
structure HeldH (h:Host) (k:Int):Prop where
 c1:zgM h.Memory k=true
 n1:ilt (zbM h.Memory k) 0=false
 c2:zml h.Mons (zbM h.Memory k)=true
 n2:ilt (zdw h.Mons (zbM h.Memory k)) 0=false
 c3:zgn h.Buffer (zdw h.Mons (zbM h.Memory k))=true
 n3:ilt (zcJ h.Buffer (zdw h.Mons (zbM h.Memory k))) 0=false
 c4:zgn h.IoBuffer (zcJ h.Buffer (zdw h.Mons (zbM h.Memory k)))=true
 n4:ilt (zcJ h.IoBuffer (zcJ h.Buffer (zdw h.Mons (zbM h.Memory k)))) 0=false
def zjB (h:Host)(k:Int):Bool:=pc (HeldH h k)
def zf0 (h:Host)(k:Int):Int:=zcJ h.IoBuffer (zcJ h.Buffer (zdw h.Mons (zbM h.Memory k)))
def znK:List AV->Option (Bool×List AV)
 | [.agg [.s (.sl .int) b,.s .mon c,.s .entry d,.s .entry e],.one (.i .i64 f)]=>some ((zjB (⟨b,c,d,e⟩:Host) f),[.one (.i .i64 (zf0 (⟨b,c,d,e⟩:Host) f))])
 | _=>none
def zsK (N:Nat)(a0:Host)(a1:Int):Option Ans :=
 (cond (zgM a0.Memory a1) (cond (ilt (zbM a0.Memory a1) 0) (some [(.one (.i .i64 (-1)))]) (cond (zml a0.Mons (zbM a0.Memory a1)) (cond (ilt (zdw a0.Mons (zbM a0.Memory a1)) 0) (some [(.one (.i .i64 (-1)))]) (cond (zgn a0.Buffer (zdw a0.Mons (zbM a0.Memory a1))) (cond (ilt (zcJ a0.Buffer (zdw a0.Mons (zbM a0.Memory a1))) 0) (some [(.one (.i .i64 (-1)))]) (cond (zgn a0.IoBuffer (zcJ a0.Buffer (zdw a0.Mons (zbM a0.Memory a1)))) (cond (ilt (zcJ a0.IoBuffer (zcJ a0.Buffer (zdw a0.Mons (zbM a0.Memory a1)))) 0) (some [(.one (.i .i64 (-1)))]) (some [(.one (.i .i64 (zcJ a0.IoBuffer (zcJ a0.Buffer (zdw a0.Mons (zbM a0.Memory a1))))))])) none)) none)) none)) none)
theorem zNv (N:Nat)(a0:Host)(a1:Int):evalFn (cQ zfX zV zK zfE) (zB []) N 12 11 [.agg (zx a0),.one (.i .i64 a1)]=zsK N a0 a1:=by kernel_rfl
theorem zJg (a0:Host)(a1:Int)(hb:zG big [.agg (zx a0),.one (.i .i64 a1)])(hc:(zjB a0 a1)=true):∃N,zsK N a0 a1=some [.one (.i .i64 (zf0 a0 a1))]:=by
 have H:=zI.1 hc;refine ⟨0,?_⟩;unfold zsK;exact must H.c1 (zex H.n1 (must H.c2 (zex H.n2 (must H.c3 (zex H.n3 (must H.c4 (zex H.n4 rfl)))))))
theorem zGb:Holds Tryz.prog 11 znK:=zo zdV zD zu zc3 (zC (by kernel_rfl)) fun avs rs hb h=>by
 unfold znK at h;split at h
 ·obtain ⟨hc,rfl⟩:=zl h;exact (fin2 zJg zNv hc hb :)
 ·cases h
def z0J:zbP:=[(11,znK)]++zfX
theorem zZF:zbv z0J:=zn zGb zdV
structure ResH (h:Host):Prop where
 c1:ze3 h.Memory 1=true
 c2:zhQ h.Mons (zX h.Memory 1)=true
 c3:zdK h.Buffer (zbX h.Mons (zX h.Memory 1))=true
 c4:zdK h.IoBuffer (zbQ h.Buffer (zbX h.Mons (zX h.Memory 1)))=true
 hc:zjB (zlL h 1) 1=true
 e:zf0 (zlL h 1) 1=zRh h 1
 nn:ilt (zRh h 1) 0=false
theorem z3m {h:Host}(hb:zrG h<=900000000000):ResH h:=by
 unfold zrG at hb;have n1:=zb0 zfZ.nn h.Memory;have n2:=zb0 zCz.nn h.Mons;have n3:=zb0 ziP.nn h.Buffer;have n4:=zb0 ziP.nn h.IoBuffer;have R1:=zWO zfZ h.Memory 1 (by omega) (by omega)
 have R2:=zWO zCz h.Mons _ R1.nn (by rw [R1.v];omega)
 have R3:=zWO ziP h.Buffer _ R2.nn (by rw [R2.v,R1.v];omega)
 have R4:=zWO ziP h.IoBuffer _ R3.nn (by rw [R3.v,R2.v,R1.v];omega)
 have e1:zbM (zlL h 1).Memory 1=zX h.Memory 1:=R1.e;have e2:zdw (zlL h 1).Mons (zX h.Memory 1)=zbX h.Mons (zX h.Memory 1):=R2.e;have e3:zcJ (zlL h 1).Buffer (zbX h.Mons (zX h.Memory 1))=zbQ h.Buffer (zbX h.Mons (zX h.Memory 1)):=R3.e;have e4:zcJ (zlL h 1).IoBuffer (zbQ h.Buffer (zbX h.Mons (zX h.Memory 1)))=zRh h 1:=R4.e;have ee:zf0 (zlL h 1) 1=zRh h 1:=by
  unfold zf0;rw [e1,e2,e3,e4]
 refine ⟨zbr R1.c,zbr R2.c,zbr R3.c,zbr R4.c,zbr ⟨zbr R1.hc,?_,?_,?_,?_,?_,?_,?_⟩,ee,zeC R4.nn⟩
 ·rw [e1];exact zeC R1.nn
 ·rw [e1];exact zbr R2.hc
 ·rw [e1,e2];exact zeC R2.nn
 ·rw [e1,e2];exact zbr R3.hc
 ·rw [e1,e2,e3];exact zeC R3.nn
 ·rw [e1,e2,e3];exact zbr R4.hc
 ·rw [e1,e2,e3,e4];exact zeC R4.nn
def zPa:zbP:=[(34,zqV),(33,zpQ)]++z0q
theorem zFq:zbv zPa:=zn zIA (zn zG9 zZR)
def cnt (l:List Mon):List Nat:=l.map fun x=>x.Guests.length
theorem z2A {l l':List Mon}(h:zdY l'=zdY l):cnt l'=cnt l:=by
 have e:∀l:List Mon,cnt l=(zdY l).map List.length:=fun l=>by simp [cnt,zdY]
 rw [e,e,h]
theorem zPW {l:List Mon}{m:Int}{x:Mon}(hm:hasB m (ln l)=true)(hx:x.Guests.length=(ix l m mZ).Guests.length):cnt (up l m x)=cnt l:=by
 obtain ⟨k,rfl,hk⟩:=zem (n:=l.length) hm;unfold cnt up;rw [List.map_set,Int.toNat_natCast,hx,zbq hk];have:=@List.set_getElem_self _ (l.map fun x=>x.Guests.length) k (by simpa using hk)
 simpa using this
theorem zC3 {l l':List Mon}(h:cnt l'=cnt l):l'.length=l.length:=by
 have:=congrArg List.length h;simpa [cnt] using this
theorem zYN {l l':List Mon}(h:cnt l'=cnt l)(m:Int):(ix l' m mZ).Guests.length=(ix l m mZ).Guests.length:=by
 have h2:(cnt l')[m.toNat]?=(cnt l)[m.toNat]?:=by rw [h]
 unfold cnt at h2;rw [List.getElem?_map,List.getElem?_map] at h2;unfold ix;simp only [List.getD_eq_getElem?_getD];cases h3:l'[m.toNat]? <;> cases h4:l[m.toNat]? <;> rw [h3,h4] at h2<;>simp at h2 ⊢;exact h2
theorem z1P (h:Host)(m p:Int):(ze9 h m p).Memory=h.Memory:=(zfy (zfq h m p) m p noSlot).2
theorem z1r (h:Host):(zdo h).Memory=h.Memory:=by
 unfold zdo;cases ieq (ln (zcP h)) 0
 ·rfl
 ·exact z1P _ _ _
theorem z05 (m:List (List Int))(p:Int)(c:List Int):(zh9 m p c).length=m.length:=by
 unfold zh9;cases hasB p (ln m)
 ·rfl
 ·cases zc4 c
  ·rfl
  ·simp
theorem z1G (m:List (List Int))(p c v:Int):(ze8 m p c v).length=m.length:=by
 unfold ze8;cases zhS m p c
 ·rfl
 ·cases win v 0 99
  ·rfl
  ·simp
theorem zXB (h:Host)(m p:Int):(fetched h m p).Memory.length=h.Memory.length:=by
 unfold fetched zjI;rw [(zfy _ _ _ _).2];unfold landing;rw [z05,z1r]
theorem zSt (h:Host)(m p n:Int):(zke h m p n).Memory=h.Memory:=by
 unfold zke;cases ieq (wand .i64 n 2) 0
 ·unfold opened;cases ieq (wand .i64 (ix (ix (zb8 h m p).Mons m mZ).Outer p sZ).Rights 2) 0
  ·rfl
  ·exact (zfy _ _ _ _).2
 ·rfl
theorem zY8 (h:Host)(m p n:Int):(mended h m p n).Memory.length=h.Memory.length:=by
 unfold mended;cases ieq (ix (ix h.Mons m mZ).Outer p sZ).Page (-1)
 ·exact congrArg List.length (zSt _ _ _ _)
 ·exact (congrArg List.length (zSt _ _ _ _)).trans (zXB _ _ _)
theorem zZb (h:Host)(m g p:Int)(io:Bool):(zPi h m g p io).Memory=h.Memory:=by cases io<;>rfl
theorem zZe (h:Host)(b:List Entry)(m g page need q:Int)(io:Bool):(zhw h b m g page need q io).1.Memory.length=h.Memory.length:=by
 unfold zhw;cases zjP b m g page need
 ·cases zeD h m g page need
  ·exact congrArg List.length (zZb _ _ _ _ _)
  ·exact (congrArg List.length (zZb _ _ _ _ _)).trans (zY8 h m q need)
 ·rfl
theorem z1j (h:Host)(b:List Entry)(m g page need:Int)(io:Bool):(lookOf h b m g page need io).1.Memory.length=h.Memory.length:=by
 unfold lookOf;cases zdG h m g page need
 ·rfl
 ·simp only [cT];rw [zZe];cases ieq need 2<;>rfl
structure Keep (h r:Host):Prop where
 shape:Shape r
 cnt:cnt r.Mons=cnt h.Mons
 mem:r.Memory.length=h.Memory.length
theorem Keep.has {h r:Host}(k:Keep h r){m:Int}(hm:hasB m (ln h.Mons)=true):hasB m (ln r.Mons)=true:=by
 rw [ln,zC3 k.cnt];exact hm
theorem Keep.hg {h r:Host}(k:Keep h r){m g:Int}(hg:hasB g (ln (ix h.Mons m mZ).Guests)=true):hasB g (ln (ix r.Mons m mZ).Guests)=true:=by
 rw [ln,zYN k.cnt];exact hg
theorem Keep.trans {a b c:Host}(h:Keep a b)(k:Keep b c):Keep a c:=⟨k.shape,k.cnt.trans h.cnt,k.mem.trans h.mem⟩
theorem Keep.rfl' {h:Host}(hs:Shape h):Keep h h:=⟨hs,rfl,rfl⟩
theorem zls {h:Host}{m g:Int}{x:Guest}(hs:Shape h)(hm:hasB m (ln h.Mons)=true)(hx:SmG x):Keep h (zfz h m g x):=⟨zWK hs hm hx,zPW hm (by simp),rfl⟩
theorem zB4 {h:Host}{b:List Entry}{m g page need:Int}{io:Bool}(hs:SmH h)(hh:zcF h m g=true):Keep h (lookOf h b m g page need io).1:=by
 have k:=zCN (b:=b) (page:=page) (need:=need) (io:=io) hs hh;exact ⟨k.shape,z2A k.gs,z1j _ _ _ _ _ _ _⟩
theorem zYw {h:Host}{p c v:Int}(hs:Shape h):Keep h { h with Memory:=ze8 h.Memory p c v }:=⟨zMd hs (zQG hs.1.1),rfl,z1G _ _ _ _⟩
theorem zWp {h:Host}{m:Int}(hs:Shape h)(hm:hasB m (ln h.Mons)=true):Keep h (owned h m):=by
 obtain ⟨g1,g2⟩:=zck hs hm;unfold owned;cases ilt (ix h.Mons m mZ).Own 1000000000
 ·exact Keep.rfl' hs
 ·exact ⟨zhn hs g1 g2,zPW hm rfl,rfl⟩
theorem zWb {h:Host}{m n:Int}(hs:Shape h)(hm:hasB m (ln h.Mons)=true):Keep h (zjE h m n):=by
 obtain ⟨g1,g2⟩:=zck hs hm;unfold zjE;cases h3:ilt (ln (ix h.Mons m mZ).Outs) 40
 ·exact Keep.rfl' hs
 ·have h4:=of_decide_eq_true h3;simp only [ln] at h4;refine ⟨zhn hs ⟨g1.1,g1.2.1,g1.2.2.1,g1.2.2.2.1,?_,g1.2.2.2.2.2⟩ g2,zPW hm rfl,rfl⟩;simp [ap];omega
theorem zYi {h:Host}{m g:Int}{x:Guest}{w:Int}(hs:Shape h)(hm:hasB m (ln h.Mons)=true)(hx:SmG x):Keep h (zi5 h m g x w):=by
 have k1:Keep h (zfp h m x w):=by
  unfold zfp;cases (cond (ine w 6) (ieq (ziV (ix h.Mons m mZ).Traps x.Ctl.Traps (zeO w)) 2) false)
  ·exact Keep.rfl' hs
  ·exact zWp hs hm
 have k2:Keep (zfp h m x w) (zih (zfp h m x w) m x w):=by
  unfold zih;cases (cond (zgH x.Ctl.Traps w) (ieq w 5) false)
  ·exact Keep.rfl' k1.shape
  ·exact zWb k1.shape (k1.has hm)
 have k3:=k1.trans k2;exact k3.trans (zls k3.shape (k3.has hm) (zB6 _ _ hx))
theorem zYJ {h:Host}{m g:Int}(hs:SmH h)(hh:zcF h m g=true):Keep h (zbE h m g).1:=by
 obtain ⟨g1,g2,g3⟩:=zcK hh;have hx:=zii hs g2 g3;have hS:=(zzZ hs g1).1;rw [zhk hh];unfold zHo;cases ieq (zN (gOf h m g)) 0
 ·cases ieq (zN (gOf h m g)) 1
  ·cases ieq (zN (gOf h m g)) 2
   ·cases (cond (ieq (zN (gOf h m g)) 3) true (ieq (zN (gOf h m g)) 4))
    ·exact zYi hS g2 hx
    ·have k:=zB4 (b:=h.Buffer) (page:=zdA (address (gOf h m g))) (need:=zeN (ieq (zN (gOf h m g)) 4)) (io:=false) hs hh
     show Keep h (zhl (zhA h m g (gOf h m g) (ieq (zN (gOf h m g)) 4)) m g (gOf h m g) (ieq (zN (gOf h m g)) 4))
     unfold zhl;cases (zhA h m g (gOf h m g) (ieq (zN (gOf h m g)) 4)).2.2
     ·exact k.trans (zls k.shape (k.has g2) hx)
     ·cases ieq (zN (gOf h m g)) 4
      ·have k:=zB4 (b:=h.Buffer) (page:=zdA (address (gOf h m g))) (need:=zeN false) (io:=false) hs hh;exact k.trans (zls k.shape (k.has g2) (zHl _ hx))
      ·have k:=zB4 (b:=h.Buffer) (page:=zdA (address (gOf h m g))) (need:=zeN true) (io:=false) hs hh;have k2:=zYw (p:=(zhA h m g (gOf h m g) true).2.1) (c:=zgB (address (gOf h m g))) (v:=(gOf h m g).A) k.shape;have k3:=k.trans k2;exact k3.trans (zls k3.shape (k3.has g2) (zlw hx))
   ·exact zls hS g2 (zEn hx)
  ·exact zls hS g2 (zVX hx)
 ·exact Keep.rfl' hS
structure Same (h r:Host):Prop where
 sm:SmH r
 cnt:cnt r.Mons=cnt h.Mons
 mem:r.Memory.length=h.Memory.length
 st:r=h\/Shape r
theorem Same.rfl' {h:Host}(hs:SmH h):Same h h:=⟨hs,rfl,rfl,.inl rfl⟩
theorem Same.trans {a b c:Host}(h:Same a b)(k:Same b c):Same a c:=⟨k.sm,k.cnt.trans h.cnt,k.mem.trans h.mem,by
 rcases k.st with e|e
 ·rw [e];exact h.st
 ·exact .inr e⟩
theorem zY7 {h:Host}(m g:Int)(hs:SmH h):Same h (zbE h m g).1:=by
 cases hh:zcF h m g
 ·rw [zgo hh];exact Same.rfl' hs
 ·have k:=zYJ hs hh;exact ⟨k.shape.1,k.cnt,k.mem,.inr k.shape⟩
def tick (t:Int×Host)(m g:Int):Int×Host:=(cond ((zbE t.2 m g).2) (zq .i64 t.1 1) t.1,(zbE t.2 m g).1)
def zi9 (m:Int):Nat->Nat->Int×Host->Int×Host
 | 0,_,t=>t
 | n+1,g,t=>zi9 m n (g+1) (tick t m (g:Int))
def zmG:List Nat->Nat->Int×Host->Int×Host
 | [],_,t=>t
 | c :: l,m,t=>zmG l (m+1) (zi9 (m:Int) c 0 t)
def zdL (h:Host):Int×Host:=zmG (cnt h.Mons) 0 (0,h)
theorem zvT {t:Int×Host}(m g:Int)(hs:SmH t.2):Same t.2 (tick t m g).2:=zY7 m g hs
theorem zzj (m:Int):∀(n g:Nat) (t:Int×Host),SmH t.2->Same t.2 (zi9 m n g t).2
 | 0,_,_,hs=>Same.rfl' hs
 | n+1,g,t,hs=>(zvT m (g:Int) hs).trans (zzj m n (g+1) _ (zvT m (g:Int) hs).sm)
theorem zMv:∀(l:List Nat) (m:Nat) (t:Int×Host),SmH t.2->Same t.2 (zmG l m t).2
 | [],_,_,hs=>Same.rfl' hs
 | c :: l,m,t,hs=>(zzj (m:Int) c 0 t hs).trans (zMv l (m+1) _ (zzj (m:Int) c 0 t hs).sm)
theorem zrq {h:Host}(hs:SmH h):Same h (zdL h).2:=zMv _ 0 (0,h) hs
def zv4 (t:Int×Host):Option Ans:=some [AV.agg (zx t.2),AV.one (.i .i64 t.1)]
@[simp,reducible] def zqX (h:Host):Bool:=pc (zdQ h)
@[simp,reducible] def zgL (h:Host):Host:=(zdL h).2
@[simp,reducible] def zpN (h:Host):Int:=(zdL h).1
def zlR:List AV->Option (Bool×List AV)
 | [.agg [.s (.sl .int) b,.s .mon c,.s .entry d,.s .entry e]]=>some ((zqX (⟨b,c,d,e⟩:Host)),[.agg (zx (zgL (⟨b,c,d,e⟩:Host))),.one (.i .i64 (zpN (⟨b,c,d,e⟩:Host)))])
 | _=>none
def zpK (N:Nat)(a0:Host):Option Ans :=
 (cond (zhC a0) (iter (σ:=(Int×(Int×(Int×((List (List Int))×((List Mon)×((List Entry)×((List Entry)×((List (List Int))×((List Mon)×((List Entry)×((List Entry)×((List (List Int))×((List Mon)×((List Entry)×((List Entry)×Unit)))))))))))))))) N (fun r2 s3=>(cond (ilt s3.2.2.1 s3.2.1) (cond (inb s3.2.2.1 (ln s3.2.2.2.2.1)) (iter (σ:=(Int×(Int×(Int×(Int×(Int×(Int×((List (List Int))×((List Mon)×((List Entry)×((List Entry)×((List (List Int))×((List Mon)×((List Entry)×((List Entry)×((List (List Int))×((List Mon)×((List Entry)×((List Entry)×Unit))))))))))))))))))) N (fun r4 s5=>(cond (ilt s5.2.2.2.2.2.1 s5.2.2.2.2.1) (cond (zus (⟨s5.2.2.2.2.2.2.2.2.2.2.2.2.2.2.1,s5.2.2.2.2.2.2.2.2.2.2.2.2.2.2.2.1,s5.2.2.2.2.2.2.2.2.2.2.2.2.2.2.2.2.1,s5.2.2.2.2.2.2.2.2.2.2.2.2.2.2.2.2.2.1⟩:Host) s5.2.1 s5.2.2.2.2.2.1) (cond (zuU (⟨s5.2.2.2.2.2.2.2.2.2.2.2.2.2.2.1,s5.2.2.2.2.2.2.2.2.2.2.2.2.2.2.2.1,s5.2.2.2.2.2.2.2.2.2.2.2.2.2.2.2.2.1,s5.2.2.2.2.2.2.2.2.2.2.2.2.2.2.2.2.2.1⟩:Host) s5.2.1 s5.2.2.2.2.2.1) (r4 ((zq .i64 s5.1 1),(s5.2.1,(s5.2.2.1,(s5.2.2.2.1,(s5.2.2.2.2.1,((zq .i64 s5.2.2.2.2.2.1 1),(s5.2.2.2.2.2.2.1,(s5.2.2.2.2.2.2.2.1,(s5.2.2.2.2.2.2.2.2.1,(s5.2.2.2.2.2.2.2.2.2.1,(s5.2.2.2.2.2.2.2.2.2.2.1,(s5.2.2.2.2.2.2.2.2.2.2.2.1,(s5.2.2.2.2.2.2.2.2.2.2.2.2.1,(s5.2.2.2.2.2.2.2.2.2.2.2.2.2.1,((zep (⟨s5.2.2.2.2.2.2.2.2.2.2.2.2.2.2.1,s5.2.2.2.2.2.2.2.2.2.2.2.2.2.2.2.1,s5.2.2.2.2.2.2.2.2.2.2.2.2.2.2.2.2.1,s5.2.2.2.2.2.2.2.2.2.2.2.2.2.2.2.2.2.1⟩:Host) s5.2.1 s5.2.2.2.2.2.1).Memory,((zep (⟨s5.2.2.2.2.2.2.2.2.2.2.2.2.2.2.1,s5.2.2.2.2.2.2.2.2.2.2.2.2.2.2.2.1,s5.2.2.2.2.2.2.2.2.2.2.2.2.2.2.2.2.1,s5.2.2.2.2.2.2.2.2.2.2.2.2.2.2.2.2.2.1⟩:Host) s5.2.1 s5.2.2.2.2.2.1).Mons,((zep (⟨s5.2.2.2.2.2.2.2.2.2.2.2.2.2.2.1,s5.2.2.2.2.2.2.2.2.2.2.2.2.2.2.2.1,s5.2.2.2.2.2.2.2.2.2.2.2.2.2.2.2.2.1,s5.2.2.2.2.2.2.2.2.2.2.2.2.2.2.2.2.2.1⟩:Host) s5.2.1 s5.2.2.2.2.2.1).Buffer,((zep (⟨s5.2.2.2.2.2.2.2.2.2.2.2.2.2.2.1,s5.2.2.2.2.2.2.2.2.2.2.2.2.2.2.2.1,s5.2.2.2.2.2.2.2.2.2.2.2.2.2.2.2.2.1,s5.2.2.2.2.2.2.2.2.2.2.2.2.2.2.2.2.2.1⟩:Host) s5.2.1 s5.2.2.2.2.2.1).IoBuffer,()))))))))))))))))))) (r4 (s5.1,(s5.2.1,(s5.2.2.1,(s5.2.2.2.1,(s5.2.2.2.2.1,((zq .i64 s5.2.2.2.2.2.1 1),(s5.2.2.2.2.2.2.1,(s5.2.2.2.2.2.2.2.1,(s5.2.2.2.2.2.2.2.2.1,(s5.2.2.2.2.2.2.2.2.2.1,(s5.2.2.2.2.2.2.2.2.2.2.1,(s5.2.2.2.2.2.2.2.2.2.2.2.1,(s5.2.2.2.2.2.2.2.2.2.2.2.2.1,(s5.2.2.2.2.2.2.2.2.2.2.2.2.2.1,((zep (⟨s5.2.2.2.2.2.2.2.2.2.2.2.2.2.2.1,s5.2.2.2.2.2.2.2.2.2.2.2.2.2.2.2.1,s5.2.2.2.2.2.2.2.2.2.2.2.2.2.2.2.2.1,s5.2.2.2.2.2.2.2.2.2.2.2.2.2.2.2.2.2.1⟩:Host) s5.2.1 s5.2.2.2.2.2.1).Memory,((zep (⟨s5.2.2.2.2.2.2.2.2.2.2.2.2.2.2.1,s5.2.2.2.2.2.2.2.2.2.2.2.2.2.2.2.1,s5.2.2.2.2.2.2.2.2.2.2.2.2.2.2.2.2.1,s5.2.2.2.2.2.2.2.2.2.2.2.2.2.2.2.2.2.1⟩:Host) s5.2.1 s5.2.2.2.2.2.1).Mons,((zep (⟨s5.2.2.2.2.2.2.2.2.2.2.2.2.2.2.1,s5.2.2.2.2.2.2.2.2.2.2.2.2.2.2.2.1,s5.2.2.2.2.2.2.2.2.2.2.2.2.2.2.2.2.1,s5.2.2.2.2.2.2.2.2.2.2.2.2.2.2.2.2.2.1⟩:Host) s5.2.1 s5.2.2.2.2.2.1).Buffer,((zep (⟨s5.2.2.2.2.2.2.2.2.2.2.2.2.2.2.1,s5.2.2.2.2.2.2.2.2.2.2.2.2.2.2.2.1,s5.2.2.2.2.2.2.2.2.2.2.2.2.2.2.2.2.1,s5.2.2.2.2.2.2.2.2.2.2.2.2.2.2.2.2.2.1⟩:Host) s5.2.1 s5.2.2.2.2.2.1).IoBuffer,())))))))))))))))))))) none) (r2 (s5.1,(s5.2.2.1,((zq .i64 s5.2.2.2.1 1),(s5.2.2.2.2.2.2.1,(s5.2.2.2.2.2.2.2.1,(s5.2.2.2.2.2.2.2.2.1,(s5.2.2.2.2.2.2.2.2.2.1,(s5.2.2.2.2.2.2.2.2.2.2.1,(s5.2.2.2.2.2.2.2.2.2.2.2.1,(s5.2.2.2.2.2.2.2.2.2.2.2.2.1,(s5.2.2.2.2.2.2.2.2.2.2.2.2.2.1,(s5.2.2.2.2.2.2.2.2.2.2.2.2.2.2.1,(s5.2.2.2.2.2.2.2.2.2.2.2.2.2.2.2.1,(s5.2.2.2.2.2.2.2.2.2.2.2.2.2.2.2.2.1,(s5.2.2.2.2.2.2.2.2.2.2.2.2.2.2.2.2.2.1,())))))))))))))))))) (s3.1,(s3.2.2.1,(s3.2.1,(s3.2.2.1,((ln (ix s3.2.2.2.2.1 s3.2.2.1 zf).Guests),(0,(s3.2.2.2.1,(s3.2.2.2.2.1,(s3.2.2.2.2.2.1,(s3.2.2.2.2.2.2.1,(s3.2.2.2.2.2.2.2.1,(s3.2.2.2.2.2.2.2.2.1,(s3.2.2.2.2.2.2.2.2.2.1,(s3.2.2.2.2.2.2.2.2.2.2.1,(s3.2.2.2.2.2.2.2.2.2.2.2.1,(s3.2.2.2.2.2.2.2.2.2.2.2.2.1,(s3.2.2.2.2.2.2.2.2.2.2.2.2.2.1,(s3.2.2.2.2.2.2.2.2.2.2.2.2.2.2.1,()))))))))))))))))))) none) (some [(.agg (zx (⟨s3.2.2.2.2.2.2.2.2.2.2.2.1,s3.2.2.2.2.2.2.2.2.2.2.2.2.1,s3.2.2.2.2.2.2.2.2.2.2.2.2.2.1,s3.2.2.2.2.2.2.2.2.2.2.2.2.2.2.1⟩:Host))),(.one (.i .i64 s3.1))]))) (0,((ln a0.Mons),(0,(a0.Memory,(a0.Mons,(a0.Buffer,(a0.IoBuffer,([],([],([],([],((zS a0).Memory,((zS a0).Mons,((zS a0).Buffer,((zS a0).IoBuffer,())))))))))))))))) none)
def zIZ:FuncId->Nat->Option Tmpl:=zB [(8,0,{ n:=43,tm:=[(1,.lp 0 0),(2,.lp 1 0),(4,.lp 2 0),(5,.i .i64),(14,.i .i64),(15,.i .i64)],lo:=[(0,[.sl 0 [],.sl 1 [],.sl 2 [],.sl 3 []]),(1,[.sl 4 [],.sl 5 [],.sl 6 [],.sl 7 []]),(2,[.sl 8 [],.sl 9 [],.sl 10 [],.sl 11 []])],ro:=[(0,(.sl .int),false),(1,.mon,false),(2,.entry,false),(3,.entry,false),(4,(.sl .int),true),(5,.mon,true),(6,.entry,true),(7,.entry,true),(8,(.sl .int),true),(9,.mon,true),(10,.entry,true),(11,.entry,true)] }),(8,2,{ n:=43,tm:=[(1,.lp 0 0),(2,.lp 1 0),(4,.lp 2 0),(5,.i .i64),(6,.i .i64),(14,.i .i64),(15,.i .i64),(24,.i .i64),(25,.i .i64)],lo:=[(0,[.sl 0 [],.sl 1 [],.sl 2 [],.sl 3 []]),(1,[.sl 4 [],.sl 5 [],.sl 6 [],.sl 7 []]),(2,[.sl 8 [],.sl 9 [],.sl 10 [],.sl 11 []])],ro:=[(0,(.sl .int),false),(1,.mon,false),(2,.entry,false),(3,.entry,false),(4,(.sl .int),true),(5,.mon,true),(6,.entry,true),(7,.entry,true),(8,(.sl .int),true),(9,.mon,true),(10,.entry,true),(11,.entry,true)] })]
theorem zLV (N:Nat)(a0:Host):evalFn (cQ zPa zV zgI zjC) zIZ N 12 8 [.agg (zx a0)]=zpK N a0:=by kernel_rfl
theorem zRo {l:List Mon}{i:Nat}(hi:i<l.length):(cnt l).drop i=(ix l (i:Int) mZ).Guests.length :: (cnt l).drop (i+1):=by
 have hi':i<(cnt l).length:=by simpa [cnt] using hi
 rw [List.drop_eq_getElem_cons hi',zbq hi];simp [cnt]
theorem cnt_end (l:List Mon):(cnt l).drop l.length=[]:=List.drop_eq_nil_of_le (by simp [cnt])
theorem zGw (a0:Host)(hb:zG big [.agg (zx a0)])(hc:(zqX a0)=true):∃N,zpK N a0=some [.agg (zx (zgL a0)),.one (.i .i64 (zpN a0))]:=by
 have hs:=(zbg a0).1 (zI.1 hc);have hl:=zcA hs.2.1.1;refine ⟨NN,?_⟩;have hNN:∀{n:Nat},n<=big->n<NN:=fun h=>zb4 h;generalize NN=N at hNN ⊢;unfold zpK;refine must (zbr ((zbg _).2 hs)) ?_
 show _=zv4 (zdL a0)
 refine (zoe a0.Mons.length (fun i (t:Int×Host)=>(t.1,(ln a0.Mons,((i:Int),(a0.Memory,(a0.Mons,(a0.Buffer,(a0.IoBuffer,([],([],([],([],(t.2.Memory,(t.2.Mons,(t.2.Buffer,(t.2.IoBuffer,())))))))))))))))) _
  (fun _ t=>SmH t.2) (fun i t=>zv4 (zmG ((cnt a0.Mons).drop i) i t)) (fun i t rec hi hI hr=>?_) (fun t rec hI=>?_) N 0 (0,a0) hs (Nat.zero_le _) (hNN hl.1)).trans rfl
 ·have hg:(ix a0.Mons (i:Int) mZ).Guests.length<=big:=by rw [zbq hi];exact (zcA (hs.2.1.2 _ (List.getElem_mem hi)).2.2.2.1.1).1
  refine must (zbu hi) (must (zbh hi) ?_);rw [zRo hi];refine (zoe (ix a0.Mons (i:Int) mZ).Guests.length (fun j (t:Int×Host)=>(t.1,((i:Int),(ln a0.Mons,((i:Int),(ln (ix a0.Mons (i:Int) mZ).Guests,((j:Int),(a0.Memory,(a0.Mons,(a0.Buffer,(a0.IoBuffer,([],([],([],([],(t.2.Memory,(t.2.Mons,(t.2.Buffer,(t.2.IoBuffer,()))))))))))))))))))) _
   (fun _ t=>SmH t.2) (fun j t=>zv4 (zmG ((cnt a0.Mons).drop (i+1)) (i+1) (zi9 (i:Int) ((ix a0.Mons (i:Int) mZ).Guests.length-j) j t))) (fun j t rec1 hj hJ hr1=>?_) (fun t rec1 hJ=>?_) N 0 t hI (Nat.zero_le _) (hNN hg)).trans rfl
  ·have e:(ix a0.Mons (i:Int) mZ).Guests.length-j=((ix a0.Mons (i:Int) mZ).Guests.length-(j+1))+1:=by omega
   have q:=hr1 (tick t (i:Int) (j:Int)) (zvT (i:Int) (j:Int) hJ).sm;refine must (zbu hj) (must (zbr ((zbg _).2 hJ)) ?_);rw [e];simp only [zi9,zbd hj hg];rw [<- q];unfold tick;refine br (fun h=>?_) (fun h=>?_)
   ·rw [show (zbE t.2 (i:Int) (j:Int)).2=true from h]
    rfl
   ·rw [show (zbE t.2 (i:Int) (j:Int)).2=false from h]
    rfl
  ·refine zex zbk ?_;simp only [Nat.sub_self,zi9,zbd hi hl.1];exact hr t hJ
 ·refine zex zbk ?_;rw [cnt_end];rfl
theorem zDZ:Holds Tryz.prog 8 zlR:=zo zFq zD zdS zeW (zC (by kernel_rfl)) fun avs rs hb h=>by
 unfold zlR at h;split at h
 ·obtain ⟨hc,rfl⟩:=zl h;exact (fin1 zGw zLV hc hb :)
 ·cases h
@[simp,reducible] def zpL (h:Host):Bool:=pc (zdQ h)
@[simp,reducible] def zgQ (h:Host):Host:=(zdL h).2
@[simp,reducible] def zpB (h:Host):Int:=(zdL h).1
def zm5:List AV->Option (Bool×List AV)
 | [.agg [.s (.sl .int) b,.s .mon c,.s .entry d,.s .entry e]]=>some ((zpL (⟨b,c,d,e⟩:Host)),[.agg (zx (zgQ (⟨b,c,d,e⟩:Host))),.one (.i .i64 (zpB (⟨b,c,d,e⟩:Host)))])
 | _=>none
def zqb (N:Nat)(a0:Host):Option Ans :=
 (cond (zd4 a0) (iter (σ:=(Int×(Int×((List (List Int))×((List Mon)×((List Entry)×((List Entry)×((List (List Int))×((List Mon)×((List Entry)×((List Entry)×Unit))))))))))) N (fun r2 s3=>(cond (ilt s3.2.1 (ln s3.2.2.2.1)) (cond (inb s3.2.1 (ln s3.2.2.2.1)) (iter (σ:=(Int×(Int×(Int×(Int×((List (List Int))×((List Mon)×((List Entry)×((List Entry)×((List (List Int))×((List Mon)×((List Entry)×((List Entry)×Unit))))))))))))) N (fun r4 s5=>(cond (ilt s5.2.2.2.1 s5.2.2.1) (cond (zeq (⟨s5.2.2.2.2.1,s5.2.2.2.2.2.1,s5.2.2.2.2.2.2.1,s5.2.2.2.2.2.2.2.1⟩:Host) s5.2.1 s5.2.2.2.1) (cond (zBg (⟨s5.2.2.2.2.1,s5.2.2.2.2.2.1,s5.2.2.2.2.2.2.1,s5.2.2.2.2.2.2.2.1⟩:Host) s5.2.1 s5.2.2.2.1) (r4 ((zq .i64 s5.1 1),(s5.2.1,(s5.2.2.1,((zq .i64 s5.2.2.2.1 1),((zeQ (⟨s5.2.2.2.2.1,s5.2.2.2.2.2.1,s5.2.2.2.2.2.2.1,s5.2.2.2.2.2.2.2.1⟩:Host) s5.2.1 s5.2.2.2.1).Memory,((zeQ (⟨s5.2.2.2.2.1,s5.2.2.2.2.2.1,s5.2.2.2.2.2.2.1,s5.2.2.2.2.2.2.2.1⟩:Host) s5.2.1 s5.2.2.2.1).Mons,((zeQ (⟨s5.2.2.2.2.1,s5.2.2.2.2.2.1,s5.2.2.2.2.2.2.1,s5.2.2.2.2.2.2.2.1⟩:Host) s5.2.1 s5.2.2.2.1).Buffer,((zeQ (⟨s5.2.2.2.2.1,s5.2.2.2.2.2.1,s5.2.2.2.2.2.2.1,s5.2.2.2.2.2.2.2.1⟩:Host) s5.2.1 s5.2.2.2.1).IoBuffer,(s5.2.2.2.2.2.2.2.2.1,(s5.2.2.2.2.2.2.2.2.2.1,(s5.2.2.2.2.2.2.2.2.2.2.1,(s5.2.2.2.2.2.2.2.2.2.2.2.1,()))))))))))))) (r4 (s5.1,(s5.2.1,(s5.2.2.1,((zq .i64 s5.2.2.2.1 1),((zeQ (⟨s5.2.2.2.2.1,s5.2.2.2.2.2.1,s5.2.2.2.2.2.2.1,s5.2.2.2.2.2.2.2.1⟩:Host) s5.2.1 s5.2.2.2.1).Memory,((zeQ (⟨s5.2.2.2.2.1,s5.2.2.2.2.2.1,s5.2.2.2.2.2.2.1,s5.2.2.2.2.2.2.2.1⟩:Host) s5.2.1 s5.2.2.2.1).Mons,((zeQ (⟨s5.2.2.2.2.1,s5.2.2.2.2.2.1,s5.2.2.2.2.2.2.1,s5.2.2.2.2.2.2.2.1⟩:Host) s5.2.1 s5.2.2.2.1).Buffer,((zeQ (⟨s5.2.2.2.2.1,s5.2.2.2.2.2.1,s5.2.2.2.2.2.2.1,s5.2.2.2.2.2.2.2.1⟩:Host) s5.2.1 s5.2.2.2.1).IoBuffer,(s5.2.2.2.2.2.2.2.2.1,(s5.2.2.2.2.2.2.2.2.2.1,(s5.2.2.2.2.2.2.2.2.2.2.1,(s5.2.2.2.2.2.2.2.2.2.2.2.1,())))))))))))))) none) (r2 (s5.1,((zq .i64 s5.2.1 1),(s5.2.2.2.2.1,(s5.2.2.2.2.2.1,(s5.2.2.2.2.2.2.1,(s5.2.2.2.2.2.2.2.1,(s5.2.2.2.2.2.2.2.2.1,(s5.2.2.2.2.2.2.2.2.2.1,(s5.2.2.2.2.2.2.2.2.2.2.1,(s5.2.2.2.2.2.2.2.2.2.2.2.1,()))))))))))))) (s3.1,(s3.2.1,((ln (ix s3.2.2.2.1 s3.2.1 zf).Guests),(0,(s3.2.2.1,(s3.2.2.2.1,(s3.2.2.2.2.1,(s3.2.2.2.2.2.1,(s3.2.2.2.2.2.2.1,(s3.2.2.2.2.2.2.2.1,(s3.2.2.2.2.2.2.2.2.1,(s3.2.2.2.2.2.2.2.2.2.1,()))))))))))))) none) (some [(.agg (zx (⟨s3.2.2.1,s3.2.2.2.1,s3.2.2.2.2.1,s3.2.2.2.2.2.1⟩:Host))),(.one (.i .i64 s3.1))]))) (0,(0,((zh a0).Memory,((zh a0).Mons,((zh a0).Buffer,((zh a0).IoBuffer,([],([],([],([],()))))))))))) none)
def zIO:FuncId->Nat->Option Tmpl:=zB [(6,0,{ n:=42,tm:=[(1,.lp 0 0),(2,.lp 1 0),(4,.i .i64),(5,.i .i64)],lo:=[(0,[.sl 0 [],.sl 1 [],.sl 2 [],.sl 3 []]),(1,[.sl 4 [],.sl 5 [],.sl 6 [],.sl 7 []])],ro:=[(0,(.sl .int),true),(1,.mon,true),(2,.entry,true),(3,.entry,true),(4,(.sl .int),true),(5,.mon,true),(6,.entry,true),(7,.entry,true)] }),(6,2,{ n:=42,tm:=[(1,.lp 0 0),(2,.lp 1 0),(4,.i .i64),(5,.i .i64),(6,.i .i64),(7,.i .i64)],lo:=[(0,[.sl 0 [],.sl 1 [],.sl 2 [],.sl 3 []]),(1,[.sl 4 [],.sl 5 [],.sl 6 [],.sl 7 []])],ro:=[(0,(.sl .int),true),(1,.mon,true),(2,.entry,true),(3,.entry,true),(4,(.sl .int),true),(5,.mon,true),(6,.entry,true),(7,.entry,true)] })]
theorem zJ2 (N:Nat)(a0:Host):evalFn (cQ zPa zV zgI zjC) zIO N 12 6 [.agg (zx a0)]=zqb N a0:=by kernel_rfl
theorem zGy (a0:Host)(hb:zG big [.agg (zx a0)])(hc:(zpL a0)=true):∃N,zqb N a0=some [.agg (zx (zgQ a0)),.one (.i .i64 (zpB a0))]:=by
 have hs:=(zbg a0).1 (zI.1 hc);have hl:=zcA hs.2.1.1;refine ⟨NN,?_⟩;have hNN:∀{n:Nat},n<=big->n<NN:=fun h=>zb4 h;generalize NN=N at hNN ⊢;unfold zqb;refine must (zbr ((zbg _).2 hs)) ?_
 show _=zv4 (zdL a0)
 refine (zoe a0.Mons.length (fun i (t:Int×Host)=>(t.1,((i:Int),(t.2.Memory,(t.2.Mons,(t.2.Buffer,(t.2.IoBuffer,([],([],([],([],()))))))))))) _
  (fun _ t=>Same a0 t.2) (fun i t=>zv4 (zmG ((cnt a0.Mons).drop i) i t)) (fun i t rec hi hI hr=>?_) (fun t rec hI=>?_) N 0 (0,a0) (Same.rfl' hs) (Nat.zero_le _) (hNN hl.1)).trans rfl
 ·have hlen:=zC3 hI.cnt;have hi':i<t.2.Mons.length:=by rw [hlen];exact hi
  have hgl:(ix t.2.Mons (i:Int) mZ).Guests.length=(ix a0.Mons (i:Int) mZ).Guests.length:=zYN hI.cnt _;have hg:(ix a0.Mons (i:Int) mZ).Guests.length<=big:=by rw [zbq hi];exact (zcA (hs.2.1.2 _ (List.getElem_mem hi)).2.2.2.1.1).1
  refine must (zbu hi') (must (zbh hi') ?_);rw [zRo hi]
  show iter N _ (t.1,((i:Int),(((ix t.2.Mons (i:Int) mZ).Guests.length:Int),(0,_))))=_
  rw [hgl];refine (zoe (ix a0.Mons (i:Int) mZ).Guests.length (fun j (t:Int×Host)=>(t.1,((i:Int),(((ix a0.Mons (i:Int) mZ).Guests.length:Int),((j:Int),(t.2.Memory,(t.2.Mons,(t.2.Buffer,(t.2.IoBuffer,([],([],([],([],()))))))))))))) _
   (fun _ t=>Same a0 t.2) (fun j t=>zv4 (zmG ((cnt a0.Mons).drop (i+1)) (i+1) (zi9 (i:Int) ((ix a0.Mons (i:Int) mZ).Guests.length-j) j t))) (fun j t rec1 hj hJ hr1=>?_) (fun t rec1 hJ=>?_) N 0 t hI (Nat.zero_le _) (hNN hg)).trans rfl
  ·have e:(ix a0.Mons (i:Int) mZ).Guests.length-j=((ix a0.Mons (i:Int) mZ).Guests.length-(j+1))+1:=by omega
   have q:=hr1 (tick t (i:Int) (j:Int)) (hJ.trans (zvT (i:Int) (j:Int) hJ.sm));refine must (decide_eq_true (show (j:Int)<((ix a0.Mons (i:Int) mZ).Guests.length:Int) by omega)) (must (zbr ((zbg _).2 hJ.sm)) ?_)
   rw [e];simp only [zi9,zbd hj hg];rw [<- q];unfold tick;refine br (fun h=>?_) (fun h=>?_)
   ·rw [show (zbE t.2 (i:Int) (j:Int)).2=true from h]
    rfl
   ·rw [show (zbE t.2 (i:Int) (j:Int)).2=false from h]
    rfl
  ·refine zex (decide_eq_false (show ¬ (((ix a0.Mons (i:Int) mZ).Guests.length:Int)<((ix a0.Mons (i:Int) mZ).Guests.length:Int)) by omega)) ?_
   simp only [Nat.sub_self,zi9,zbd hi hl.1];exact hr t hJ
 ·have hlen:=zC3 hI.cnt;refine zex ?_ ?_
  ·show ilt ((a0.Mons.length:Nat):Int) (ln t.2.Mons)=false
   rw [ln,hlen];exact decide_eq_false (by omega)
  ·rw [cnt_end];rfl
theorem zDb:Holds Tryz.prog 6 zm5:=zo zFq zD zdS zeW (zC (by kernel_rfl)) fun avs rs hb h=>by
 unfold zm5 at h;split at h
 ·obtain ⟨hc,rfl⟩:=zl h;exact (fin1 zGy zJ2 hc hb :)
 ·cases h
def zQE:zbP:=[(8,zlR),(6,zm5)]++zPa
theorem zMj:zbv zQE:=zn zDZ (zn zDb zFq)
def zeV:Nat->Int×Host->Int×Host
 | 0,t=>t
 | n+1,t=>zeV n (zq .i64 t.1 (zdL t.2).1,(zdL t.2).2)
theorem zRi:∀(n:Nat) (t:Int×Host),SmH t.2->Same t.2 (zeV n t).2
 | 0,_,hs=>Same.rfl' hs
 | n+1,t,hs=>(zrq hs).trans (zRi n (zq .i64 t.1 (zdL t.2).1,(zdL t.2).2) (zrq hs).sm)
@[simp,reducible] def zkB (h:Host)(_:Int):Bool:=pc (zdQ h)
@[simp,reducible] def zbD (h:Host)(r:Int):Host:=(zeV (brought r 0 40).toNat (0,h)).2
@[simp,reducible] def ziI (h:Host)(r:Int):Int:=(zeV (brought r 0 40).toNat (0,h)).1
def zqw:List AV->Option (Bool×List AV)
 | [.agg [.s (.sl .int) b,.s .mon c,.s .entry d,.s .entry e],.one (.i .i64 f)]=>some ((zkB (⟨b,c,d,e⟩:Host) f),[.agg (zx (zbD (⟨b,c,d,e⟩:Host) f)),.one (.i .i64 (ziI (⟨b,c,d,e⟩:Host) f))])
 | _=>none
def zv9 (N:Nat)(a0:Host)(a1:Int):Option Ans :=
 (cond (zhC a0) (iter (σ:=(Int×(Int×(Int×((List (List Int))×((List Mon)×((List Entry)×((List Entry)×((List (List Int))×((List Mon)×((List Entry)×((List Entry)×Unit)))))))))))) N (fun r3 s4=>(cond (zxx s4.1 0 40) (cond (ilt s4.2.2.1 (zpA s4.1 0 40)) (cond (zqX (⟨s4.2.2.2.2.2.2.2.1,s4.2.2.2.2.2.2.2.2.1,s4.2.2.2.2.2.2.2.2.2.1,s4.2.2.2.2.2.2.2.2.2.2.1⟩:Host)) (r3 (s4.1,((zq .i64 s4.2.1 (zpN (⟨s4.2.2.2.2.2.2.2.1,s4.2.2.2.2.2.2.2.2.1,s4.2.2.2.2.2.2.2.2.2.1,s4.2.2.2.2.2.2.2.2.2.2.1⟩:Host))),((zq .i64 s4.2.2.1 1),(s4.2.2.2.1,(s4.2.2.2.2.1,(s4.2.2.2.2.2.1,(s4.2.2.2.2.2.2.1,((zgL (⟨s4.2.2.2.2.2.2.2.1,s4.2.2.2.2.2.2.2.2.1,s4.2.2.2.2.2.2.2.2.2.1,s4.2.2.2.2.2.2.2.2.2.2.1⟩:Host)).Memory,((zgL (⟨s4.2.2.2.2.2.2.2.1,s4.2.2.2.2.2.2.2.2.1,s4.2.2.2.2.2.2.2.2.2.1,s4.2.2.2.2.2.2.2.2.2.2.1⟩:Host)).Mons,((zgL (⟨s4.2.2.2.2.2.2.2.1,s4.2.2.2.2.2.2.2.2.1,s4.2.2.2.2.2.2.2.2.2.1,s4.2.2.2.2.2.2.2.2.2.2.1⟩:Host)).Buffer,((zgL (⟨s4.2.2.2.2.2.2.2.1,s4.2.2.2.2.2.2.2.2.1,s4.2.2.2.2.2.2.2.2.2.1,s4.2.2.2.2.2.2.2.2.2.2.1⟩:Host)).IoBuffer,())))))))))))) none) (some [(.agg (zx (⟨s4.2.2.2.2.2.2.2.1,s4.2.2.2.2.2.2.2.2.1,s4.2.2.2.2.2.2.2.2.2.1,s4.2.2.2.2.2.2.2.2.2.2.1⟩:Host))),(.one (.i .i64 s4.2.1))])) none)) (a1,(0,(0,([],([],([],([],((zS a0).Memory,((zS a0).Mons,((zS a0).Buffer,((zS a0).IoBuffer,())))))))))))) none)
def zMQ:FuncId->Nat->Option Tmpl:=zB [(13,0,{ n:=30,tm:=[(1,.i .i64),(4,.lp 0 0),(6,.lp 1 0),(7,.i .i64),(8,.i .i64)],lo:=[(0,[.sl 0 [],.sl 1 [],.sl 2 [],.sl 3 []]),(1,[.sl 4 [],.sl 5 [],.sl 6 [],.sl 7 []])],ro:=[(0,(.sl .int),true),(1,.mon,true),(2,.entry,true),(3,.entry,true),(4,(.sl .int),true),(5,.mon,true),(6,.entry,true),(7,.entry,true)] })]
theorem zPE (N:Nat)(a0:Host)(a1:Int):evalFn (cQ zQE zV zgI zjC) zMQ N 12 13 [.agg (zx a0),.one (.i .i64 a1)]=zv9 N a0 a1:=by kernel_rfl
theorem zMY (a0:Host)(a1:Int)(hb:zG big [.agg (zx a0),.one (.i .i64 a1)])(hc:(zkB a0 a1)=true):∃N,zv9 N a0 a1=some [.agg (zx (zbD a0 a1)),.one (.i .i64 (ziI a0 a1))]:=by
 have hs:=(zbg a0).1 (zI.1 hc);have hb:=zMc a1;refine ⟨NN,?_⟩;have hNN:∀{n:Nat},n<=big->n<NN:=fun h=>zb4 h;generalize NN=N at hNN ⊢;unfold zv9;refine must (zbr ((zbg _).2 hs)) ?_
 show _=zv4 (zeV (brought a1 0 40).toNat (0,a0))
 refine zoe (brought a1 0 40).toNat (fun i (t:Int×Host)=>(a1,(t.1,((i:Int),([],([],([],([],(t.2.Memory,(t.2.Mons,(t.2.Buffer,(t.2.IoBuffer,())))))))))))) _ (fun _ t=>SmH t.2) (fun i t=>zv4 (zeV ((brought a1 0 40).toNat-i) t)) (fun i t rec hi hI hr=>?_) (fun t rec hI=>?_) N 0 (0,a0) hs (Nat.zero_le _) (hNN (by rw [zlB];omega))
 ·refine must rfl (must (decide_eq_true (by show (i:Int)<brought a1 0 40;omega)) (must (zbr ((zbg _).2 hI)) ?_))
  have e:(brought a1 0 40).toNat-i=((brought a1 0 40).toNat-(i+1))+1:=by omega
  simp only [zbd hi (by rw [zlB];omega)]
  rw [e];exact hr (zq .i64 t.1 (zdL t.2).1,(zdL t.2).2) (zrq hI).sm
 ·refine must rfl (zex (decide_eq_false (by show ¬ (((brought a1 0 40).toNat:Nat):Int)<brought a1 0 40;omega)) ?_)
  simp only [Nat.sub_self,zeV];rfl
theorem zG5:Holds Tryz.prog 13 zqw:=zo zMj zD zdS zeW (zC (by kernel_rfl)) fun avs rs hb h=>by
 unfold zqw at h;split at h
 ·obtain ⟨hc,rfl⟩:=zl h;exact (fin2 zMY zPE hc hb :)
 ·cases h
@[simp,reducible] def zpd (h:Host)(_:Int):Bool:=pc (zdQ h)
@[simp,reducible] def zfo (h:Host)(r:Int):Host:=(zeV (brought r 0 40).toNat (0,h)).2
@[simp,reducible] def ziU (h:Host)(r:Int):Int:=(zeV (brought r 0 40).toNat (0,h)).1
def zrd:List AV->Option (Bool×List AV)
 | [.agg [.s (.sl .int) b,.s .mon c,.s .entry d,.s .entry e],.one (.i .i64 f)]=>some ((zpd (⟨b,c,d,e⟩:Host) f),[.agg (zx (zfo (⟨b,c,d,e⟩:Host) f)),.one (.i .i64 (ziU (⟨b,c,d,e⟩:Host) f))])
 | _=>none
def zwG (N:Nat)(a0:Host)(a1:Int):Option Ans :=
 (cond (zd4 a0) (cond (zxz a1 0 40) (iter (σ:=(Int×(Int×((List (List Int))×((List Mon)×((List Entry)×((List Entry)×((List (List Int))×((List Mon)×((List Entry)×((List Entry)×Unit))))))))))) N (fun r3 s4=>(cond (igt s4.2.1 0) (cond (zpL (⟨s4.2.2.1,s4.2.2.2.1,s4.2.2.2.2.1,s4.2.2.2.2.2.1⟩:Host)) (r3 ((zq .i64 s4.1 (zpB (⟨s4.2.2.1,s4.2.2.2.1,s4.2.2.2.2.1,s4.2.2.2.2.2.1⟩:Host))),((wsub .i64 s4.2.1 1),((zgQ (⟨s4.2.2.1,s4.2.2.2.1,s4.2.2.2.2.1,s4.2.2.2.2.2.1⟩:Host)).Memory,((zgQ (⟨s4.2.2.1,s4.2.2.2.1,s4.2.2.2.2.1,s4.2.2.2.2.2.1⟩:Host)).Mons,((zgQ (⟨s4.2.2.1,s4.2.2.2.1,s4.2.2.2.2.1,s4.2.2.2.2.2.1⟩:Host)).Buffer,((zgQ (⟨s4.2.2.1,s4.2.2.2.1,s4.2.2.2.2.1,s4.2.2.2.2.2.1⟩:Host)).IoBuffer,(s4.2.2.2.2.2.2.1,(s4.2.2.2.2.2.2.2.1,(s4.2.2.2.2.2.2.2.2.1,(s4.2.2.2.2.2.2.2.2.2.1,()))))))))))) none) (some [(.agg (zx (⟨s4.2.2.1,s4.2.2.2.1,s4.2.2.2.2.1,s4.2.2.2.2.2.1⟩:Host))),(.one (.i .i64 s4.1))]))) (0,((zpp a1 0 40),((zh a0).Memory,((zh a0).Mons,((zh a0).Buffer,((zh a0).IoBuffer,([],([],([],([],()))))))))))) none) none)
def zNs:FuncId->Nat->Option Tmpl:=zB [(12,0,{ n:=27,tm:=[(2,.lp 0 0),(4,.lp 1 0),(6,.i .i64),(7,.i .i64)],lo:=[(0,[.sl 0 [],.sl 1 [],.sl 2 [],.sl 3 []]),(1,[.sl 4 [],.sl 5 [],.sl 6 [],.sl 7 []])],ro:=[(0,(.sl .int),true),(1,.mon,true),(2,.entry,true),(3,.entry,true),(4,(.sl .int),true),(5,.mon,true),(6,.entry,true),(7,.entry,true)] })]
theorem zR4 (N:Nat)(a0:Host)(a1:Int):evalFn (cQ zQE zV zgI zjC) zNs N 12 12 [.agg (zx a0),.one (.i .i64 a1)]=zwG N a0 a1:=by kernel_rfl
theorem zOE (a0:Host)(a1:Int)(hb:zG big [.agg (zx a0),.one (.i .i64 a1)])(hc:(zpd a0 a1)=true):∃N,zwG N a0 a1=some [.agg (zx (zfo a0 a1)),.one (.i .i64 (ziU a0 a1))]:=by
 have hs:=(zbg a0).1 (zI.1 hc);have hb:=zMc a1;refine ⟨NN,?_⟩;have hNN:∀{n:Nat},n<=big->n<NN:=fun h=>zb4 h;generalize NN=N at hNN ⊢;unfold zwG;refine must (zbr ((zbg _).2 hs)) (must rfl ?_);have e0:zpp a1 0 40=(((brought a1 0 40).toNat-0:Nat):Int):=by show brought a1 0 40=_;omega
 rw [e0]
 show _=zv4 (zeV (brought a1 0 40).toNat (0,a0))
 refine zoe (brought a1 0 40).toNat (fun i (t:Int×Host)=>(t.1,((((brought a1 0 40).toNat-i:Nat):Int),(t.2.Memory,(t.2.Mons,(t.2.Buffer,(t.2.IoBuffer,([],([],([],([],()))))))))))) _ (fun _ t=>SmH t.2) (fun i t=>zv4 (zeV ((brought a1 0 40).toNat-i) t)) (fun i t rec hi hI hr=>?_) (fun t rec hI=>?_) N 0 (0,a0) hs (Nat.zero_le _) (hNN (by rw [zlB];omega))
 ·refine must (decide_eq_true (by show (((brought a1 0 40).toNat-i:Nat):Int)>0;omega)) (must (zbr ((zbg _).2 hI)) ?_)
  have e:(brought a1 0 40).toNat-i=((brought a1 0 40).toNat-(i+1))+1:=by omega
  have e2:wsub .i64 (((brought a1 0 40).toNat-i:Nat):Int) 1=(((brought a1 0 40).toNat-(i+1):Nat):Int):=by rw [zlv (by omega) (by omega)];omega
  simp only [e2];rw [e];exact hr (zq .i64 t.1 (zdL t.2).1,(zdL t.2).2) (zrq hI).sm
 ·refine zex (decide_eq_false (by show ¬ (((brought a1 0 40).toNat-(brought a1 0 40).toNat:Nat):Int)>0;omega)) ?_
  simp only [Nat.sub_self,zeV];rfl
theorem zHh:Holds Tryz.prog 12 zrd:=zo zMj zD zdS zeW (zC (by kernel_rfl)) fun avs rs hb h=>by
 unfold zrd at h;split at h
 ·obtain ⟨hc,rfl⟩:=zl h;exact (fin2 zOE zR4 hc hb :)
 ·cases h
theorem zCO {α:Type}{m:α->Int}{k:Int}:∀{l:List α},(∀x∈l,m x<=k)->mcL m l<=k*l.length
 | [],_=>by simp [mcL]
 | x :: l,h=>by
  have h1:=zCO (l:=l) (fun y hy=>h y (by simp [hy]))
  have h2:=h x (by simp)
  simp only [mcL,List.length_cons,Int.natCast_add,Int.mul_add];omega
theorem zHM {l:List Int}(h:l.length<=1048576):zh8 l<=1048576:=by
 unfold zh8;rw [zVo];omega
theorem zC0 {l:List Slot}(h:l.length<=1048576):mcL zf4 l<=2097152:=by
 rw [zpw (m:=zf4) (c:=2) (fun _=>rfl)];omega
theorem z2L {l:List Ins}(h:l.length<=1048576):mcL zod l<=2097152:=by
 rw [zpw (m:=zod) (c:=2) (fun _=>rfl)];omega
theorem zVn {l:List Bool}(h:l.length<=1048576):mcL zi1 l<=1048576:=by
 rw [zpw (m:=zi1) (c:=1) (fun _=>rfl)];omega
theorem zME {l:List Entry}(h:l.length<=1048576):mcL zgy l<=4194304:=by
 rw [zpw (m:=zgy) (c:=4) (fun _=>rfl)];omega
theorem z1d {g:Guest}(h:SmG g):zfB g<=8388608:=by
 have h1:=z2L h.1;have h2:=zC0 h.2.1;have h3:=zC0 h.2.2.1;have h4:=zHM h.2.2.2;unfold zh8 at h4;unfold zfB;omega
theorem z14 {k:Kept}(h:SmK k):zhc k<=3145728:=by
 have h1:=zVn h.1;have h2:=zC0 h.2;unfold zhc;omega
theorem z3d {x:Mon}(h:znq x)(hs:ShM x)(hg:x.Guests.length<=2):zjz x<=67108864:=by
 have h1:=zC0 h.1;have h2:=zCO (m:=zh8) (l:=x.Out) (k:=1048576) (fun y hy=>zHM (h.2.1.2 y hy));have h3:=zVn h.2.2.1;have h4:=zCO (m:=zfB) (l:=x.Guests) (k:=8388608) (fun y hy=>z1d (h.2.2.2.1.2 y hy));have h5:=zHM h.2.2.2.2.1;have h6:=zCO (m:=zhc) (l:=x.Tables) (k:=3145728) (fun y hy=>z14 (h.2.2.2.2.2.2 y hy));rw [hs.2.1] at h2;have h7:x.Tables.length<=2:=by rw [hs.2.2.2];exact hg
 unfold zh8 at h5;unfold zjz;omega
theorem z16 {h:Host}(hs:Shape h)(hm:h.Memory.length=12)(hl:h.Mons.length<=3)(hg:∀x∈h.Mons,x.Guests.length<=2):zrG h<=900000000000:=by
 have h1:=zCO (m:=zh8) (l:=h.Memory) (k:=1048576) (fun y hy=>zHM (hs.1.1.2 y hy));have h2:=zCO (m:=zjz) (l:=h.Mons) (k:=67108864) (fun y hy=>z3d (hs.1.2.1.2 y hy) (hs.2 y hy) (hg y hy));have h3:=zME hs.1.2.2.1;have h4:=zME hs.1.2.2.2;rw [hm] at h1;unfold zrG;omega
theorem cnt_le {l l':List Mon}{k:Nat}(h:cnt l'=cnt l)(hl:∀x∈l,x.Guests.length<=k):∀x∈l',x.Guests.length<=k:=by
 intro x hx;have:x.Guests.length∈cnt l':=List.mem_map.2 ⟨x,hx,rfl⟩;rw [h] at this;obtain ⟨y,hy,e⟩:=List.mem_map.1 this;rw [<- e];exact hl y hy
theorem z1U {h r:Host}(hb:zrG h<=15728640)(hs:SmH h)(S:Same h r)(hr:zdd h=false->r=h):zrG r<=900000000000:=by
 cases hh:zdd h
 ·rw [hr hh];omega
 ·rcases S.st with e|e
  ·rw [e];omega
  ·have hlen:h.Mons.length<=3:=by
    have hh2:=hh;unfold zdd at hh2;simp only [zdm] at hh2;have:=(zfU.1 hh2.2.1).2;simp only [ln] at this;omega
   have hg:∀x∈h.Mons,x.Guests.length<=2:=fun x hx=>by
    have hk:=zhj hh x hx;unfold zek at hk;simp only [zdm] at hk;have:=(zfU.1 hk.1).2;simp only [ln] at this;omega
   exact z16 e (S.mem.trans (zIf hh)) (by rw [zC3 S.cnt];exact hlen) (cnt_le S.cnt hg)
theorem zD8 {h:Host}(hh:zdd h=false)(m:Int)(c:Int):∀(n g:Nat),zi9 m n g (c,h)=(c,h)
 | 0,_=>rfl
 | n+1,g=>by
  have:zbE h m (g:Int)=(h,false):=zgo (zCB hh);simp only [zi9,tick,this,cF];exact zD8 hh m c n (g+1)
theorem zHN {h:Host}(hh:zdd h=false)(c:Int):∀(l:List Nat) (m:Nat),zmG l m (c,h)=(c,h)
 | [],_=>rfl
 | k :: l,m=>by
  simp only [zmG,zD8 hh (m:Int) c k 0];exact zHN hh c l (m+1)
theorem zMH {h:Host}(hh:zdd h=false):∀(n:Nat) (c:Int),(zeV n (c,h)).2=h
 | 0,_=>rfl
 | n+1,c=>by
  have:zdL h=(0,h):=zHN hh 0 _ 0;simp only [zeV,this];exact zMH hh n _
theorem zCt {α β:Type}{f:α->β}{l:List α}{x:β}{xs:List β}(h:l.map f=x :: xs):∃a r,l=a :: r/\f a=x/\r.map f=xs:=by
 cases l with
 | nil=>cases h
 | cons a r =>
  simp only [List.map_cons,List.cons.injEq] at h;exact ⟨a,r,rfl,h.1,h.2⟩
theorem z2o {a:AV}{ct:CTy}(h:some a.sh=some (false,[ct])):∃c,a = .one c/\c.ty=ct:=by
 cases a with
 | one c =>
  simp only [AV.sh,Option.some.injEq,Prod.mk.injEq,List.cons.injEq,and_true,true_and] at h;exact ⟨c,rfl,h⟩
 | agg l=>simp [AV.sh] at h
theorem z2h {a:AV}{tys:List CTy}(h:some a.sh=some (true,tys)):∃cs,a = .agg cs/\cs.map CV.ty=tys:=by
 cases a with
 | one c=>simp [AV.sh] at h
 | agg l =>
  simp only [AV.sh,Option.some.injEq,Prod.mk.injEq,true_and] at h;exact ⟨l,rfl,h⟩
theorem z3q {a:AV}{k:IntKind}(h:some a.sh=some (false,[.i k])):∃n,a = .one (.i k n):=by
 obtain ⟨c,rfl,hc⟩:=z2o h;cases c with
 | i k' n=>simp only [CV.ty,CTy.i.injEq] at hc;subst hc;exact ⟨n,rfl⟩
 | b x=>cases hc
 | s t l=>cases hc
theorem z1q {a:AV}(h:some a.sh=some (true,[.s (.sl .int),.s .mon,.s .entry,.s .entry])):∃x:Host,a = .agg (zx x):=by
 obtain ⟨cs,rfl,hc⟩:=z2h h;obtain ⟨m,r1,rfl,h1⟩:=zuM hc;obtain ⟨n,r2,rfl,h2⟩:=zuM h1;obtain ⟨b,r3,rfl,h3⟩:=zuM h2;obtain ⟨i,r4,rfl,h4⟩:=zuM h3;cases List.map_eq_nil_iff.1 h4;exact ⟨⟨m,n,b,i⟩,rfl⟩
end
end Go.Proofs.YtdmheolglokabaaGreat.E
