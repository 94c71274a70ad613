/- What is proved here: a part of the proof that the statement of this claim holds (several texts of wip/, laid together). -/
import Derived.Test.YtnnmbkjhakbicaaGreatW4
import Derived.Shelf.Bits.Mul64
import Derived.Ground.NamesProg
import Derived.Laws.CopyOwn
import Derived.Deep.RegionLaw
import Derived.WalkKit
import Derived.Tactics2
namespace Go.Proofs.YtnnmbkjhakbicaaGreat.E
open Go
set_option linter.unusedVariables false
set_option maxRecDepth 100000
set_option linter.unusedSimpArgs false
set_option linter.unusedSectionVars false
noncomputable section
def cz (l:List Slot):Nat:=l.countP fun s=>ieq s.Page 0
def zH:List Mon->Nat
 | []=>0
 | m :: l=>cz m.Outer+zH l
def bit (u:List Bool):Nat:=bif ix u 0 false then 1 else 0
theorem zpM (s:Slot)(l:List Slot):cz (s :: l)=cz l+bif ieq s.Page 0 then 1 else 0:=by
 unfold cz;rw[List.countP_cons];cases ieq s.Page 0<;>rfl
theorem zSm {u:List Bool}{p:Int}(hp:0<=p)(hlt:p.toNat<u.length)(x:Bool):ix (up u p x) 0 false=bif ieq p 0 then x else ix u 0 false:=by
 unfold ix up;cases h:ieq p 0
 .have:p≠0:=by simpa [ieq] using h
  have hne:p.toNat≠0:=by omega
  simp[List.getD,jA,hne]
 .have:p=0:=by simpa [ieq] using h
  subst this;have hlt:0<u.length:=hlt;simp[List.getD,jA,hlt]
theorem zuX:∀(l:List Slot) (u u':List Bool),(∀s∈l,s.Page<12)->u.length=12->zfV l u=some u'->cz l+bit u=bit u'
 | [],u,u',_,_,h=>by cases h;simp[cz]
 | s :: l,u,u',hs,hu,h=>by
  simp only[zfV]at h;rw[zpM];cases h1:ilt s.Page 0
  .have h1:=jZ h1;rw[show ilt s.Page 0=false from qK (by omega)]at h
   simp only[cF]at h;cases h2:ix u s.Page false
   .rw [h2]at h;simp only[cF]at h;have hlt:s.Page.toNat<u.length:=by have:=hs s (by simp);omega
    have ih:=zuX l _ u' (fun t ht=>hs t (by simp[ht])) (by simpa using hu) h
    have e:bit (up u s.Page true)=bif ieq s.Page 0 then 1 else bit u:=by
     unfold bit;rw[zSm (by omega) hlt]
     cases ieq s.Page 0<;>rfl
    rw[e] at ih;cases h3:ieq s.Page 0
    .rw [h3] at ih;simp only[cF] at ih ⊢;omega
    .have h4:s.Page=0:=by simpa [ieq] using h3
     rw[h4]at h2;have:bit u=0:=by unfold bit;rw[h2];rfl
     rw[h3] at ih;simp only[cT] at ih ⊢;omega
   .rw [h2]at h;cases h
  .have h1':=qJ h1;rw[h1]at h;simp only[cT]at h;have ih:=zuX l u u' (fun t ht=>hs t (by simp[ht])) hu h
   have:ieq s.Page 0=false:=by simp[ieq];omega
   rw[this];simpa using ih
theorem zGC:∀(l:List Mon) (u:List Bool),u.length=12->zil l u=true->zH l+bit u<=1
 | [],u,_,_=>by unfold zH bit;cases ix u 0 false<;>simp
 | m :: l,u,hu,h=>by
  simp only[zil]at h;cases h1:zc8 m
  .rw [h1]at h;cases h
  .rw [h1]at h;simp only[cT]at h;cases h2:zfV m.Outer u with
   | none=>rw[h2]at h;cases h
   | some u' =>
    rw[h2]at h;have e:=zuX _ _ _ (zvr (ziy h1)) hu h2;have ih:=zGC l u' ((zkk _ _ _ h2).trans hu) h;simp only[zH];omega
theorem zMU:∀(l:List Slot) (b:Nat) (s:Slot),l[b]?=some s->s.Page=0->cz (l.set b noSlot)+1=cz l
 | [],b,s,h,_=>by simp at h
 | t :: l,0,s,h,hs=>by
  simp only[qF,qC]at h;subst h;rw[List.set_cons_zero,zpM,zpM];have:ieq t.Page 0=true:=by simp[ieq,hs]
  rw[this];rfl
 | t :: l,b+1,s,h,hs=>by
  rw[List.set_cons_succ,zpM,zpM];have:=zMU l b s (by simpa using h) hs
  omega
theorem zIO:∀(l:List Mon) (a:Nat) (x y:Mon),l[a]?=some x->zH (l.set a y)+cz x.Outer=zH l+cz y.Outer
 | [],a,x,y,h=>by simp at h
 | m :: l,0,x,y,h=>by
  simp only[qF,qC]at h;subst h;rw[List.set_cons_zero];simp only[zH];omega
 | m :: l,a+1,x,y,h=>by
  rw[List.set_cons_succ];have:=zIO l a x y (by simpa using h)
  simp only[zH];omega
theorem zK1 {l:List Slot}(h:cz l=0):zqV l 0=none:=by
 unfold zqV;rw[List.findIdx?_eq_none_iff];intro s hs;have:=(List.countP_eq_zero.1 h) s hs;simpa using this
theorem zAK:∀(l:List Mon) (i:Nat),zH l=0->ziQ 0 l i=(-1,-1)
 | [],_,_=>rfl
 | m :: l,i,h=>by
  simp only[zH]at h;simp only[ziQ];rw[zK1 (by omega)]
  exact zAK l (i+1) (by omega)
theorem zK2 {l:List Slot}{k:Nat}(h:zqV l 0=some k):∃s,l[k]?=some s/\s.Page=0:=by
 unfold zqV at h;rw[List.findIdx?_eq_some_iff_getElem]at h;obtain ⟨hlt,h1,_⟩:=h;exact ⟨l[k],qB hlt,by simpa [ieq] using h1⟩
theorem zwy:∀(l:List Mon) (i:Nat),ziQ 0 l i=(-1,-1)\/∃a b x s,ziQ 0 l i=(((i+a:Nat):Int),((b:Nat):Int))/\l[a]?=some x/\x.Outer[b]?=some s/\s.Page=0
 | [],_=>.inl rfl
 | m :: l,i=>by
  simp only[ziQ];cases h:zqV m.Outer 0 with
  | none =>
   rcases zwy l (i+1) with h1|⟨a,b,x,s,h1,h2,h3,h4⟩
   .exact .inl h1
   .refine .inr ⟨a+1,b,x,s,?_,by simpa using h2,h3,h4⟩
    have e:i+1+a=i+(a+1):=by omega
    rw[h1,e]
  | some k =>
   obtain ⟨s,h1,h2⟩:=zK2 h;exact .inr ⟨0,k,m,s,rfl,rfl,h1,h2⟩
def Fit (h:Host):Prop:=Shape h/\0<h.Memory.length/\zH h.Mons<=1
theorem zwt {h:Host}(hm:0<h.Memory.length)(ho:ilt (zcw h 0).1 0=true):inb 0 (ln (zbV h))=true:=by
 unfold zbV;obtain ⟨n,hn⟩:∃n,h.Memory.length=n+1:=⟨h.Memory.length-1,by omega⟩
 rw[hn];simp only[zxZ];rw[show ilt (zcw h ((0:Nat):Int)).1 0=true from ho]
 exact qN (by simp only[cT,ln,qY];omega)
theorem zK7 {h:Host}(hm:0<h.Memory.length)(h0:ieq (ln (zbV h)) 0=true):ilt (zcw h 0).1 0=false:=by
 cases ho:ilt (zcw h 0).1 0
 .rfl
 .have h1:=qJ (zwt hm ho);have h2:ln (zbV h)=0:=by simpa [ieq] using h0
  omega
def zcs (h:Host):Host:=bif ieq (ln (zbV h)) 0 then zdN h (zcw h 0).1 (zcw h 0).2 else h
structure Room (h r:Host):Prop where
 shape:Shape r
 free:inb 0 (ln (zbV r))=true
 len:r.Mons.length=h.Mons.length
 outer:∀m,(ix r.Mons m mZ).Outer.length=8\/True
theorem zNw {h:Host}(hf:Fit h)(h0:ieq (ln (zbV h)) 0=true):∃(a b:Nat) (x:Mon) (s:Slot),zcw h 0=((a:Int),(b:Int))/\h.Mons[a]?=some x/\x.Outer[b]?=some s/\s.Page=0:=by
 have h1:=zK7 hf.2.1 h0;have e:zcw h 0=ziQ 0 h.Mons 0:=rfl;rcases zwy h.Mons 0 with h2|⟨a,b,x,s,h2,h3⟩
 .rw [e,h2]at h1;cases h1
 .exact ⟨a,b,x,s,by rw[e,h2,jY],h3⟩
theorem zvk {h:Host}(hf:Fit h)(h0:ieq (ln (zbV h)) 0=true):hasB (zcw h 0).1 (ln h.Mons)=true/\hasB (zcw h 0).2 8=true:=by
 obtain ⟨a,b,x,s,h1,h2,h3,h4⟩:=zNw hf h0;rw[h1];have ha:=(qA.1 h2).1;have hb:=(qA.1 h3).1;have hx:=hf.1.2 x (qI h2);refine ⟨qN (by simp only[ln];omega),qN ?_⟩
 have:=hx.1
 show 0<=(b:Int)/\(b:Int)<8
 omega
theorem room {h:Host}(hf:Fit h):Room h (zcs h):=by
 unfold zcs;cases h0:ieq (ln (zbV h)) 0
 .refine ⟨hf.1,qN ?_,rfl,fun _=>.inr trivial⟩;have:ln (zbV h)≠0:=by simpa [ieq] using h0
  show 0<=(0:Int)/\(0:Int)<ln (zbV h)
  simp only[ln] at *;omega
 .obtain ⟨hm,hp⟩:=zvk hf h0;obtain ⟨a,b,x,s,h1,h2,h3,h4⟩:=zNw hf h0;simp only[cT];rw[h1]at hm hp ⊢;have ha:=(qA.1 h2).1;have hb:=(qA.1 h3).1;have hxa:ix h.Mons (a:Int) mZ=x:=by rw[zbc ha];exact (qA.1 h2).2
  have hmons:=(zd8 (zdT h (a:Int) (b:Int)) (a:Int) (b:Int) noSlot).1;have ex:ix (zdT h (a:Int) (b:Int)).Mons (a:Int) mZ={ x with Out:=up x.Out (b:Int) (zfm h.Memory (ix x.Outer (b:Int) sZ).Page) }:=by
   unfold zdT;rw[zdp ha,hxa]
  obtain ⟨y,hM,hy⟩:∃y,(zdN h (a:Int) (b:Int)).Mons=h.Mons.set a y/\y.Outer=x.Outer.set b noSlot:=by
   unfold zdN;rw[hmons,ex];unfold zdT;rw[zrP];exact ⟨_,by simp[up];rfl,by simp[up]⟩
  have hz:zH (zdN h (a:Int) (b:Int)).Mons=0:=by
   have e1:=zIO h.Mons a x y h2;have e2:=zMU x.Outer b s h3 h4;have e3:=hf.2.2;rw[hM];rw[hy] at e1;omega
  have hmem:(zdN h (a:Int) (b:Int)).Memory=h.Memory:=(zd8 (zdT h (a:Int) (b:Int)) (a:Int) (b:Int) noSlot).2;refine ⟨zLY hf.1 hm,zwt (by rw[hmem];exact hf.2.1) ?_,by rw[hM];simp,fun _=>.inr trivial⟩
  have e:zcw (zdN h (a:Int) (b:Int)) 0=ziQ 0 (zdN h (a:Int) (b:Int)).Mons 0:=rfl;rw[e,zAK _ _ hz];rfl
theorem zIh {m:List (List Int)}{p:Int}{c:List Int}(h:SmM m)(hc:c.length<=1048576):SmM (zgl m p c):=by
 unfold zgl;cases hasB p (ln m)
 .exact h
 .cases zb0 c
  .exact h
  .exact zA3 h hc
def landing (r:Host)(m p to:Int):Host:={ r with Memory:=zgl r.Memory to (ix (ix r.Mons m mZ).Out p []),Mons:=up r.Mons m { ix r.Mons m mZ with Out:=up (ix r.Mons m mZ).Out p [] } }
def zgY (r:Host)(m p to:Int):Host:=zdh (landing r m p to) m p ⟨to,3⟩
def fetched (h:Host)(m p:Int):Host:=zgY (zcs h) m p (ix (zbV (zcs h)) 0 0)
theorem zIi {r:Host}{m p:Int}(hr:Shape r)(hm:hasB m (ln r.Mons)=true)(hp:hasB p 8=true):(ix (ix r.Mons m mZ).Out p []).length<=1048576:=by
 obtain ⟨g1,g2⟩:=zbx hr hm;exact g1.2.1.2 _ (zb7 (zcg g2.2.1 hp) _)
theorem zmm {r:Host}{m p to:Int}(hr:Shape r)(hm:hasB m (ln r.Mons)=true)(hp:hasB p 8=true):Shape (landing r m p to):=by
 obtain ⟨g1,g2⟩:=zbx hr hm;exact zEm (h:={ r with Mons:=up r.Mons m { ix r.Mons m mZ with Out:=up (ix r.Mons m mZ).Out p [] } }) (zfH (x:={ ix r.Mons m mZ with Out:=up (ix r.Mons m mZ).Out p [] }) hr ⟨g1.1,zA3 g1.2.1 (by simp),g1.2.2⟩ ⟨g2.1,by simpa using g2.2.1,g2.2.2⟩) (zIh hr.1.1 (zIi hr hm hp))
theorem zFi {r:Host}{m p to:Int}(hr:Shape r)(hm:hasB m (ln r.Mons)=true)(hp:hasB p 8=true):Shape (zgY r m p to):=zmn (zdD hm) (zmm hr hm hp)
theorem zkM {h:Host}(hf:Fit h){m:Int}(hm:hasB m (ln h.Mons)=true):hasB m (ln (zcs h).Mons)=true:=by
 rw[ln,(room hf).len];exact hm
theorem ziW {h:Host}{m p:Int}(hf:Fit h)(hm:hasB m (ln h.Mons)=true)(hp:hasB p 8=true):Shape (fetched h m p)/\hasB m (ln (fetched h m p).Mons)=true :=
 ⟨zFi (room hf).shape (zkM hf hm) hp,zwu (zdD (zkM hf hm))⟩
@[simp] abbrev zuL (h:Host)(m p:Int):Bool:=pc (Fit h/\hasB m (ln h.Mons)=true/\hasB p 8=true)
@[simp] abbrev zvp (h:Host)(m p:Int):Host:=fetched h m p
def zpn:List AV->Option (Bool×List AV)
 | [.agg [.s (.sl .int) b,.s .mon c,.s .entry d,.s .entry e],.one (.i .i64 f),.one (.i .i64 g)]=>some ((zuL (⟨b,c,d,e⟩:Host) f g),[aH (zvp (⟨b,c,d,e⟩:Host) f g)])
 | _=>none
def zs7 (N:Nat)(a0:Host)(a1 a2:Int):OA:=
 let y6:=(ix (zds a0) 0 0);let y2:=(ix a0.Mons a1 zi);let y0:=(zyp a0 (zee a0 0) (zfo a0 0));let y5:=(ix (zds y0) 0 0);let y1:=(ix y0.Mons a1 zi); (oN (zh1 a0) (cond (ieq (ln (zds a0)) 0) (oN (zgQ a0 0) (oN (zrK a0 (zee a0 0) (zfo a0 0)) (oN (zh1 y0) (oN (inb 0 (ln (zds y0))) (oN (inb a1 (ln y0.Mons)) (oN (inb a2 (ln y1.Out)) (oN (zhl y0.Memory y5 (ix y1.Out a2 [])) (oN (inb a1 (ln y0.Mons)) (oN (inb a2 (ln y1.Out)) (share (up y0.Mons a1 ({ y1 with Out:=(up y1.Out a2 []) }:Mon)) (fun x4=>let y3:=({ y0 with Memory:=(zgj y0.Memory y5 (ix y1.Out a2 [])),Mons:=x4 }:Host); (oN (zdV y3 a1 a2 (⟨y5,3⟩:Slot)) (some [(aH (zfu y3 a1 a2 (⟨y5,3⟩:Slot)))]))))))))))))) (oN (zh1 a0) (oN (inb 0 (ln (zds a0))) (oN (inb a1 (ln a0.Mons)) (oN (inb a2 (ln y2.Out)) (oN (zhl a0.Memory y6 (ix y2.Out a2 [])) (oN (inb a1 (ln a0.Mons)) (oN (inb a2 (ln y2.Out)) (share (up a0.Mons a1 ({ y2 with Out:=(up y2.Out a2 []) }:Mon)) (fun x4=>let y4:=({ a0 with Memory:=(zgj a0.Memory y6 (ix y2.Out a2 [])),Mons:=x4 }:Host); (oN (zdV y4 a1 a2 (⟨y6,3⟩:Slot)) (some [(aH (zfu y4 a1 a2 (⟨y6,3⟩:Slot)))])))))))))))))
theorem zLu (N:Nat)(a0:Host)(a1 a2:Int):zu7 (cQ zk4 zjX zLz zL6) (zo []) N 12 330 [true,true,true,true,false,false] 1 1 [[0],[1],[2],[4],[7]] .mon [aH a0,aI a1,aI a2]=zs7 N a0 a1 a2:=by kernel_rfl
theorem zJt (a0:Host)(a1 a2:Int)(hb:zbu big [aH a0,aI a1,aI a2])(hc:zuL a0 a1 a2=true):∃N,zs7 N a0 a1 a2=some [aH (zvp a0 a1 a2)]:=by
 obtain ⟨hf,hm,hp⟩:=zC.1 hc;have tail:∀r,Shape r->inb 0 (ln (zbV r))=true->hasB a1 (ln r.Mons)=true->(cond (zh1 r) (cond (inb 0 (ln (zds r))) (cond (inb a1 (ln r.Mons)) (cond (inb a2 (ln (ix r.Mons a1 zi).Out)) (cond (zhl r.Memory (ix (zds r) 0 0) (ix (ix r.Mons a1 zi).Out a2 [])) (cond (inb a1 (ln r.Mons)) (cond (inb a2 (ln (ix r.Mons a1 zi).Out)) (share (up r.Mons a1 ({ (ix r.Mons a1 zi) with Out:=(up (ix r.Mons a1 zi).Out a2 []) }:Mon)) (fun x4=>(cond (zdV ({ r with Memory:=(zgj r.Memory (ix (zds r) 0 0) (ix (ix r.Mons a1 zi).Out a2 [])),Mons:=x4 }:Host) a1 a2 (⟨(ix (zds r) 0 0),3⟩:Slot)) (some [(AV.agg (zbi (zfu ({ r with Memory:=(zgj r.Memory (ix (zds r) 0 0) (ix (ix r.Mons a1 zi).Out a2 [])),Mons:=x4 }:Host) a1 a2 (⟨(ix (zds r) 0 0),3⟩:Slot))))]) none))) none) none) none) none) none) none) none)=some [AV.agg (zbi (zgY r a1 a2 (ix (zbV r) 0 0)))]:=by
  intro r hr hfree hrm;obtain ⟨g1,g2⟩:=zbx hr hrm;have hL:=zmm (to:=ix (zbV r) 0 0) hr hrm hp;obtain ⟨k,rfl,hk⟩:=zcO (n:=r.Mons.length) hrm;refine must (zbh hr.1.1.1) (must hfree (must (zA hrm) (must (zA (zcg g2.2.1 hp)) (must (zbh ⟨hr.1.1,zIi hr hrm hp⟩) (must (zA hrm) (must (zA (zcg g2.2.1 hp)) (shr (must (zbh ⟨(zbI _).2 hL.1,zdD hrm,?_,?_⟩) rfl))))))))
  .simp only [zdp hk];exact zcg g2.1 hp
  .simp only [zdp hk];exact uA g2.2.2.2
 have hR:=room hf;have hrm:=zkM hf hm;refine ⟨0,?_⟩;unfold zs7 zvp fetched oN
 conv=>zeta
 refine must (zbh hf.1.1.1.1) ?_;cases h0:ieq (ln (zds a0)) 0
 .have er:zcs a0=a0:=by unfold zcs;rw[show ieq (ln (zbV a0)) 0=false from h0];rfl
  rw[er]at hR hrm ⊢;exact tail a0 hR.shape hR.free hrm
 .obtain ⟨o1,o2⟩:=zvk hf h0;have er:zcs a0=zdN a0 (zcw a0 0).1 (zcw a0 0).2:=by unfold zcs;rw[show ieq (ln (zbV a0)) 0=true from h0];rfl
  rw[er]at hR hrm ⊢;exact must rfl (must rfl (must (zbh ⟨hf.1,o1,o2⟩) (tail _ hR.shape hR.free hrm)))
theorem zEI:zcP Tryz.prog 330 [true,true,true,true,false,false] (some (1,1,[[0],[1],[2],[4],[7]])) zpn:=by
 refine zhL (kt:=.mon) (zb3 zfx zq zDe zDo) (zcX (by kernel_rfl)) (by kernel_rfl) ?_
 intro avs rs hl hr h;have hb:=zfL hr;unfold zpn at h;split at h
 .obtain ⟨hc,rfl⟩:=zhu h;obtain ⟨N,hN⟩:=zJt _ _ _ (by exact hb) hc
  exact ⟨⟨_,rfl⟩,rfl,_,N,12,(zLu N _ _ _ ).trans hN⟩
 .cases h
@[simp] abbrev zl1 (h:Host):Bool:=pc (Shape h/\hasB (zcw h 0).1 (ln h.Mons)=true/\hasB (zcw h 0).2 8=true)
@[simp] abbrev zl2 (h:Host):Host:=zdN h (zcw h 0).1 (zcw h 0).2
def zi8:List CV->List AV->Option (Bool×List CV×List AV)
 | [.s (.sl .int) b,.s .mon c,.s .entry d,.s .entry e],[]=>some ((zl1 (⟨b,c,d,e⟩:Host)),zbi (zl2 (⟨b,c,d,e⟩:Host)),[])
 | _,_=>none
def zlT (N:Nat)(c:Host)  : OA :=
 (oN (zgO c 0) (oN (zxX c (zed c 0) (zfi c 0)) (some [(aH (zxY c (zed c 0) (zfi c 0)))])))
theorem zC8 (N:Nat)(c:Host)  : zeb (cQ zk4 zjX zLz zL6) (zo []) N 12 325 [true,true,true,true] (zbi c) []=zlT N c:=by kernel_rfl
theorem zAt (c:Host)(hb:zbu big (.agg (zbi c) :: []))(hc:zl1 c=true):∃N,zlT N c=some (.agg (zbi (zl2 c)) :: []):=by
 have hs:=zC.1 hc;refine ⟨0,?_⟩;unfold zlT oN;exact must rfl (must (zbh hs) rfl)
theorem zvI:zcx Tryz.prog 325 [true,true,true,true] zi8:=by
 refine zbv (zb3 zfx zq zDe zDo) (zcX (by kernel_rfl)) ?_
 intro cs avs cs' rs hl hr h;have hb:=zbD hr;unfold zi8 at h;split at h
 .obtain ⟨hc,rfl,rfl⟩:=zbR h;obtain ⟨N,hN⟩:=zAt _ (by exact hb) hc
  exact ⟨rfl,_,N,12,(zC8 N _ ).trans hN⟩
 .cases h
def zO5:zco:=[(325,([true,true,true,true],zi8))]++zLz
theorem zKl:zbJ zO5:=zcT zDe (by
 intro x hx;simp only[qG,qU,or_false]at hx;rcases hx with rfl
 .exact zvI)
def zIp:zdl:=[(330,([true,true,true,true,false,false],(some (1,1,[[0],[1],[2],[4],[7]])),zpn))]++zL6
theorem zvt:zcR zIp:=zkU zDo (by
 intro x hx;simp only[qG,qU,or_false]at hx;rcases hx with rfl
 .exact zEI)
@[simp] abbrev ztC (h:Host)(m p:Int):Bool:=pc (Fit h/\hasB m (ln h.Mons)=true/\hasB p 8=true)
@[simp] abbrev zow (h:Host)(m p:Int):Host:=fetched h m p
theorem zKL {r:Host}{m p to:Int}(hr:Shape r)(hm:hasB m (ln r.Mons)=true):zrm { landing r m p to with Mons:=up (landing r m p to).Mons m { ix (landing r m p to).Mons m mZ with Outer:=up (ix (landing r m p to).Mons m mZ).Outer p ⟨to,3⟩ } } m p (ix (ix (landing r m p to).Mons m mZ).Outer p sZ)=zgY r m p to:=by
 obtain ⟨g1,g2⟩:=zbx hr hm;obtain ⟨k,rfl,hk⟩:=zcO (n:=r.Mons.length) hm;refine zrM (h:=landing r (k:Int) p to) (by simpa [landing] using hk) ?_
 unfold landing;simp only[zdp hk];exact g2.2.2.2
theorem zJM {r:Host}{m p to:Int}(hr:Shape r)(hm:hasB m (ln r.Mons)=true)(hp:hasB p 8=true):Shape { landing r m p to with Mons:=up (landing r m p to).Mons m { ix (landing r m p to).Mons m mZ with Outer:=up (ix (landing r m p to).Mons m mZ).Outer p ⟨to,3⟩ } }:=by
 have hL:=zmm (to:=to) hr hm hp;obtain ⟨q1,q2⟩:=zbx hL (zdD hm);exact zfH hL ⟨by simpa using q1.1,q1.2⟩ ⟨by simpa using q2.1,q2.2⟩
def znM:List CV->List AV->Option (Bool×List CV×List AV)
 | [.s (.sl .int) b,.s .mon c,.s .entry d,.s .entry e],[.one (.i .i64 f),.one (.i .i64 g)]=>some ((ztC (⟨b,c,d,e⟩:Host) f g),zbi (zow (⟨b,c,d,e⟩:Host) f g),[])
 | _,_=>none
def zsY (N:Nat)(c:Host)(a0 a1:Int):OA:=
 let y8:=(ix (zdK c) 0 0);let y6:=(zl2 c);let y7:=(ix (zdK y6) 0 0);let y1:=(ix c.Mons a0 zi);let y0:=(ix y6.Mons a0 zi); (oN (zhO c) (cond (ieq (ln (zdK c)) 0) (oN (zl1 c) (oN (inb a0 (ln y6.Mons)) (oN (zhO y6) (oN (inb 0 (ln (zdK y6))) (oN (inb a1 (ln y0.Out)) (oN (zhe y6.Memory y7 (ix y0.Out a1 [])) (oN (inb a1 (ln y0.Out)) (share (up y6.Mons a0 ({ y0 with Out:=(up y0.Out a1 []) }:Mon)) (fun x4=>let y2:=(ix x4 a0 zi);let y9:=(ix y2.Outer a1 zM); (oN (inb a1 (ln y2.Outer)) (oN (inb a1 (ln y2.Outer)) (share (up x4 a0 ({ y2 with Outer:=(up y2.Outer a1 (⟨y7,3⟩:Slot)) }:Mon)) (fun x5=>let y4:=({ y6 with Memory:=(zf8 y6.Memory y7 (ix y0.Out a1 [])),Mons:=x5 }:Host); (oN (zc0 y4 a0 a1 y9) (some [(aH (zc1 y4 a0 a1 y9))]))))))))))))))) (oN (inb a0 (ln c.Mons)) (oN (zhO c) (oN (inb 0 (ln (zdK c))) (oN (inb a1 (ln y1.Out)) (oN (zhe c.Memory y8 (ix y1.Out a1 [])) (oN (inb a1 (ln y1.Out)) (share (up c.Mons a0 ({ y1 with Out:=(up y1.Out a1 []) }:Mon)) (fun x4=>let y3:=(ix x4 a0 zi);let y10:=(ix y3.Outer a1 zM); (oN (inb a1 (ln y3.Outer)) (oN (inb a1 (ln y3.Outer)) (share (up x4 a0 ({ y3 with Outer:=(up y3.Outer a1 (⟨y8,3⟩:Slot)) }:Mon)) (fun x5=>let y5:=({ c with Memory:=(zf8 c.Memory y8 (ix y1.Out a1 [])),Mons:=x5 }:Host); (oN (zc0 y5 a0 a1 y10) (some [(aH (zc1 y5 a0 a1 y10))]))))))))))))))))
theorem zLs (N:Nat)(c:Host)(a0 a1:Int):zeb (cQ zk4 zjX zO5 zIp) (zo []) N 12 245 [true,true,true,true] (zbi c) [aI a0,aI a1]=zsY N c a0 a1:=by kernel_rfl
theorem zJk (c:Host)(a0 a1:Int)(hb:zbu big (.agg (zbi c) :: [aI a0,aI a1]))(hc:ztC c a0 a1=true):∃N,zsY N c a0 a1=some (.agg (zbi (zow c a0 a1)) :: []):=by
 obtain ⟨hf,hm,hp⟩:=zC.1 hc;have tail:∀r,Shape r->inb 0 (ln (zbV r))=true->hasB a0 (ln r.Mons)=true->(cond (inb a0 (ln r.Mons)) (cond (zhO r) (cond (inb 0 (ln (zdK r))) (cond (inb a1 (ln (ix r.Mons a0 zi).Out)) (cond (zhe r.Memory (ix (zdK r) 0 0) (ix (ix r.Mons a0 zi).Out a1 [])) (cond (inb a1 (ln (ix r.Mons a0 zi).Out)) (share (up r.Mons a0 ({ (ix r.Mons a0 zi) with Out:=(up (ix r.Mons a0 zi).Out a1 []) }:Mon)) (fun x4=>(cond (inb a1 (ln (ix x4 a0 zi).Outer)) (cond (inb a1 (ln (ix x4 a0 zi).Outer)) (share (up x4 a0 ({ (ix x4 a0 zi) with Outer:=(up (ix x4 a0 zi).Outer a1 (⟨(ix (zdK r) 0 0),3⟩:Slot)) }:Mon)) (fun x5=>(cond (zc0 ({ r with Memory:=(zf8 r.Memory (ix (zdK r) 0 0) (ix (ix r.Mons a0 zi).Out a1 [])),Mons:=x5 }:Host) a0 a1 (ix (ix x4 a0 zi).Outer a1 zM)) (some [(AV.agg (zbi (zc1 ({ r with Memory:=(zf8 r.Memory (ix (zdK r) 0 0) (ix (ix r.Mons a0 zi).Out a1 [])),Mons:=x5 }:Host) a0 a1 (ix (ix x4 a0 zi).Outer a1 zM))))]) none))) none) none))) none) none) none) none) none) none)=some [AV.agg (zbi (zgY r a0 a1 (ix (zbV r) 0 0)))]:=by
  intro r hr hfree hrm;obtain ⟨g1,g2⟩:=zbx hr hrm;have hL:=zJM (to:=ix (zbV r) 0 0) hr hrm hp;have hE:=zKL (p:=a1) (to:=ix (zbV r) 0 0) hr hrm;obtain ⟨k,rfl,hk⟩:=zcO (n:=r.Mons.length) hrm;have hh:∀(x y:Mon),hasB (k:Int) (ln (up (up r.Mons (k:Int) x) (k:Int) y))=true:=fun x y=>by simpa [ln] using hrm
  have hi:inb a1 (ln (ix (up r.Mons (k:Int) { ix r.Mons (k:Int) mZ with Out:=up (ix r.Mons (k:Int) mZ).Out a1 [] }) (k:Int) mZ).Outer)=true:=by
   rw[zdp hk];exact zA (zcg g2.1 hp)
  refine must (zA hrm) (must (zbh hr.1.1.1) (must hfree (must (zA (zcg g2.2.1 hp)) (must (zbh ⟨hr.1.1,zIi hr hrm hp⟩) (must (zA (zcg g2.2.1 hp)) (shr (must hi (must hi (shr (must (zbh ⟨hL,hh _ _⟩) ?_))))))))));exact congrArg (fun x=>some [AV.agg (zbi x)]) hE
 have hR:=room hf;have hrm:=zkM hf hm;refine ⟨0,?_⟩;unfold zsY zow fetched oN
 conv=>zeta
 refine must (zbh hf.1.1.1.1) ?_;cases h0:ieq (ln (zdK c)) 0
 .have er:zcs c=c:=by unfold zcs;rw[show ieq (ln (zbV c)) 0=false from h0];rfl
  rw[er]at hR hrm ⊢;exact tail c hR.shape hR.free hrm
 .obtain ⟨o1,o2⟩:=zvk hf h0;have er:zcs c=zdN c (zcw c 0).1 (zcw c 0).2:=by unfold zcs;rw[show ieq (ln (zbV c)) 0=true from h0];rfl
  rw[er]at hR hrm ⊢;exact must rfl (must (zbh ⟨hf.1,o1,o2⟩) (tail _ hR.shape hR.free hrm))
theorem zEA:zcx Tryz.prog 245 [true,true,true,true] znM:=by
 refine zbv (zb3 zfx zq zKl zvt) (zcX (by kernel_rfl)) ?_
 intro cs avs cs' rs hl hr h;have hb:=zbD hr;unfold znM at h;split at h
 .obtain ⟨hc,rfl,rfl⟩:=zbR h;obtain ⟨N,hN⟩:=zJk _ _ _ (by exact hb) hc
  exact ⟨rfl,_,N,12,(zLs N _ _ _ ).trans hN⟩
 .cases h
def zLA:zco:=[(245,([true,true,true,true],znM))]++zO5
theorem zDf:zbJ zLA:=zcT zKl (by
 intro x hx;simp only[qG,qU,or_false]at hx;rcases hx with rfl
 .exact zEA)
def zbn (h:Host)(m p:Int):Host:={ h with Mons:=up h.Mons m { ix h.Mons m mZ with Dirty:=up (ix h.Mons m mZ).Dirty p true } }
def opened (h:Host)(m p:Int):Host:=bif ieq (wand .i64 (ix (ix h.Mons m mZ).Outer p sZ).Rights 2) 0 then zdh h m p ⟨(ix (ix h.Mons m mZ).Outer p sZ).Page,3⟩ else h
def zhX (h:Host)(m p n:Int):Host:=bif ieq (wand .i64 n 2) 0 then h else opened (zbn h m p) m p
def mended (h:Host)(m p n:Int):Host:=bif ieq (ix (ix h.Mons m mZ).Outer p sZ).Page (-1) then zhX (fetched h m p) m p n else zhX h m p n
theorem zRk {r:Int}(h0:0<=r)(h3:r<=3):enough r 2 = !ieq (wand .i64 r 2) 0:=by
 have:r=0\/r=1\/r=2\/r=3:=by omega
 rcases this with rfl|rfl|rfl|rfl<;>rfl
structure SlotFit (s:Slot):Prop where
 no:zcV s noSlot=ieq s.Page (-1)
 lo:0<=s.Rights
 hi:s.Rights<=3
theorem zLZ {s:Slot}{n:Int}(h:zdv s n=true):SlotFit s:=by
 refine ⟨zNN h,?_,?_⟩<;>unfold zdv at h<;>cases h1:zcV s noSlot
 .rw [h1]at h;simp only[cF,zcF]at h;have:=(zep.1 h.2.2).1;omega
 .unfold zcV at h1;rw[qD]at h1;have:s.Rights=0:=qJ h1.2;omega
 .rw [h1]at h;simp only[cF,zcF]at h;have:=(zep.1 h.2.2).2;omega
 .unfold zcV at h1;rw[qD]at h1;have:s.Rights=0:=qJ h1.2;omega
theorem ziV {h:Host}{m p:Int}(hs:Shape h)(hm:hasB m (ln h.Mons)=true):Shape (zbn h m p):=by
 obtain ⟨g1,g2⟩:=zbx hs hm;exact zfH hs ⟨g1.1,g1.2.1,by simpa using g1.2.2.1,g1.2.2.2⟩ ⟨g2.1,g2.2.1,by simpa using g2.2.2.1,g2.2.2.2⟩
theorem zIc {h:Host}{m p:Int}(hs:Shape h)(hm:hasB m (ln h.Mons)=true):Shape (opened h m p)/\hasB m (ln (opened h m p).Mons)=true:=by
 unfold opened;cases ieq (wand .i64 (ix (ix h.Mons m mZ).Outer p sZ).Rights 2) 0
 .exact ⟨hs,hm⟩
 .exact ⟨zmn hm hs,zwu hm⟩
theorem zwZ {h:Host}{m p n:Int}(hs:Shape h)(hm:hasB m (ln h.Mons)=true):Shape (zhX h m p n)/\hasB m (ln (zhX h m p n).Mons)=true:=by
 unfold zhX;cases ieq (wand .i64 n 2) 0
 .exact zIc (ziV hs hm) (zdD hm)
 .exact ⟨hs,hm⟩
theorem zIb {h:Host}{m p n:Int}(hf:Fit h)(hm:hasB m (ln h.Mons)=true)(hp:hasB p 8=true):Shape (mended h m p n)/\hasB m (ln (mended h m p n).Mons)=true:=by
 unfold mended;cases ieq (ix (ix h.Mons m mZ).Outer p sZ).Page (-1)
 .exact zwZ hf.1 hm
 .obtain ⟨h1,h2⟩:=ziW hf hm hp;exact zwZ h1 h2
theorem zGn {h:Host}{m p:Int}(hf:Fit h)(hm:hasB m (ln h.Mons)=true)(hp:hasB p 8=true):(ix (ix (fetched h m p).Mons m mZ).Outer p sZ).Rights=3:=by
 have hR:=room hf;have hrm:=zkM hf hm;obtain ⟨g1,g2⟩:=zbx hR.shape hrm;obtain ⟨k,rfl,hk⟩:=zcO (n:=(zcs h).Mons.length) hrm;obtain ⟨q,rfl,hq⟩:=zcO (n:=8) hp;unfold fetched zgY;rw[(zd8 _ _ _ _).1];have hk':k<(landing (zcs h) (k:Int) (q:Int) (ix (zbV (zcs h)) 0 0)).Mons.length:=by simpa [landing] using hk
 rw[zdp hk'];have ho:q<(ix (landing (zcs h) (k:Int) (q:Int) (ix (zbV (zcs h)) 0 0)).Mons (k:Int) mZ).Outer.length:=by
  unfold landing;rw[zdp hk]
  show q<(ix (zcs h).Mons (k:Int) mZ).Outer.length
  rw[g2.1];exact hq
 show (ix (up (ix (landing (zcs h) (k:Int) (q:Int) (ix (zbV (zcs h)) 0 0)).Mons (k:Int) mZ).Outer (q:Int) ⟨_,3⟩) (q:Int) sZ).Rights=3
 rw[zdp ho]
def zFT (h:Host)(m p n:Int):Prop:=Fit h/\hasB m (ln h.Mons)=true/\hasB p 8=true/\(n=1\/n=2)/\SlotFit (ix (ix h.Mons m mZ).Outer p sZ)
@[simp] abbrev zps (h:Host)(m p n:Int):Bool:=pc (zFT h m p n)
@[simp] abbrev zlK (h:Host)(m p n:Int):Host:=mended h m p n
def zme:List AV->Option (Bool×List AV)
 | [.agg [.s (.sl .int) b,.s .mon c,.s .entry d,.s .entry e],.one (.i .i64 f),.one (.i .i64 g),.one (.i .i64 h)]=>some ((zps (⟨b,c,d,e⟩:Host) f g h),[aH (zlK (⟨b,c,d,e⟩:Host) f g h)])
 | _=>none
def zo2 (N:Nat)(a0:Host)(a1 a2 a3:Int):OA:=
 let y3:=(zvp a0 a1 a2);let y6:=(ix y3.Mons a1 zi);let y0:=(ix a0.Mons a1 zi);let y7:=(ix y0.Outer a2 zM); (oN (inb a1 (ln a0.Mons)) (oN (inb a2 (ln y0.Outer)) (oN zb2 (cond (cond (ieq y7.Page zbm.Page) (ieq y7.Rights zbm.Rights) false) (oN (zuL a0 a1 a2) (cond (ieq (wand .i64 a3 2) 0) (some [(aH y3)]) (oN (inb a1 (ln y3.Mons)) (oN (inb a2 (ln y6.Dirty)) (share (up y3.Mons a1 ({ y6 with Dirty:=(up y6.Dirty a2 true) }:Mon)) (fun x5=>let y8:=(ix x5 a1 zi).Outer;let y4:=({ y3 with Mons:=x5 }:Host);let y1:=(ix y8 a2 zM);let y9:=({ y1 with Rights:=3 }:Slot); (oN (inb a1 (ln x5)) (oN (inb a2 (ln y8)) (cond (ieq (wand .i64 y1.Rights 2) 0) (oN (zdV y4 a1 a2 y9) (some [(aH (zfu y4 a1 a2 y9))])) (some [(aH y4)])))))))))) (cond (ieq (wand .i64 a3 2) 0) (some [(aH a0)]) (oN (inb a1 (ln a0.Mons)) (oN (inb a2 (ln y0.Dirty)) (share (up a0.Mons a1 ({ y0 with Dirty:=(up y0.Dirty a2 true) }:Mon)) (fun x5=>let y10:=(ix x5 a1 zi).Outer;let y5:=({ a0 with Mons:=x5 }:Host);let y2:=(ix y10 a2 zM);let y11:=({ y2 with Rights:=3 }:Slot); (oN (inb a1 (ln x5)) (oN (inb a2 (ln y10)) (cond (ieq (wand .i64 y2.Rights 2) 0) (oN (zdV y5 a1 a2 y11) (some [(aH (zfu y5 a1 a2 y11))])) (some [(aH y5)])))))))))))))
theorem zHK (N:Nat)(a0:Host)(a1 a2 a3:Int):zu7 (cQ zk4 zjX zLA zIp) (zo []) N 12 264 [true,true,true,true,false,false,false] 1 1 [[0],[1],[2],[4],[7]] .mon [aH a0,aI a1,aI a2,aI a3]=zo2 N a0 a1 a2 a3:=by kernel_rfl
theorem zFb (a0:Host)(a1 a2 a3:Int)(hb:zbu big [aH a0,aI a1,aI a2,aI a3])(hc:zps a0 a1 a2 a3=true):∃N,zo2 N a0 a1 a2 a3=some [aH (zlK a0 a1 a2 a3)]:=by
 obtain ⟨hf,hm,hp,hn,hs⟩:=zC.1 hc;obtain ⟨g1,g2⟩:=zbx hf.1 hm;have tail:∀r,Shape r->hasB a1 (ln r.Mons)=true->(cond (ieq (wand .i64 a3 2) 0) (some [(AV.agg (zbi r))]) (cond (inb a1 (ln r.Mons)) (cond (inb a2 (ln (ix r.Mons a1 zi).Dirty)) (share (up r.Mons a1 ({ (ix r.Mons a1 zi) with Dirty:=(up (ix r.Mons a1 zi).Dirty a2 true) }:Mon)) (fun x5=>(cond (inb a1 (ln x5)) (cond (inb a2 (ln (ix x5 a1 zi).Outer)) (cond (ieq (wand .i64 (ix (ix x5 a1 zi).Outer a2 zM).Rights 2) 0) (cond (zdV ({ r with Mons:=x5 }:Host) a1 a2 ({ (ix (ix x5 a1 zi).Outer a2 zM) with Rights:=3 }:Slot)) (some [(AV.agg (zbi (zfu ({ r with Mons:=x5 }:Host) a1 a2 ({ (ix (ix x5 a1 zi).Outer a2 zM) with Rights:=3 }:Slot))))]) none) (some [(AV.agg (zbi ({ r with Mons:=x5 }:Host)))])) none) none))) none) none))=some [AV.agg (zbi (zhX r a1 a2 a3))]:=by
  intro r hr hrm;obtain ⟨q1,q2⟩:=zbx hr hrm;have hD:=ziV (p:=a2) hr hrm;unfold zhX;cases h0:ieq (wand .i64 a3 2) 0
  .obtain ⟨k,rfl,hk⟩:=zcO (n:=r.Mons.length) hrm;have ex:ix (zbn r (k:Int) a2).Mons (k:Int) mZ={ ix r.Mons (k:Int) mZ with Dirty:=up (ix r.Mons (k:Int) mZ).Dirty a2 true }:=zdp hk _ _;refine ze0 rfl (must (zA hrm) (must (zA (zcg q2.2.2.1 hp)) (shr (must (zA (zdD hrm)) (must ?_ ?_)))))
   .rw [zdp hk];exact zA (zcg q2.1 hp)
   .unfold opened
    show (cond (ieq (wand .i64 (ix (ix (zbn r (k:Int) a2).Mons (k:Int) mZ).Outer a2 sZ).Rights 2) 0) _ _)=_
    cases h1:ieq (wand .i64 (ix (ix (zbn r (k:Int) a2).Mons (k:Int) mZ).Outer a2 sZ).Rights 2) 0
    .rfl
    .refine must rfl (must (zbh ⟨(zbI _).2 hD.1,zdD hrm,?_,?_⟩) rfl)
     .show hasB a2 (ln (ix (zbn r (k:Int) a2).Mons (k:Int) mZ).Outer)=true
      rw[ex];exact zcg q2.1 hp
     .show (ix (zbn r (k:Int) a2).Mons (k:Int) mZ).Tables.length<=(ix (zbn r (k:Int) a2).Mons (k:Int) mZ).Guests.length
      rw[ex];exact uA q2.2.2.2
  .rfl
 refine ⟨0,?_⟩;unfold zo2 zlK mended oN
 conv=>zeta
 refine must (zA hm) (must (zA (zcg g2.1 hp)) (must rfl ?_));have e:(cond (ieq (ix (ix a0.Mons a1 mZ).Outer a2 sZ).Page zbm.Page) (ieq (ix (ix a0.Mons a1 mZ).Outer a2 sZ).Rights zbm.Rights) false)=ieq (ix (ix a0.Mons a1 mZ).Outer a2 sZ).Page (-1):=by
  rw[<- hs.no];unfold zcV zbm;cases ieq (ix (ix a0.Mons a1 mZ).Outer a2 sZ).Page noSlot.Page<;>rfl
 rw[e];cases h0:ieq (ix (ix a0.Mons a1 mZ).Outer a2 sZ).Page (-1)
 .exact tail a0 hf.1 hm
 .obtain ⟨h1,h2⟩:=ziW (p:=a2) hf hm hp;exact must rfl (must (zbh ⟨hf,hm,hp⟩) (tail _ h1 h2))
theorem zz9:zcP Tryz.prog 264 [true,true,true,true,false,false,false] (some (1,1,[[0],[1],[2],[4],[7]])) zme:=by
 refine zhL (kt:=.mon) (zb3 zfx zq zDf zvt) (zcX (by kernel_rfl)) (by kernel_rfl) ?_
 intro avs rs hl hr h;have hb:=zfL hr;unfold zme at h;split at h
 .obtain ⟨hc,rfl⟩:=zhu h;obtain ⟨N,hN⟩:=zFb _ _ _ _ (by exact hb) hc
  exact ⟨⟨_,rfl⟩,rfl,_,N,12,(zHK N _ _ _ _ ).trans hN⟩
 .cases h
@[simp] abbrev zxW (h:Host)(m p n:Int):Bool:=pc (zFT h m p n)
@[simp] abbrev znH (h:Host)(m p n:Int):Host:=mended h m p n
def zpj:List CV->List AV->Option (Bool×List CV×List AV)
 | [.s (.sl .int) b,.s .mon c,.s .entry d,.s .entry e],[.one (.i .i64 f),.one (.i .i64 g),.one (.i .i64 h)]=>some ((zxW (⟨b,c,d,e⟩:Host) f g h),zbi (znH (⟨b,c,d,e⟩:Host) f g h),[])
 | _,_=>none
def zw9 (N:Nat)(c:Host)(a0 a1 a2:Int):OA:=
 let y3:=(zow c a0 a1);let y6:=(ix y3.Mons a0 zi);let y2:=(ix c.Mons a0 zi); (oN (inb a0 (ln c.Mons)) (oN (inb a1 (ln y2.Outer)) (cond (ieq (ix y2.Outer a1 zM).Page (-1)) (oN (ztC c a0 a1) (oN (zcl a2 2) (cond (nB (zcK a2 2)) (some [(aH y3)]) (oN (inb a0 (ln y3.Mons)) (oN (inb a1 (ln y6.Dirty)) (share (up y3.Mons a0 ({ y6 with Dirty:=(up y6.Dirty a1 true) }:Mon)) (fun x5=>let y4:=(ix x5 a0 zi);let y0:=(ix y4.Outer a1 zM); (oN (inb a1 (ln y4.Outer)) (oN (zcl y0.Rights 2) (cond (nB (zcK y0.Rights 2)) (oN (inb a1 (ln y4.Outer)) (share (up x5 a0 ({ y4 with Outer:=(up y4.Outer a1 ({ y0 with Rights:=3 }:Slot)) }:Mon)) (fun x6=>let y7:=({ y3 with Mons:=x6 }:Host); (oN (zc0 y7 a0 a1 y0) (some [(aH (zc1 y7 a0 a1 y0))]))))) (some [(aH ({ y3 with Mons:=x5 }:Host))]))))))))))) (oN (zcl a2 2) (cond (nB (zcK a2 2)) (some [(aH c)]) (oN (inb a0 (ln c.Mons)) (oN (inb a1 (ln y2.Dirty)) (share (up c.Mons a0 ({ y2 with Dirty:=(up y2.Dirty a1 true) }:Mon)) (fun x5=>let y5:=(ix x5 a0 zi);let y1:=(ix y5.Outer a1 zM); (oN (inb a1 (ln y5.Outer)) (oN (zcl y1.Rights 2) (cond (nB (zcK y1.Rights 2)) (oN (inb a1 (ln y5.Outer)) (share (up x5 a0 ({ y5 with Outer:=(up y5.Outer a1 ({ y1 with Rights:=3 }:Slot)) }:Mon)) (fun x6=>let y8:=({ c with Mons:=x6 }:Host); (oN (zc0 y8 a0 a1 y1) (some [(aH (zc1 y8 a0 a1 y1))]))))) (some [(aH ({ c with Mons:=x5 }:Host))])))))))))))))
theorem zNr (N:Nat)(c:Host)(a0 a1 a2:Int):zeb (cQ zk4 zjX zLA zIp) (zo []) N 12 239 [true,true,true,true] (zbi c) [aI a0,aI a1,aI a2]=zw9 N c a0 a1 a2:=by kernel_rfl
theorem zLl (c:Host)(a0 a1 a2:Int)(hb:zbu big (.agg (zbi c) :: [aI a0,aI a1,aI a2]))(hc:zxW c a0 a1 a2=true):∃N,zw9 N c a0 a1 a2=some (.agg (zbi (znH c a0 a1 a2)) :: []):=by
 obtain ⟨hf,hm,hp,hn,hs⟩:=zC.1 hc;obtain ⟨g1,g2⟩:=zbx hf.1 hm;have en:enough a2 2 = !ieq (wand .i64 a2 2) 0:=by rcases hn with rfl|rfl<;>rfl
 have tail:∀r,Shape r->hasB a0 (ln r.Mons)=true->enough (ix (ix r.Mons a0 mZ).Outer a1 sZ).Rights 2=(!ieq (wand .i64 (ix (ix r.Mons a0 mZ).Outer a1 sZ).Rights 2) 0)->(cond (zcl a2 2) (cond (cond (zcK a2 2) false true) (some [(AV.agg (zbi r))]) (cond (inb a0 (ln r.Mons)) (cond (inb a1 (ln (ix r.Mons a0 zi).Dirty)) (share (up r.Mons a0 ({ (ix r.Mons a0 zi) with Dirty:=(up (ix r.Mons a0 zi).Dirty a1 true) }:Mon)) (fun x5=>(cond (inb a1 (ln (ix x5 a0 zi).Outer)) (cond (zcl (ix (ix x5 a0 zi).Outer a1 zM).Rights 2) (cond (cond (zcK (ix (ix x5 a0 zi).Outer a1 zM).Rights 2) false true) (cond (inb a1 (ln (ix x5 a0 zi).Outer)) (share (up x5 a0 ({ (ix x5 a0 zi) with Outer:=(up (ix x5 a0 zi).Outer a1 ({ (ix (ix x5 a0 zi).Outer a1 zM) with Rights:=3 }:Slot)) }:Mon)) (fun x6=>(cond (zc0 ({ r with Mons:=x6 }:Host) a0 a1 (ix (ix x5 a0 zi).Outer a1 zM)) (some [(AV.agg (zbi (zc1 ({ r with Mons:=x6 }:Host) a0 a1 (ix (ix x5 a0 zi).Outer a1 zM))))]) none))) none) (some [(AV.agg (zbi ({ r with Mons:=x5 }:Host)))])) none) none))) none) none)) none)=some [AV.agg (zbi (zhX r a0 a1 a2))]:=by
  intro r hr hrm her;obtain ⟨q1,q2⟩:=zbx hr hrm;have hD:=ziV (p:=a1) hr hrm;unfold zhX;simp only[zcl,zcK,en,cT];cases h0:ieq (wand .i64 a2 2) 0
  .obtain ⟨k,rfl,hk⟩:=zcO (n:=r.Mons.length) hrm;have ex:ix (zbn r (k:Int) a1).Mons (k:Int) mZ={ ix r.Mons (k:Int) mZ with Dirty:=up (ix r.Mons (k:Int) mZ).Dirty a1 true }:=zdp hk _ _;have hk':k<(zbn r (k:Int) a1).Mons.length:=by simpa [zbn] using hk
   have hi:inb a1 (ln (ix (zbn r (k:Int) a1).Mons (k:Int) mZ).Outer)=true:=by
    rw[ex];exact zA (zcg q2.1 hp)
   refine ze0 rfl (must (zA hrm) (must (zA (zcg q2.2.2.1 hp)) (shr (must hi ?_))));unfold opened
   show (cond (cond (enough (ix (ix (zbn r (k:Int) a1).Mons (k:Int) mZ).Outer a1 sZ).Rights 2) false true) _ _)=_
   have e2:(cond (enough (ix (ix (zbn r (k:Int) a1).Mons (k:Int) mZ).Outer a1 sZ).Rights 2) false true)=ieq (wand .i64 (ix (ix (zbn r (k:Int) a1).Mons (k:Int) mZ).Outer a1 sZ).Rights 2) 0:=by
    rw[ex]
    show (cond (enough (ix (ix r.Mons (k:Int) mZ).Outer a1 sZ).Rights 2) false true)=ieq (wand .i64 (ix (ix r.Mons (k:Int) mZ).Outer a1 sZ).Rights 2) 0
    rw[her];cases ieq (wand .i64 (ix (ix r.Mons (k:Int) mZ).Outer a1 sZ).Rights 2) 0<;>rfl
   rw[e2];cases h1:ieq (wand .i64 (ix (ix (zbn r (k:Int) a1).Mons (k:Int) mZ).Outer a1 sZ).Rights 2) 0
   .rfl
   .have hX:Shape { zbn r (k:Int) a1 with Mons:=up (zbn r (k:Int) a1).Mons (k:Int) { ix (zbn r (k:Int) a1).Mons (k:Int) mZ with Outer:=up (ix (zbn r (k:Int) a1).Mons (k:Int) mZ).Outer a1 ⟨(ix (ix (zbn r (k:Int) a1).Mons (k:Int) mZ).Outer a1 sZ).Page,3⟩ } }:=by
     obtain ⟨w1,w2⟩:=zbx hD (zdD hrm);exact zfH hD ⟨by simpa using w1.1,w1.2⟩ ⟨by simpa using w2.1,w2.2⟩
    have hh:∀(x y:Mon),hasB (k:Int) (ln (up (up r.Mons (k:Int) x) (k:Int) y))=true:=fun x y=>by simpa [ln] using hrm
    refine must rfl (must hi (shr (must (zbh ⟨hX,hh _ _⟩) ?_)));exact congrArg (fun x=>some [AV.agg (zbi x)]) (zrM (h:=zbn r (k:Int) a1) (p:=a1) (s:=⟨(ix (ix (zbn r (k:Int) a1).Mons (k:Int) mZ).Outer a1 sZ).Page,3⟩) hk' (by rw[ex];exact q2.2.2.2))
  .rfl
 refine ⟨0,?_⟩;unfold zw9 znH mended oN nB
 conv=>zeta
 refine must (zA hm) (must (zA (zcg g2.1 hp)) ?_);cases h0:ieq (ix (ix c.Mons a0 mZ).Outer a1 sZ).Page (-1)
 .exact tail c hf.1 hm (zRk hs.lo hs.hi)
 .obtain ⟨h1,h2⟩:=ziW (p:=a1) hf hm hp;exact must rfl (must (zbh ⟨hf,hm,hp⟩) (tail _ h1 h2 (by rw[zGn hf hm hp];rfl)))
theorem zGz:zcx Tryz.prog 239 [true,true,true,true] zpj:=by
 refine zbv (zb3 zfx zq zDf zvt) (zcX (by kernel_rfl)) ?_
 intro cs avs cs' rs hl hr h;have hb:=zbD hr;unfold zpj at h;split at h
 .obtain ⟨hc,rfl,rfl⟩:=zbR h;obtain ⟨N,hN⟩:=zLl _ _ _ _ (by exact hb) hc
  exact ⟨rfl,_,N,12,(zNr N _ _ _ _ ).trans hN⟩
 .cases h
def zLK:zco:=[(239,([true,true,true,true],zpj))]++zLA
theorem zfa:zbJ zLK:=zcT zDf (by
 intro x hx;simp only[qG,qU,or_false]at hx;rcases hx with rfl
 .exact zGz)
def zL7:zdl:=[(264,([true,true,true,true,false,false,false],(some (1,1,[[0],[1],[2],[4],[7]])),zme))]++zIp
theorem zvu:zcR zL7:=zkU zvt (by
 intro x hx;simp only[qG,qU,or_false]at hx;rcases hx with rfl
 .exact zz9)
theorem zLc {h:Host}(hh:zcp h=true):h.Memory.length=12:=by
 unfold zcp at hh;simp only[zcF]at hh;have h1:=hh.1;unfold zgb at h1;simp only[zcF]at h1;have:ln h.Memory=12:=qJ h1.2;simp only[ln] at this;omega
theorem zgB {h:Host}(hh:zcp h=true):∀x∈h.Mons,zc8 x=true:=by
 unfold zcp at hh;simp only[zcF]at hh;exact zAe _ _ hh.2.2.2.2
theorem zyg {x:Mon}(hk:zc8 x=true):ShM x:=by
 have ho:=zoX (ziy hk);unfold zc8 at hk;simp only[zcF]at hk;have e1:ln x.Tables=ln x.Guests:=qJ hk.2.1;have e2:ln x.Out=8:=qJ hk.2.2.2.1;have e3:ln x.Dirty=8:=qJ hk.2.2.2.2.1;simp only[ln] at *;exact ⟨by omega,by omega,by omega,by omega⟩
theorem zq5 {h:Host}(hs:SmH h)(hh:zcp h=true):Fit h:=by
 refine ⟨⟨hs,fun x hx=>zyg (zgB hh x hx)⟩,by rw[zLc hh];decide,?_⟩
 unfold zcp at hh;simp only[zcF]at hh;have:=zGC _ _ rfl hh.2.2.2.2;omega
theorem zAC {x:Mon}(hk:zc8 x=true){p:Int}(hp:hasB p 8=true):SlotFit (ix x.Outer p sZ):=by
 have ht:=ziy hk;unfold zcu at ht;simp only[zcF]at ht;exact zLZ (qS.1 ht.1 _ (zb7 (zcg (zyg hk).1 hp) _))
theorem zI3 {h:Host}{m p:Int}(hf:Fit h)(hm:hasB m (ln h.Mons)=true):Fit (zbn h m p):=by
 refine ⟨ziV hf.1 hm,hf.2.1,?_⟩;obtain ⟨k,rfl,hk⟩:=zcO (n:=h.Mons.length) hm;have:=zIO h.Mons k (ix h.Mons (k:Int) mZ) { ix h.Mons (k:Int) mZ with Dirty:=up (ix h.Mons (k:Int) mZ).Dirty p true } (by rw[zbc hk];exact qB hk)
 have h3:=hf.2.2;unfold zbn;simp only[up,kU]
 dsimp only at this
 simp only[up] at this;omega
abbrev gZ:Guest:=Ty.dflt .guest
@[simp] abbrev zlz (h:Host)(m:Int):Bool:=pc (zcQ h)
@[simp] abbrev zbz (h:Host)(m:Int):Mon:=bif hasB m (ln h.Mons) then ix h.Mons m mZ else mZ
@[simp] abbrev zha (h:Host)(m:Int):Bool:=hasB m (ln h.Mons)
def zwI:Run:=rF2 dH dI fun b c=>(zlz b c,[aT .mon (zbz b c),aB (zha b c)])
def zDB (N:Nat)(a0:Host)(a1:Int):OA:=
 let y0:=(ix a0.Mons a1 zi); (oN (zby a1 (ln a0.Mons)) (cond (nB (zbS a1 (ln a0.Mons))) (some [(aT .mon (⟨[],[],[],[],[],0,0,[],0⟩:Mon)),(aB false)]) (oN (inb a1 (ln a0.Mons)) (oN (zgE y0) (some [(aT .mon (zhf y0)),(aB true)])))))
theorem zJg (a0:Host)(a1:Int)(hc:zlz a0 a1=true):∃N,zDB N a0 a1=some [aT .mon (zbz a0 a1),aB (zha a0 a1)]:=by
 have hs:=(zbI a0).1 (zC.1 hc);refine ⟨0,?_⟩;unfold zDB zbz zha oN nB
 conv=>zeta
 refine must rfl ?_;rw[show zbS a1 (ln a0.Mons)=hasB a1 (ln a0.Mons) from rfl]
 cases hh:hasB a1 (ln a0.Mons)
 .rfl
 .exact ze0 rfl (must (zA hh) (must (zbh (hs.2.1.2 _ (zb7 hh _))) rfl))
theorem zEw:uV 160 zwI:=kF2 zfx zq zfa zvu (zo []) zJg
def zbU (h:Host)(m g:Int):Bool:=bif zcp h then (cond (hasB m (ln h.Mons)) (hasB g (ln (ix h.Mons m mZ).Guests)) false) else false
def zeV (h:Host)(m:Int):Nat->Nat->List (List Int)
 | 0,_=>[]
 | n+1,i=>zdr h m (i:Int) :: zeV h m n (i+1)
theorem zrt (h:Host)(m:Int):∀(n i:Nat),(zeV h m n i).length=n
 | 0,_=>rfl
 | n+1,i=>by simp[zeV,zrt h m n]
def zbl (h:Host)(m:Int):Bare:=bif hasB m (ln h.Mons) then ⟨zeV h m 8 0,(ix h.Mons m mZ).Guests,(ix h.Mons m mZ).Outs,(ix h.Mons m mZ).Pending⟩ else ⟨[],[],[],0⟩
theorem ztq {ρ:Type}(h:Host)(m:Int)(K:List (List Int)->Option ρ):∀(n i:Nat) (acc:List (List Int)),acc.length+n<=2147483648 ->
 goN (fun i acc κ=>bif few (ln (ap acc [zdr h m (i:Int)])) then κ (ap acc [zdr h m (i:Int)]) else none) K n i acc=K (acc++zeV h m n i)
 | 0,_,acc,_=>by simp[goN,zeV]
 | n+1,i,acc,hl=>by
  simp only[goN,zeV];rw[zeM (by simp[ap];omega),cT,ztq h m K n (i+1) _ (by simp[ap];omega)]
  simp[ap]
@[simp] abbrev zjQ (h:Host)(m:Int):Bool:=pc (zcQ h)
@[simp] abbrev zi5 (h:Host)(m:Int):Bare:=zbl h m
def zQg:zK:=[(160,zwI)]++zk4
theorem zGe:zx zQg:=zh zEw zfx
def zuf:Run:=rF2 dH dI fun b c=>(zjQ b c,[aT .bare (zi5 b c)])
def zyS (N:Nat)(a0:Host)(a1:Int):OA:=
 (oN (zlz a0 a1) (cond (nB (zha a0 a1)) (some [(aT .bare (⟨[],[],[],0⟩:Bare))]) (iter (σ:=(Int×(Int×(Int×(Int×(lM×(lN×(lE×(lE×(lM×(lG×((List Int)×(lM×(lG×((List Int)×Unit))))))))))))))) N (fun r3 s4=>let y3:=s4.2.2.2.2.2.2.2.2.2.2.2.2.1;let y2:=s4.2.2.2.2.2.2.2.2.2.2.2.2.2.1;let y0:=(⟨s4.2.2.2.2.1,s4.2.2.2.2.2.1,s4.2.2.2.2.2.2.1,s4.2.2.2.2.2.2.2.1⟩:Host);let y1:=(ap s4.2.2.2.2.2.2.2.2.2.2.2.1 [(zrb y0 s4.1 s4.2.1)]); (cond (ilt s4.2.1 8) (oN (zrd y0 s4.1 s4.2.1) (oN (few (ln y1)) (r3 (s4.1,((zB .i64 s4.2.1 1),(s4.2.2.1,(s4.2.2.2.1,(s4.2.2.2.2.1,(s4.2.2.2.2.2.1,(s4.2.2.2.2.2.2.1,(s4.2.2.2.2.2.2.2.1,(s4.2.2.2.2.2.2.2.2.1,(s4.2.2.2.2.2.2.2.2.2.1,(s4.2.2.2.2.2.2.2.2.2.2.1,(y1,(y3,(y2,()))))))))))))))))) (some [(aT .bare (⟨s4.2.2.2.2.2.2.2.2.2.2.2.1,y3,y2,s4.2.2.2.1⟩:Bare))]))) (a1,(0,(0,((zbz a0 a1).Pending,(a0.Memory,(a0.Mons,(a0.Buffer,(a0.IoBuffer,([],([],([],([],((zbz a0 a1).Guests,((zbz a0 a1).Outs,())))))))))))))))))
def zIv:FuncId->Nat->Option Tmpl:=zo [(146,0,{ n:=39,tm:=[(1,ti),(2,.lp 0 0),(4,.lp 1 0),(7,.lp 2 0),(8,ti)],lo:=[(0,[.sl 0 [],.sl 1 [],.sl 2 [],.sl 3 []]),(1,[.sl 4 [],.sl 5 [],.sl 6 [],ti]),(2,[.sl 7 [],.sl 8 [],.sl 9 [],ti])],ro:=[(0,(.sl .int),false),(1,.mon,false),(2,.entry,false),(3,.entry,false),(4,(.sl .int),true),(5,.guest,true),(6,.int,true),(7,(.sl .int),true),(8,.guest,true),(9,.int,true)] })]
theorem zG2 (a0:Host)(a1:Int)(hc:zjQ a0 a1=true):∃N,zyS N a0 a1=some [aT .bare (zi5 a0 a1)]:=by
 have hs:=zC.1 hc;refine zbN fun N hNN=>?_;unfold zyS zi5 zbl oN nB
 conv=>zeta
 refine must (zbh hs) ?_;rw[show zha a0 a1=hasB a1 (ln a0.Mons) from rfl]
 cases hh:hasB a1 (ln a0.Mons)
 .rfl
 .refine ze0 rfl ?_;refine (znI 8 (fun i (t:lM)=>(a1,(i:Int),0,(zbz a0 a1).Pending,a0.Memory,a0.Mons,a0.Buffer,a0.IoBuffer,[],[],[],t,(zbz a0 a1).Guests,(zbz a0 a1).Outs,())) _ (fun i (acc:List (List Int)) κ=>bif few (ln (ap acc [zdr a0 a1 (i:Int)])) then κ (ap acc [zdr a0 a1 (i:Int)]) else none) (fun (t:lM)=>(some [(.agg (Ty.cells .bare (⟨t,(zbz a0 a1).Guests,(zbz a0 a1).Outs,(zbz a0 a1).Pending⟩:Bare)))])) (fun i hi t rec=>?_) (fun t rec=>?_) _ ([]) (hNN (by decide))).trans ?_
  .simp only [show ilt (i:Int) 8=true from qN (by omega),zQ hi (show 8<=big by decide),cT]
   exact must (zbh hs) rfl
  .simp only [show ilt (((8:Nat)):Int) 8=false from qK (by omega),cF]
  rw[ztq a0 a1 _ 8 0 [] (by decide)]
  simp only[zbz,hh,cT,jN]
theorem zB4:uV 146 zuf:=kF2 zGe zq zfa zvu zIv zG2
theorem zJB:zb0 zrR=true:=by decide
theorem zJ0 {p:Nat->Bool}:∀{n i q:Nat},znl p n i=true->i<=q->q<i+n->p q=true
 | 0,i,q,_,h1,h2=>by omega
 | n+1,i,q,h,h1,h2=>by
  simp only[znl,qD]at h
  by_cases he:i=q
  .subst he;exact h.1
  .exact zJ0 h.2 (by omega) (by omega)
theorem zNz {h:Host}{m:Int}(hh:zcp h=true)(hm:hasB m (ln h.Mons)=true){p:Int}(hp:hasB p 8=true):zb0 (zdr h m p)=true:=by
 have hk:=zgB hh _ (zb7 hm mZ);have hsh:=zyg hk;have hmem:h.Memory.all zb0=true:=by
  unfold zcp at hh;simp only[zcF]at hh;have h1:=hh.1;unfold zgb at h1;simp only[zcF]at h1;exact h1.1
 unfold zdr;rw[hm,hp];simp only[cT];have hsl:zcA (ix h.Mons m mZ).Outer p=ix (ix h.Mons m mZ).Outer p sZ:=by
  unfold zcA;rw[zcg hsh.1 hp];rfl
 rw[hsl];have hAt:∀(mm:List (List Int)) (q:Int),(hasB q (ln mm)=true->zb0 (ix mm q [])=true)->zb0 (zfm mm q)=true:=by
  intro mm q hq;unfold zfm;cases h1:hasB q (ln mm)
  .exact zJB
  .exact hq h1
 cases hpg:ine (ix (ix h.Mons m mZ).Outer p sZ).Page (-1)
 .refine hAt _ _ (fun hq=>?_);obtain ⟨q,rfl,hq8⟩:=zcO (n:=8) hp;have hfit:fits (ix h.Mons m mZ) q=true:=by
   unfold zc8 at hk;simp only[zcF]at hk;exact zJ0 hk.2.2.2.2.2.2.2.2.2.2 (by omega) (by omega)
  unfold fits zna at hfit;have hno:zcV (ix (ix h.Mons m mZ).Outer (q:Int) sZ) noSlot=true:=by
   rw[(zAC (zgB hh _ (zb7 hm mZ)) hp).no];rw[zhU]at hpg;cases h1:ieq (ix (ix h.Mons m mZ).Outer (q:Int) sZ).Page (-1)
   .rw [h1]at hpg;cases hpg
   .rfl
  rw[hno]at hfit;exact hfit
 .exact hAt _ _ (fun hq=>qS.1 hmem _ (zb7 hq _))
theorem zEa {h:Host}{m:Int}(hh:zcp h=true)(hm:hasB m (ln h.Mons)=true):∀(n i:Nat),i+n<=8->(zeV h m n i).all zb0=true
 | 0,_,_=>rfl
 | n+1,i,hi=>by
  simp only[zeV,kQ,qD];exact ⟨zNz hh hm (qN (by omega)),zEa hh hm n (i+1) (by omega)⟩
theorem zIU {h:Host}{m:Int}(hh:zcp h=true)(hm:hasB m (ln h.Mons)=true):zdZ (zbl h m)=true:=by
 have hk:=zgB hh _ (zb7 hm mZ);unfold zc8 at hk;simp only[zcF]at hk;unfold zbl zdZ zgb;rw[hm];simp only[cT,hk.2.2.2.2.2.2.2.2.2.1,zEa hh hm 8 0 (by decide),ln,zrt]
 simp only[ln]at hk;rw[hk.1,hk.2.2.2.2.2.1,hk.2.2.2.2.2.2.1];rfl
def zFx:zK:=[(146,zuf)]++zQg
theorem zxp:zx zFx:=zh zB4 zGe
def zcS (l:List Mon):List (List Guest):=l.map fun x=>x.Guests
theorem zq4 {l:List Mon}{m:Int}{x:Mon}(hm:hasB m (ln l)=true)(hx:x.Guests=(ix l m mZ).Guests):zcS (up l m x)=zcS l:=by
 obtain ⟨k,rfl,hk⟩:=zcO (n:=l.length) hm;unfold zcS up;rw[List.map_set,kU,hx,zbc hk];have:=@uG _ (l.map fun x=>x.Guests) k (by simpa using hk)
 simpa using this
theorem zLa {l l':List Mon}(h:zcS l'=zcS l)(m:Int):(ix l' m mZ).Guests=(ix l m mZ).Guests:=by
 unfold zcS at h;have h2:(l'.map fun x=>x.Guests)[m.toNat]?=(l.map fun x=>x.Guests)[m.toNat]?:=by rw[h]
 rw[qM,qM]at h2;unfold ix;simp only[kE];cases h3:l'[m.toNat]? <;> cases h4:l[m.toNat]? <;> rw [h3,h4]at h2<;>simp at h2 ⊢;exact h2
theorem zq3 {h:Host}{m p:Int}{s:Slot}(hm:hasB m (ln h.Mons)=true):zcS (zdh h m p s).Mons=zcS h.Mons:=by
 rw[(zd8 h m p s).1];exact zq4 hm rfl
theorem zRo {h:Host}{m p:Int}(hm:hasB m (ln h.Mons)=true):zcS (zdN h m p).Mons=zcS h.Mons:=(zq3 (h:=zdT h m p) (zdD hm)).trans (zq4 hm rfl)
theorem zRn {h:Host}(hf:Fit h):zcS (zcs h).Mons=zcS h.Mons:=by
 unfold zcs;cases h0:ieq (ln (zbV h)) 0
 .rfl
 .exact zRo (zvk hf h0).1
theorem zK9 {h:Host}{m p:Int}(hf:Fit h)(hm:hasB m (ln h.Mons)=true):zcS (fetched h m p).Mons=zcS h.Mons:=by
 have hr:=zkM hf hm;exact ((zq3 (h:=landing (zcs h) m p (ix (zbV (zcs h)) 0 0)) (zdD hr)).trans (zq4 hr rfl)).trans (zRn hf)
theorem zGu {h:Host}{m p n:Int}(hm:hasB m (ln h.Mons)=true):zcS (zhX h m p n).Mons=zcS h.Mons:=by
 have hd:zcS (zbn h m p).Mons=zcS h.Mons:=zq4 hm rfl;unfold zhX;cases ieq (wand .i64 n 2) 0
 .unfold opened;cases ieq (wand .i64 (ix (ix (zbn h m p).Mons m mZ).Outer p sZ).Rights 2) 0
  .exact hd
  .exact (zq3 (h:=zbn h m p) (zdD hm)).trans hd
 .rfl
theorem zM8 {h:Host}{m p n:Int}(hf:Fit h)(hm:hasB m (ln h.Mons)=true)(hp:hasB p 8=true):zcS (mended h m p n).Mons=zcS h.Mons:=by
 unfold mended;cases ieq (ix (ix h.Mons m mZ).Outer p sZ).Page (-1)
 .exact zGu hm
 .exact (zGu (ziW hf hm hp).2).trans (zK9 hf hm)
theorem zSg {l l':List Mon}(h:zcS l'=zcS l):l'.length=l.length:=by
 have:=congrArg List.length h;simpa [zcS] using this
abbrev kZ:Kept:=Ty.dflt .kept
theorem zS5 {x:Guest}(hk:zcf x=true){p n:Int}(hw:zes x.Live p n=true):hasB (zb1 x.Live p n) 8=true:=by
 have ht:zcu x.Live 4 8=true:=by
  unfold zcf at hk;simp only[qD]at hk;exact hk.2.2.2.2.1
 unfold zb1;rw[hw];simp only[cT];unfold zes at hw;cases h1:ieq (zcA x.Live p).Page (-1)
 .unfold zcA at h1 ⊢;cases h2:hasB p (ln x.Live)
  .rw [h2]at h1;cases h1
  .rw [h2]at h1;simp only[cT]at h1 ⊢;unfold zcu at ht;simp only[zcF]at ht;have hs:=qS.1 ht.1 _ (zb7 h2 sZ);unfold zdv at hs;cases h3:zcV (ix x.Live p sZ) noSlot
   .rw [h3]at hs;simp only[cF,zcF]at hs;have:=zep.1 hs.2.1;rw[show wsub .i64 8 1=7 from rfl] at this
    show hasB (ix x.Live p sZ).Page 8=true
    exact qN (by omega)
   .unfold zcV at h3;rw[qD]at h3;have:(ix x.Live p sZ).Page = -1:=qJ h3.1;rw[show ieq (ix x.Live p zM).Page (-1)=true from qN this]at h1
    cases h1
 .rw [h1]at hw;cases hw
def zcr (h:Host)(m g:Int):List Slot:=(ix (ix h.Mons m mZ).Guests g gZ).Live
def zbZ (h:Host)(m g:Int):Kept:=ix (ix h.Mons m mZ).Tables g kZ
def zmz (h:Host)(io:Bool):List Entry:=bif io then h.IoBuffer else h.Buffer
def znu (b:List Entry)(m g page:Int):Option Entry:=zqU b (zgR m g) page
def zhI (b:List Entry)(m g page need:Int):Bool:=bif (znu b m g page).isSome then enough ((znu b m g page).getD ⟨0,0,0,0⟩).Rights need else false
def zdi (h:Host)(m g page need:Int):Bool:=bif ziu (zbZ h m g) page then (cond (ieq (zdB (zbZ h m g) page).Page (-1)) true (!enough (zdB (zbZ h m g) page).Rights need)) else true
def zb8 (h:Host)(m g page:Int):Host:={ h with Mons:=up h.Mons m { ix h.Mons m mZ with Tables:=up (ix h.Mons m mZ).Tables g (filled (zbZ h m g) (zcr h m g) (ix h.Mons m mZ).Outer page) } }
def zQv (h:Host)(m g page:Int):Entry:=⟨zgR m g,page,(zdB (zbZ h m g) page).Page,(zdB (zbZ h m g) page).Rights⟩
def zFC (h:Host)(m g page:Int)(io:Bool):Host:=bif io then { h with IoBuffer:=ztQ h.IoBuffer (zQv h m g page) } else { h with Buffer:=ztQ h.Buffer (zQv h m g page) }
def zdq (h:Host)(m g page:Int)(io:Bool):Host×Int×Bool:=(zFC h m g page io,(zdB (zbZ h m g) page).Page,true)
def zfJ (h:Host)(b:List Entry)(m g page need q:Int)(io:Bool):Host×Int×Bool :=
 bif zhI b m g page need then (h,((znu b m g page).getD ⟨0,0,0,0⟩).Host,true)
 else (cond (zdi h m g page need) (zdq (zb8 (mended h m q need) m g page) m g page io) (zdq h m g page io))
def zeT (need:Int):Bool:=bif ieq need 1 then true else ieq need 2
def zcH (h:Host)(m g page need:Int):Bool:=bif zbU h m g then (cond (zeT need) (zes (zcr h m g) page need) false) else false
def lookOf (h:Host)(b:List Entry)(m g page need:Int)(io:Bool):Host×Int×Bool :=
 bif zcH h m g page need then zfJ (cond (ieq need 2) (zbn h m (zb1 (zcr h m g) page need)) h) b m g page need (zb1 (zcr h m g) page need) io else (h,-1,false)
structure Kp (h r:Host):Prop where
 shape:Shape r
 gs:zcS r.Mons=zcS h.Mons
theorem Kp.has {h r:Host}(k:Kp h r){m:Int}(hm:hasB m (ln h.Mons)=true):hasB m (ln r.Mons)=true:=by
 rw[ln,zSg k.gs];exact hm
theorem zLW {h:Host}{m g page:Int}(hs:Shape h)(hm:hasB m (ln h.Mons)=true)(hg:hasB g (ln (ix h.Mons m mZ).Guests)=true):Shape (zb8 h m g page):=by
 obtain ⟨g1,g2⟩:=zbx hs hm;have ht:hasB g (ln (ix h.Mons m mZ).Tables)=true:=by rw[ln,g2.2.2.2];exact hg
 exact zfH hs ⟨g1.1,g1.2.1,g1.2.2.1,g1.2.2.2.1,g1.2.2.2.2.1,zKr g1.2.2.2.2.2 (zL1 (g1.2.2.2.2.2.2 _ (zb7 ht _)))⟩ ⟨g2.1,g2.2.1,g2.2.2.1,by simpa using g2.2.2.2⟩
theorem zNe {h r:Host}{m g page:Int}{io:Bool}(k:Kp h r):Kp h (zFC r m g page io):=by
 obtain ⟨⟨h1,h2,h3,h4⟩,h5⟩:=k.shape;unfold zFC;cases io
 .exact ⟨⟨⟨h1,h2,(zrv _ h3).1,h4⟩,h5⟩,k.gs⟩
 .exact ⟨⟨⟨h1,h2,h3,(zrv _ h4).1⟩,h5⟩,k.gs⟩
structure LookAt (h:Host) (m g q need:Int):Prop where
 fit:Fit h
 hm:hasB m (ln h.Mons)=true
 hg:hasB g (ln (ix h.Mons m mZ).Guests)=true
 hq:hasB q 8=true
 hn:need=1\/need=2
 hs:SlotFit (ix (ix h.Mons m mZ).Outer q sZ)
theorem LookAt.mend {h:Host}{m g q need:Int}(A:LookAt h m g q need):zFT h m q need:=⟨A.fit,A.hm,A.hq,A.hn,A.hs⟩
theorem LookAt.kp {h:Host}{m g q need:Int}(A:LookAt h m g q need):Kp h (mended h m q need):=⟨(zIb A.fit A.hm A.hq).1,zM8 A.fit A.hm A.hq⟩
theorem LookAt.fill {h:Host}{m g q need:Int}(A:LookAt h m g q need)(page:Int):Kp h (zb8 (mended h m q need) m g page):=by
 have k:=A.kp;have hg:hasB g (ln (ix (mended h m q need).Mons m mZ).Guests)=true:=by rw[zLa k.gs];exact A.hg
 have e:zcS (zb8 (mended h m q need) m g page).Mons=zcS (mended h m q need).Mons:=zq4 (k.has A.hm) rfl;exact ⟨zLW k.shape (k.has A.hm) hg,e.trans k.gs⟩
theorem zGI {h:Host}{b:List Entry}{m g page need q:Int}{io:Bool}(A:LookAt h m g q need):Kp h (zfJ h b m g page need q io).1:=by
 unfold zfJ;cases zhI b m g page need
 .cases zdi h m g page need
  .exact zNe ⟨A.fit.1,rfl⟩
  .exact zNe (A.fill page)
 .exact ⟨A.fit.1,rfl⟩
theorem zd2 {h:Host}{m g:Int}(hh:zbU h m g=true):zcp h=true/\hasB m (ln h.Mons)=true/\hasB g (ln (ix h.Mons m mZ).Guests)=true:=by
 unfold zbU at hh;simp only[zcF]at hh;exact hh
theorem zLb {h:Host}{m g:Int}(hh:zbU h m g=true):zcf (ix (ix h.Mons m mZ).Guests g gZ)=true:=by
 obtain ⟨h1,h2,h3⟩:=zd2 hh;have hk:=zgB h1 _ (zb7 h2 mZ);unfold zc8 at hk;simp only[zcF]at hk;exact qS.1 hk.2.2.2.2.2.2.2.2.2.1 _ (zb7 h3 _)
theorem zAE {n:Int}(h:zeT n=true):n=1\/n=2:=by
 unfold zeT at h;cases h1:ieq n 1
 .rw [h1]at h;exact .inr (qJ h)
 .exact .inl (qJ h1)
theorem ztM {h:Host}{m g page need:Int}(hs:SmH h)(hh:zcH h m g page need=true) :
 LookAt h m g (zb1 (zcr h m g) page need) need/\LookAt (zbn h m (zb1 (zcr h m g) page need)) m g (zb1 (zcr h m g) page need) need:=by
 unfold zcH at hh;simp only[zcF]at hh;obtain ⟨h1,h2,h3⟩:=hh;obtain ⟨g1,g2,g3⟩:=zd2 h1;have hq:hasB (zb1 (zcr h m g) page need) 8=true:=zS5 (zLb h1) h3;have hsl:=zAC (zgB g1 _ (zb7 g2 mZ)) hq;have hf:=zq5 hs g1;refine ⟨⟨hf,g2,g3,hq,zAE h2,hsl⟩,⟨zI3 hf g2,zdD g2,?_,hq,zAE h2,?_⟩⟩
 .have e:zcS (zbn h m (zb1 (zcr h m g) page need)).Mons=zcS h.Mons:=zq4 g2 rfl;rw[zLa e];exact g3
 .obtain ⟨k,rfl,hk⟩:=zcO (n:=h.Mons.length) g2;unfold zbn;rw[zdp hk];exact hsl
theorem zKe {h:Host}{b:List Entry}{m g page need:Int}{io:Bool}(hs:SmH h)(hh:zbU h m g=true):Kp h (lookOf h b m g page need io).1:=by
 have hf:=zq5 hs (zd2 hh).1;unfold lookOf;cases h1:zcH h m g page need
 .exact ⟨hf.1,rfl⟩
 .obtain ⟨A,B⟩:=ztM hs h1;simp only[cT];cases ieq need 2
  .exact zGI A
  .have k:=zGI (b:=b) (page:=page) (io:=io) B;have e:zcS (zbn h m (zb1 (zcr h m g) page need)).Mons=zcS h.Mons:=zq4 A.hm rfl;exact ⟨k.shape,k.gs.trans e⟩
def zge (x:Host×Int×Bool):List AV:=[.agg (zbi x.1),.one (.i .i64 x.2.1),.one (.b x.2.2)]
theorem zgF {h:Host}{b:List Entry}{m g page need:Int}{io:Bool}(hh:zcH h m g page need=false):lookOf h b m g page need io=(h,-1,false):=by
 unfold lookOf;rw[hh];rfl
theorem zju {h:Host}{m g page need:Int}(hh:zbU h m g=false):zcH h m g page need=false:=by
 unfold zcH;rw[hh];rfl
theorem zBF {h:Host}{m g:Int}(hh:zcp h=false):zbU h m g=false:=by
 unfold zbU;rw[hh];rfl
theorem zBG {h:Host}{m g:Int}(hh:hasB m (ln h.Mons)=false):zbU h m g=false:=by
 unfold zbU;rw[hh];cases zcp h<;>rfl
theorem zBH {h:Host}{m g:Int}(hh:hasB g (ln (ix h.Mons m mZ).Guests)=false):zbU h m g=false:=by
 unfold zbU;rw[hh];cases zcp h<;>cases hasB m (ln h.Mons)<;>rfl
theorem zBI {h:Host}{m g:Int}(h1:zcp h=true)(h2:hasB m (ln h.Mons)=true)(h3:hasB g (ln (ix h.Mons m mZ).Guests)=true):zbU h m g=true:=by
 unfold zbU;rw[h1,h2,h3];rfl
structure LookF (r:Host) (m g:Int):Prop where
 hm:hasB m (ln r.Mons)=true
 hg:hasB g (ln (ix r.Mons m mZ).Guests)=true
 ht:hasB g (ln (ix r.Mons m mZ).Tables)=true
 hk:SmK (zbZ r m g)
 hb:r.Buffer.length<=1048576
 hi:r.IoBuffer.length<=1048576
theorem zjV {h r:Host}{m g:Int}(k:Kp h r)(hm:hasB m (ln h.Mons)=true)(hg:hasB g (ln (ix h.Mons m mZ).Guests)=true):LookF r m g:=by
 obtain ⟨g1,g2⟩:=zbx k.shape (k.has hm);have hg':hasB g (ln (ix r.Mons m mZ).Guests)=true:=by rw[zLa k.gs];exact hg
 have ht:hasB g (ln (ix r.Mons m mZ).Tables)=true:=by rw[ln,g2.2.2.2];exact hg'
 exact ⟨k.has hm,hg',ht,g1.2.2.2.2.2.2 _ (zb7 ht _),k.shape.1.2.2.1,k.shape.1.2.2.2⟩
@[simp] abbrev zwV (h:Host)(b:List Entry)(m g page need:Int)(io:Bool):Bool:=pc (zcQ h)
@[simp] abbrev zwS (h:Host)(b:List Entry)(m g page need:Int)(io:Bool):Host:=(lookOf h b m g page need io).1
@[simp] abbrev zwT (h:Host)(b:List Entry)(m g page need:Int)(io:Bool):Int:=(lookOf h b m g page need io).2.1
@[simp] abbrev zwU (h:Host)(b:List Entry)(m g page need:Int)(io:Bool):Bool:=(lookOf h b m g page need io).2.2
def zmg:List AV->Option (Bool×List AV)
 | [.agg [.s (.sl .int) c,.s .mon d,.s .entry e,.s .entry f],.one (.s .entry g),.one (.i .i64 h),.one (.i .i64 j),.one (.i .i64 k),.one (.i .i64 l),.one (.b m)]=>some ((zwV (⟨c,d,e,f⟩:Host) g h j k l m),[aH (zwS (⟨c,d,e,f⟩:Host) g h j k l m),aI (zwT (⟨c,d,e,f⟩:Host) g h j k l m),aB (zwU (⟨c,d,e,f⟩:Host) g h j k l m)])
 | _=>none
abbrev zEp (u9_11:lM)(u9_12:lN)(u9_13:lE)(u9_14:lE)(u9_0:Int)(u9_5:Int)(u9_3:Int):Mon :=
 (ix (zlK (⟨u9_11,u9_12,u9_13,u9_14⟩:Host) u9_0 u9_5 u9_3).Mons u9_0 zi)
abbrev zEq (a0:Host)(a2 a3:Int)(a4 a5:Int):Int :=
 (zgu (ix (ix a0.Mons a2 zi).Guests a3 zG).Live a4 a5)
def zBp (N:Nat)(u11_0:Int)(u11_2:lM)(u11_3:lN)(u11_4:lE)(u11_5:lE):OA:=
 (some [(aH (⟨u11_2,u11_3,u11_4,u11_5⟩:Host)),(aI u11_0),(aB true)])
def zkq (N:Nat)(u10_0:Int)(u10_1:Bool)(u10_2:Int)(u10_7:Int)(u10_8:Int)(u10_9:lM)(u10_10:lN)(u10_11:lE)(u10_12:lE)(u10_13:lM)(u10_14:lN)(u10_15:lE)(u10_16:lE):OA:=
 let y0:=(⟨u10_2,u10_0,u10_7,u10_8⟩:Entry); (share (fun (s11:(Int×(Int×(lM×(lN×(lE×(lE×(lM×(lN×(lE×(lE×Unit)))))))))))=>(zBp N s11.1 s11.2.2.1 s11.2.2.2.1 s11.2.2.2.2.1 s11.2.2.2.2.2.1)) (fun r11=>(cond u10_1 (oN (zkb u10_12 y0) (r11 (u10_7,(u10_8,(u10_9,(u10_10,(u10_11,((zka u10_12 y0),(u10_13,(u10_14,(u10_15,(u10_16,())))))))))))) (oN (zkb u10_11 y0) (r11 (u10_7,(u10_8,(u10_9,(u10_10,((zka u10_11 y0),(u10_12,(u10_13,(u10_14,(u10_15,(u10_16,())))))))))))))))
def zlU (N:Nat)(u9_11:lM)(u9_12:lN)(u9_13:lE)(u9_14:lE)(u9_0:Int)(u9_5:Int)(u9_3:Int)(u9_1:Int)(u9_2:Int)(r10:((Int×(Bool×(Int×(Int×(Int×(Int×(Int×(Int×(Int×(lM×(lN×(lE×(lE×(lM×(lN×(lE×(lE×Unit))))))))))))))))))->OA)(u9_4:Bool)(u9_6:Int)(u9_7:Int)(u9_8:Int)(u9_9:Int)(u9_10:Int)(u9_15:lM)(u9_16:lN)(u9_17:lE)(u9_18:lE):OA:=
 let y7:=(⟨u9_11,u9_12,u9_13,u9_14⟩:Host);let y1:=(zlK y7 u9_0 u9_5 u9_3);let y3:=(inb u9_0 (ln y1.Mons));let y0:=(zEp u9_11 u9_12 u9_13 u9_14 u9_0 u9_5 u9_3);let y6:=(ix y0.Tables u9_1 zdw);let y4:=(ix y0.Guests u9_1 zG).Live; (oN (zps y7 u9_0 u9_5 u9_3) (oN y3 (oN y3 (oN (inb u9_1 (ln y0.Tables)) (oN y3 (oN (inb u9_1 (ln y0.Guests)) (oN y3 (oN (zyl y6 y4 y0.Outer u9_2) (oN (inb u9_1 (ln y0.Tables)) (share (up y1.Mons u9_0 ({ y0 with Tables:=(up y0.Tables u9_1 (zAS y6 y4 y0.Outer u9_2)) }:Mon)) (fun x11=>let y5:=(ix x11 u9_0 zi).Tables;let y2:=(ix y5 u9_1 zdw); (oN (inb u9_0 (ln x11)) (oN (inb u9_1 (ln y5)) (oN (zvn y2 u9_2) (r10 (u9_2,(u9_4,(u9_6,(u9_7,(u9_8,(u9_9,(u9_10,((znb y2 u9_2).Page,((znb y2 u9_2).Rights,(y1.Memory,(x11,(y1.Buffer,(y1.IoBuffer,(u9_15,(u9_16,(u9_17,(u9_18,()))))))))))))))))))))))))))))))))
def zhE (N:Nat)(u9_0:Int)(u9_1:Int)(u9_2:Int)(u9_3:Int)(u9_4:Bool)(u9_5:Int)(u9_6:Int)(u9_7:Int)(u9_8:Int)(u9_9:Int)(u9_10:Int)(u9_11:lM)(u9_12:lN)(u9_13:lE)(u9_14:lE)(u9_15:lM)(u9_16:lN)(u9_17:lE)(u9_18:lE):OA:=
 let y3:=(ix u9_12 u9_0 zi).Tables;let y0:=(ix y3 u9_1 zdw);let y2:=(znb y0 u9_2); (oN (inb u9_0 (ln u9_12)) (oN (inb u9_1 (ln y3)) (oN (zvn y0 u9_2) (share (fun (s10:(Int×(Bool×(Int×(Int×(Int×(Int×(Int×(Int×(Int×(lM×(lN×(lE×(lE×(lM×(lN×(lE×(lE×Unit))))))))))))))))))=>(zkq N s10.1 s10.2.1 s10.2.2.1 s10.2.2.2.2.2.2.2.1 s10.2.2.2.2.2.2.2.2.1 s10.2.2.2.2.2.2.2.2.2.1 s10.2.2.2.2.2.2.2.2.2.2.1 s10.2.2.2.2.2.2.2.2.2.2.2.1 s10.2.2.2.2.2.2.2.2.2.2.2.2.1 s10.2.2.2.2.2.2.2.2.2.2.2.2.2.1 s10.2.2.2.2.2.2.2.2.2.2.2.2.2.2.1 s10.2.2.2.2.2.2.2.2.2.2.2.2.2.2.2.1 s10.2.2.2.2.2.2.2.2.2.2.2.2.2.2.2.2.1)) (fun r10=>let y1:=(zlU N u9_11 u9_12 u9_13 u9_14 u9_0 u9_5 u9_3 u9_1 u9_2 r10 u9_4 u9_6 u9_7 u9_8 u9_9 u9_10 u9_15 u9_16 u9_17 u9_18); (cond (nB (zvm y0 u9_2)) y1 (cond (ieq y2.Page (-1)) y1 (oN (zev y2.Rights u9_3) (cond (nB (zeZ y2.Rights u9_3)) y1 (r10 (u9_2,(u9_4,(u9_6,(u9_7,(u9_8,(u9_9,(u9_10,(y2.Page,(y2.Rights,(u9_11,(u9_12,(u9_13,(u9_14,(u9_15,(u9_16,(u9_17,(u9_18,())))))))))))))))))))))))))))
def zlV (N:Nat)(a2:Int)(a0:Host)(a3 a4 a5:Int)(a1:lE)(a6:Bool):OA:=
 let y3:=(zqA a2 a3);let y2:=(zEq a0 a2 a3 a4 a5);let y1:=(ix a0.Mons a2 zi);let y5:=(ix y1.Guests a3 zG).Live;let y0:=(ziT a1 y3 a4);let y4:=y0.Rights; (oN (inb a2 (ln a0.Mons)) (oN (inb a3 (ln y1.Guests)) (oN (zmk y5 a4 a5) (cond (nB (zgv y5 a4 a5)) (some [(aH a0),(aI (-1)),(aB false)]) (oN (zuK a2 a3) (cond (ieq a5 2) (oN (inb a2 (ln a0.Mons)) (oN (inb y2 (ln y1.Dirty)) (share (up a0.Mons a2 ({ y1 with Dirty:=(up y1.Dirty y2 true) }:Mon)) (fun x8=>(oN (ziU a1 y3 a4) (share (fun (s9:(Int×(Int×(Int×(Int×(Bool×(Int×(Int×(Int×(Int×(Int×(Int×(lM×(lN×(lE×(lE×(lM×(lN×(lE×(lE×Unit))))))))))))))))))))=>(zhE N s9.1 s9.2.1 s9.2.2.1 s9.2.2.2.1 s9.2.2.2.2.1 s9.2.2.2.2.2.1 s9.2.2.2.2.2.2.1 s9.2.2.2.2.2.2.2.1 s9.2.2.2.2.2.2.2.2.1 s9.2.2.2.2.2.2.2.2.2.1 s9.2.2.2.2.2.2.2.2.2.2.1 s9.2.2.2.2.2.2.2.2.2.2.2.1 s9.2.2.2.2.2.2.2.2.2.2.2.2.1 s9.2.2.2.2.2.2.2.2.2.2.2.2.2.1 s9.2.2.2.2.2.2.2.2.2.2.2.2.2.2.1 s9.2.2.2.2.2.2.2.2.2.2.2.2.2.2.2.1 s9.2.2.2.2.2.2.2.2.2.2.2.2.2.2.2.2.1 s9.2.2.2.2.2.2.2.2.2.2.2.2.2.2.2.2.2.1 s9.2.2.2.2.2.2.2.2.2.2.2.2.2.2.2.2.2.2.1)) (fun r9=>(cond (zgt a1 y3 a4) (oN (zev y4 a5) (cond (zeZ y4 a5) (some [(aH ({ a0 with Mons:=x8 }:Host)),(aI y0.Host),(aB true)]) (r9 (a2,(a3,(a4,(a5,(a6,(y2,(y3,(y0.Tag,(y0.Page,(y0.Host,(y4,(a0.Memory,(x8,(a0.Buffer,(a0.IoBuffer,([],([],([],([],())))))))))))))))))))))) (r9 (a2,(a3,(a4,(a5,(a6,(y2,(y3,(y0.Tag,(y0.Page,(y0.Host,(y4,(a0.Memory,(x8,(a0.Buffer,(a0.IoBuffer,([],([],([],([],())))))))))))))))))))))))))))) (oN (ziU a1 y3 a4) (share (fun (s8:(Int×(Int×(Int×(Int×(Bool×(Int×(Int×(Int×(Int×(Int×(Int×(lM×(lN×(lE×(lE×(lM×(lN×(lE×(lE×Unit))))))))))))))))))))=>(zhE N s8.1 s8.2.1 s8.2.2.1 s8.2.2.2.1 s8.2.2.2.2.1 s8.2.2.2.2.2.1 s8.2.2.2.2.2.2.1 s8.2.2.2.2.2.2.2.1 s8.2.2.2.2.2.2.2.2.1 s8.2.2.2.2.2.2.2.2.2.1 s8.2.2.2.2.2.2.2.2.2.2.1 s8.2.2.2.2.2.2.2.2.2.2.2.1 s8.2.2.2.2.2.2.2.2.2.2.2.2.1 s8.2.2.2.2.2.2.2.2.2.2.2.2.2.1 s8.2.2.2.2.2.2.2.2.2.2.2.2.2.2.1 s8.2.2.2.2.2.2.2.2.2.2.2.2.2.2.2.1 s8.2.2.2.2.2.2.2.2.2.2.2.2.2.2.2.2.1 s8.2.2.2.2.2.2.2.2.2.2.2.2.2.2.2.2.2.1 s8.2.2.2.2.2.2.2.2.2.2.2.2.2.2.2.2.2.2.1)) (fun r8=>(cond (zgt a1 y3 a4) (oN (zev y4 a5) (cond (zeZ y4 a5) (some [(aH a0),(aI y0.Host),(aB true)]) (r8 (a2,(a3,(a4,(a5,(a6,(y2,(y3,(y0.Tag,(y0.Page,(y0.Host,(y4,(a0.Memory,(a0.Mons,(a0.Buffer,(a0.IoBuffer,([],([],([],([],())))))))))))))))))))))) (r8 (a2,(a3,(a4,(a5,(a6,(y2,(y3,(y0.Tag,(y0.Page,(y0.Host,(y4,(a0.Memory,(a0.Mons,(a0.Buffer,(a0.IoBuffer,([],([],([],([],()))))))))))))))))))))))))))))))
def zkX (N:Nat)(a0:Host)(a1:lE)(a2 a3:Int)(a4 a5:Int)(a6:Bool):OA:=
 let y1:=(zlV N a2 a0 a3 a4 a5 a1 a6);let y0:=(wsub .i64 (ln (ix a0.Mons a2 zi).Guests) 1); (oN (zrD a0) (cond (nB (zrC a0)) (some [(aH a0),(aI (-1)),(aB false)]) (oN (zT a2 0 (wsub .i64 (ln a0.Mons) 1)) (cond (nB (zZ a2 0 (wsub .i64 (ln a0.Mons) 1))) (some [(aH a0),(aI (-1)),(aB false)]) (oN (inb a2 (ln a0.Mons)) (oN (zT a3 0 y0) (cond (nB (zZ a3 0 y0)) (some [(aH a0),(aI (-1)),(aB false)]) (cond (ine a5 1) (cond (ine a5 2) (some [(aH a0),(aI (-1)),(aB false)]) y1) y1))))))))
def zmo:FuncId->Nat->Option Tmpl:=zo [(265,999999,{ n:=0,tm:=[],lo:=[],ro:=[] }),(265,1007023,{ n:=210,tm:=[(2,ti),(3,ti),(4,ti),(5,ti),(6,.b),(7,.lp 0 0),(14,.lp 1 0),(17,ti),(19,ti),(20,.lp 2 0)],lo:=[(0,[.sl 0 [],.sl 1 [],.sl 2 [],.sl 3 []]),(1,[.sl 4 [],.sl 5 [],.sl 6 [],.sl 7 []]),(2,[ti,ti,ti,ti])],ro:=[(0,(.sl .int),true),(1,.mon,true),(2,.entry,true),(3,.entry,true),(4,(.sl .int),true),(5,.mon,true),(6,.entry,true),(7,.entry,true)],kr:=1 }),(265,1009011,{ n:=210,tm:=[(4,ti),(6,.b),(7,.lp 0 0),(14,.lp 1 0),(19,ti),(20,.lp 2 0),(22,.lp 3 0)],lo:=[(0,[.sl 0 [],.sl 1 [],.sl 2 [],.sl 3 []]),(1,[.sl 4 [],.sl 5 [],.sl 6 [],.sl 7 []]),(2,[ti,ti,ti,ti]),(3,[ti,ti])],ro:=[(0,(.sl .int),true),(1,.mon,true),(2,.entry,true),(3,.entry,true),(4,(.sl .int),true),(5,.mon,true),(6,.entry,true),(7,.entry,true)],kr:=1 }),(265,1005003,{ n:=210,tm:=[(7,.lp 0 0),(14,.lp 1 0),(22,.lp 2 0)],lo:=[(0,[.sl 0 [],.sl 1 [],.sl 2 [],.sl 3 []]),(1,[.sl 4 [],.sl 5 [],.sl 6 [],.sl 7 []]),(2,[ti,ti])],ro:=[(0,(.sl .int),true),(1,.mon,true),(2,.entry,true),(3,.entry,true),(4,(.sl .int),true),(5,.mon,true),(6,.entry,true),(7,.entry,true)],kr:=1 })]
theorem zC9 (N:Nat)(a0:Host)(a2 a3:Int)(a4 a5:Int)(a6:Bool):zFy (cQ zFx zjX zLK zL7) zmo N 12 265 [true,true,true,true,false,false,false,false,false,false] [(4,2)] 1 1 [[0],[1],[2],[4],[7]] .mon [aH a0,aS .entry a0.Buffer,aI a2,aI a3,aI a4,aI a5,aB a6]=zkX N a0 a0.Buffer a2 a3 a4 a5 a6:=by kernel_rfl
theorem zDa (N:Nat)(a0:Host)(a2 a3:Int)(a4 a5:Int)(a6:Bool):zFy (cQ zFx zjX zLK zL7) zmo N 12 265 [true,true,true,true,false,false,false,false,false,false] [(4,3)] 1 1 [[0],[1],[2],[4],[7]] .mon [aH a0,aS .entry a0.IoBuffer,aI a2,aI a3,aI a4,aI a5,aB a6]=zkX N a0 a0.IoBuffer a2 a3 a4 a5 a6:=by kernel_rfl
theorem zu8 {N:Nat}{r:Host}{m g page:Int}{io:Bool}{z1 z2 z3 z4}(hb:r.Buffer.length<=1048576)(hi:r.IoBuffer.length<=1048576) :
 zkq N page io (zgR m g) (zdB (zbZ r m g) page).Page (zdB (zbZ r m g) page).Rights r.Memory r.Mons r.Buffer r.IoBuffer z1 z2 z3 z4=some (zge (zdq r m g page io)):=by
 unfold zkq oN
 conv=>zeta
 refine shr ?_;cases io
 .exact ze0 rfl (must (zbh hb) rfl)
 .exact must rfl (must (zbh hi) rfl)
theorem zGo {N:Nat}{r:Host}{m g page need q:Int}{io:Bool}{R:OA}{r11}{u6 u7 u8 u9 u10 z1 z2 z3 z4}(A:LookAt r m g q need)(hr:r11 (page,(io,(u6,(u7,(u8,(u9,(u10,((zdB (zbZ (zb8 (mended r m q need) m g page) m g) page).Page,((zdB (zbZ (zb8 (mended r m q need) m g page) m g) page).Rights,((zb8 (mended r m q need) m g page).Memory,((zb8 (mended r m q need) m g page).Mons,((zb8 (mended r m q need) m g page).Buffer,((zb8 (mended r m q need) m g page).IoBuffer,(z1,(z2,(z3,(z4,())))))))))))))))))=R) :
 zlU N r.Memory r.Mons r.Buffer r.IoBuffer m q need g page r11 io u6 u7 u8 u9 u10 z1 z2 z3 z4=R:=by
 have M:=zjV A.kp A.hm A.hg;have F:=zjV (A.fill page) A.hm A.hg;unfold zlU oN
 conv=>zeta
 exact must (zbh A.mend) (must (zA M.hm) (must (zA M.hm) (must (zA M.ht) (must (zA M.hm) (must (zA M.hg) (must (zA M.hm) (must (zbh M.hk) (must (zA M.ht) (shr (must (zA F.hm) (must (zA F.ht) (must (zbh F.hk) hr))))))))))))
theorem zKs {r:Host}{m g page need:Int}(h:ziu (zbZ r m g) page=false):zdi r m g page need=true:=by
 unfold zdi;rw[h];rfl
theorem zKt {r:Host}{m g page need:Int}(h:ieq (zdB (zbZ r m g) page).Page (-1)=true):zdi r m g page need=true:=by
 unfold zdi;rw[h];cases ziu (zbZ r m g) page<;>rfl
theorem zKu {r:Host}{m g page need:Int}(h:enough (zdB (zbZ r m g) page).Rights need=false):zdi r m g page need=true:=by
 unfold zdi;rw[h];cases ziu (zbZ r m g) page<;>cases ieq (zdB (zbZ r m g) page).Page (-1)<;>rfl
theorem zKv {r:Host}{m g page need:Int}(h1:ziu (zbZ r m g) page=true)(h2:ieq (zdB (zbZ r m g) page).Page (-1)=false)(h3:enough (zdB (zbZ r m g) page).Rights need=true):zdi r m g page need=false:=by
 unfold zdi;rw[h1,h2,h3];rfl
theorem zm9 {r:Host}{m g page need q:Int}{io:Bool}(h:zdi r m g page need=true):(cond (zdi r m g page need) (zdq (zb8 (mended r m q need) m g page) m g page io) (zdq r m g page io))=zdq (zb8 (mended r m q need) m g page) m g page io:=by
 rw[h];rfl
theorem zKf {r:Host}{m g page need q:Int}{io:Bool}(h:zdi r m g page need=false):(cond (zdi r m g page need) (zdq (zb8 (mended r m q need) m g page) m g page io) (zdq r m g page io))=zdq r m g page io:=by
 rw[h];rfl
theorem zu9 {N:Nat}{r:Host}{m g page need q:Int}{io:Bool}{u7 u8 u9 u10 z1 z2 z3 z4}(A:LookAt r m g q need) :
 zhE N m g page need io q (zgR m g) u7 u8 u9 u10 r.Memory r.Mons r.Buffer r.IoBuffer z1 z2 z3 z4=some (zge (cond (zdi r m g page need) (zdq (zb8 (mended r m q need) m g page) m g page io) (zdq r m g page io))):=by
 have M:=zjV ⟨A.fit.1,rfl⟩ A.hm A.hg;have F:=zjV (A.fill page) A.hm A.hg;unfold zhE oN nB
 conv=>zeta
 refine must (zA M.hm) (must (zA M.ht) (must (zbh M.hk) (shr (brN (fun h1=>?_) (fun h1=>br (fun h2=>?_) (fun h2=>must rfl (brN (fun h3=>?_) (fun h3=>?_))))))))
 .rw [zm9 (zKs h1)];exact zGo A (zu8 (r:=zb8 (mended r m q need) m g page) (m:=m) (g:=g) F.hb F.hi)
 .rw [zm9 (zKt h2)];exact zGo A (zu8 (r:=zb8 (mended r m q need) m g page) (m:=m) (g:=g) F.hb F.hi)
 .rw [zm9 (zKu h3)];exact zGo A (zu8 (r:=zb8 (mended r m q need) m g page) (m:=m) (g:=g) F.hb F.hi)
 .rw [zKf (zKv h1 h2 h3)];exact zu8 (r:=r) (m:=m) (g:=g) M.hb M.hi
theorem zvc {b:List Entry}{m g page need:Int}(h:(znu b m g page).isSome=false):zhI b m g page need=false:=by
 unfold zhI;rw[h];rfl
theorem zjk {b:List Entry}{m g page need:Int}{x:Bool}(h1:(znu b m g page).isSome=true)(h:enough ((znu b m g page).getD ⟨0,0,0,0⟩).Rights need=x):zhI b m g page need=x:=by
 unfold zhI;rw[h1,h];rfl
theorem zjt {r:Host}{b:List Entry}{m g page need q:Int}{io:Bool}(h:zhI b m g page need=false):zfJ r b m g page need q io=bif zdi r m g page need then zdq (zb8 (mended r m q need) m g page) m g page io else zdq r m g page io:=by
 unfold zfJ;rw[h];rfl
theorem zvh {r:Host}{b:List Entry}{m g page need q:Int}{io:Bool}(h:zhI b m g page need=true):zfJ r b m g page need q io=(r,((znu b m g page).getD ⟨0,0,0,0⟩).Host,true):=by
 unfold zfJ;rw[h];rfl
theorem zHC {h:Host}{b:List Entry}{m g page need:Int}{io:Bool}(hh:zcH h m g page need=true):lookOf h b m g page need io=zfJ (cond (ieq need 2) (zbn h m (zb1 (zcr h m g) page need)) h) b m g page need (zb1 (zcr h m g) page need) io:=by
 unfold lookOf;rw[hh];rfl
theorem zMZ {N:Nat}{r:Host}{b:List Entry}{m g page need:Int}{io:Bool}(hs:SmH r)(hg:zbU r m g=true)(hn:zeT need=true) :
 zlV N m r g page need b io=some (zge (lookOf r b m g page need io)):=by
 obtain ⟨g1,g2,g3⟩:=zd2 hg;unfold zlV oN nB
 conv=>zeta
 refine must (zA g2) (must (zA g3) (must rfl (brN (fun hw=>?_) (fun hw=>must rfl ?_))))
 .have:zcH r m g page need=false:=by
   unfold zcH;rw[hg,hn,show zes (zcr r m g) page need=false from hw]
   rfl
  rw[zgF this];rfl
 .have hl:zcH r m g page need=true:=by
   unfold zcH;rw[hg,hn,show zes (zcr r m g) page need=true from hw]
   rfl
  obtain ⟨A,B⟩:=ztM hs hl;rw[zHC hl];have hd:hasB (zb1 (zcr r m g) page need) (ln (ix r.Mons m mZ).Dirty)=true:=zcg (zbx A.fit.1 g2).2.2.2.1 A.hq;refine br (fun h2=>?_) (fun h2=>?_)
  .rw [h2]
   show _=some (zge (zfJ (zbn r m (zb1 (zcr r m g) page need)) b m g page need (zb1 (zcr r m g) page need) io))
   refine must (zA g2) (must (zA hd) (shr (must rfl (shr (br (fun f1=>must rfl (br (fun f2=>?_) (fun f2=>?_))) (fun f1=>?_))))))
   .rw [zvh (zjk f1 f2)];rfl
   .rw [zjt (zjk f1 f2)];exact zu9 (r:=zbn r m (zb1 (zcr r m g) page need)) B
   .rw [zjt (zvc f1)];exact zu9 (r:=zbn r m (zb1 (zcr r m g) page need)) B
  .rw [h2]
   show _=some (zge (zfJ r b m g page need (zb1 (zcr r m g) page need) io))
   refine must rfl (shr (br (fun f1=>must rfl (br (fun f2=>?_) (fun f2=>?_))) (fun f1=>?_)))
   .rw [zvh (zjk f1 f2)];rfl
   .rw [zjt (zjk f1 f2)];exact zu9 A
   .rw [zjt (zvc f1)];exact zu9 A
theorem zFd (a0:Host)(a1:List Entry)(a2 a3:Int)(a4 a5:Int)(a6:Bool)(hb:zbu big [aH a0,aS .entry a1,aI a2,aI a3,aI a4,aI a5,aB a6])(hc:zwV a0 a1 a2 a3 a4 a5 a6=true):∃N,zkX N a0 a1 a2 a3 a4 a5 a6=some [aH (zwS a0 a1 a2 a3 a4 a5 a6),aI (zwT a0 a1 a2 a3 a4 a5 a6),aB (zwU a0 a1 a2 a3 a4 a5 a6)]:=by
 have hs:=(zbI a0).1 (zC.1 hc);refine ⟨0,?_⟩
 show _=some (zge (lookOf a0 a1 a2 a3 a4 a5 a6))
 unfold zkX oN nB
 conv=>zeta
 refine must rfl (brN (fun h1=>?_) (fun h1=>must rfl ?_))
 .rw [zgF (zju (zBF h1))];rfl
 rw[show zZ a2 0 (wsub .i64 (ln a0.Mons) 1)=hasB a2 (ln a0.Mons) from zvw hs.2.1.1 a2]
 refine brN (fun h2=>?_) (fun h2=>must (zA h2) (must rfl ?_))
 .rw [zgF (zju (zBG h2))];rfl
 have hl:(ix a0.Mons a2 mZ).Guests.length<=1048576:=(hs.2.1.2 _ (zb7 h2 _)).2.2.2.1.1;rw[show zZ a3 0 (wsub .i64 (ln (ix a0.Mons a2 zi).Guests) 1)=hasB a3 (ln (ix a0.Mons a2 mZ).Guests) from zvw hl a3]
 refine brN (fun h3=>?_) (fun h3=>?_)
 .rw [zgF (zju (zBH h3))];rfl
 have hg:=zBI h1 h2 h3;have hno:∀{n:Int},zeT n=false->zcH a0 a2 a3 a4 n=false:=fun {n} h=>by
  unfold zcH;rw[hg,h];rfl
 rw[zhU,zhU];cases h4:ieq a5 1
 .cases h5:ieq a5 2
  .have:zeT a5=false:=by unfold zeT;rw[h4,h5];rfl
   rw[zgF (hno this)];rfl
  .exact zMZ hs hg (by unfold zeT;rw[h4,h5];rfl)
 .exact zMZ hs hg (by unfold zeT;rw[h4];rfl)
theorem zAb:zcP Tryz.prog 265 [true,true,true,true,false,false,false,false,false,false] (some (1,1,[[0],[1],[2],[4],[7]])) zmg:=by
 refine zBJ (kt:=.mon) (zb3 zxp zq zfa zvu) (zcX (by kernel_rfl)) ?_
 intro al avs rs hal heq hl hr h;have hb:=zfL hr;have hal':al=[(4,2)]\/al=[(4,3)]:=by
  rw[show zff 265=[[(4,2)],[(4,3)]] from by kernel_rfl]at hal
  simpa using hal
 unfold zmg at h;split at h
 .rename_i a0_0 a0_1 a0_2 a0_3 a1 a2 a3 a4 a5 a6;obtain ⟨hc,rfl⟩:=zhu h;obtain ⟨N,hN⟩:=zFd (⟨a0_0,a0_1,a0_2,a0_3⟩:Host) a1 a2 a3 a4 a5 a6 hb hc;refine ⟨⟨_,rfl⟩,rfl,zmo,N,12,?_⟩;rcases hal' with rfl|rfl
  .have e:=heq 4 2 (by simp)
   simp only[zk,j5,AV.cvs] at e;cases e;exact (zC9 N (⟨a0_0,a0_1,a0_2,a0_3⟩:Host) a2 a3 a4 a5 a6).trans hN
  .have e:=heq 4 3 (by simp)
   simp only[zk,j5,AV.cvs] at e;cases e;exact (zDa N (⟨a0_0,a0_1,a0_2,a0_3⟩:Host) a2 a3 a4 a5 a6).trans hN
 .cases h
def zPp:zdl:=[(265,([true,true,true,true,false,false,false,false,false,false],(some (1,1,[[0],[1],[2],[4],[7]])),zmg))]++zL7
theorem znf:zcR zPp:=zkU zvu (by
 intro x hx;simp only[qG,qU,or_false]at hx;rcases hx with rfl
 .exact zAb)
def gOf (h:Host)(m g:Int):Guest:=ix (ix h.Mons m mZ).Guests g gZ
def zgd (h:Host)(m g:Int)(x:Guest):Host:={ h with Mons:=up h.Mons m { ix h.Mons m mZ with Guests:=up (ix h.Mons m mZ).Guests g x } }
def zlc (h:Host)(m g:Int)(x:Guest)(w:Bool):Host×Int×Bool:=lookOf h h.Buffer m g (zdm (address x)) (zfl w) false
def zkV (L:Host×Int×Bool)(m g:Int)(x:Guest)(w:Bool):Host :=
 bif L.2.2 then (cond w (zgd { L.1 with Memory:=zfI L.1.Memory L.2.1 (zgT (address x)) x.A } m g (zbs x)) (zgd L.1 m g (loaded x (cellAt L.1.Memory L.2.1 (zgT (address x))))))
 else zgd L.1 m g (stopped x (ztn (zdm (address x)) w))
def owned (h:Host)(m:Int):Host:=bif ilt (ix h.Mons m mZ).Own 1000000000 then { h with Mons:=up h.Mons m { ix h.Mons m mZ with Own:=zB .i64 (ix h.Mons m mZ).Own 1 } } else h
def zjY (h:Host)(m n:Int):Host:=bif ilt (ln (ix h.Mons m mZ).Outs) 40 then { h with Mons:=up h.Mons m { ix h.Mons m mZ with Outs:=ap (ix h.Mons m mZ).Outs [n] } } else h
def zh6 (h:Host)(m:Int)(x:Guest)(w:Int):Host:=bif (cond (ine w 6) (ieq (zl4 (ix h.Mons m mZ).Traps x.Ctl.Traps (zer w)) 2) false) then owned h m else h
def zoY (h:Host)(m:Int)(x:Guest)(w:Int):Host:=bif (cond (zh8 x.Ctl.Traps w) (ieq w 5) false) then zjY h m (zc4 x.Prog x.Pc).X else h
def zm0 (h:Host)(m g:Int)(x:Guest)(w:Int):Host:=zgd (zoY (zh6 h m x w) m x w) m g (zh7 x x.Ctl.Traps w)
def zA5 (h:Host)(m g:Int)(x:Guest)(w:Int):Host×Bool :=
 bif ieq w 0 then (h,false) else (bif ieq w 1 then (zgd h m g (interrupted x),true) else (bif ieq w 2 then (zgd h m g (plainly x),true) else
  (cond (cond (ieq w 3) true (ieq w 4)) (zkV (zlc h m g x (ieq w 4)) m g x (ieq w 4),true) (zm0 h m g x w,true))))
def zdJ (h:Host)(m g:Int):Host×Bool:=bif zbU h m g then zA5 h m g (gOf h m g) (zF (gOf h m g)) else (h,false)
def zpl (x:Host×Bool):List AV:=[.agg (zbi x.1),.one (.b x.2)]
theorem zA1 {h:Host}{m g:Int}(hs:SmH h)(hm:hasB m (ln h.Mons)=true)(hg:hasB g (ln (ix h.Mons m mZ).Guests)=true):SmG (gOf h m g):=(hs.2.1.2 _ (zb7 hm _)).2.2.2.1.2 _ (zb7 hg _)
theorem zLX {h:Host}{m g:Int}{x:Guest}(hs:Shape h)(hm:hasB m (ln h.Mons)=true)(hx:SmG x):Shape (zgd h m g x):=by
 obtain ⟨g1,g2⟩:=zbx hs hm;exact zfH hs ⟨g1.1,g1.2.1,g1.2.2.1,zDl g1.2.2.2.1 hx,g1.2.2.2.2⟩ ⟨g2.1,g2.2.1,g2.2.2.1,by simpa using g2.2.2.2⟩
theorem zSs (o i t:Int):ieq (zl4 o i t) 1=zcN i t:=by
 unfold zl4;cases zcN i t
 .cases zcN o t<;>rfl
 .rfl
theorem zSt {o i t:Int}(h:zcN i t=true):ieq (zl4 o i t) 2=false:=by
 unfold zl4;rw[h];rfl
theorem ztN {h:Host}{m:Int}(hm:hasB m (ln h.Mons)=true)(x:Mon):ix (up h.Mons m x) m mZ=x:=by
 obtain ⟨k,rfl,hk⟩:=zcO (n:=h.Mons.length) hm;exact zdp hk _ _
theorem zQw {α:Type}{l:List α}{x:α}(h:ilt (ln l) 40=true):few (ln (ap l [x]))=true:=by
 have:=qJ h;simp only[ln] at this;exact zeM (by simp[ap];omega)
theorem zKz {h:Host}{m:Int}{x:Guest}{w:Int}(hh:(cond (zh8 x.Ctl.Traps w) (ieq w 5) false)=false):zoY h m x w=h:=by
 unfold zoY;rw[hh];rfl
theorem zNS {h:Host}{m:Int}{x:Guest}{w:Int}(h1:zh8 x.Ctl.Traps w=false):zoY h m x w=h:=zKz (by rw[h1];rfl)
theorem zSF {h:Host}{m:Int}{x:Guest}{w:Int}(h1:ieq w 5=false):zoY h m x w=h:=zKz (by rw[h1];cases zh8 x.Ctl.Traps w<;>rfl)
theorem zM9 (a:Int):(cond (ieq a a) true false)=true:=by rw[zx2];rfl
theorem zvs {h:Host}{m g:Int}(hh:zbU h m g=false):zdJ h m g=(h,false):=by
 unfold zdJ;rw[hh];rfl
theorem zIl {h:Host}{m g:Int}(hh:zbU h m g=true):zdJ h m g=zA5 h m g (gOf h m g) (zF (gOf h m g)):=by
 unfold zdJ;rw[hh];rfl
@[simp] abbrev zrl (h:Host)(m g page need:Int)(io:Bool):Bool:=pc (zcQ h)
@[simp] abbrev zri (h:Host)(m g page need:Int)(io:Bool):Host:=(lookOf h (zmz h io) m g page need io).1
@[simp] abbrev zrj (h:Host)(m g page need:Int)(io:Bool):Int:=(lookOf h (zmz h io) m g page need io).2.1
@[simp] abbrev zrk (h:Host)(m g page need:Int)(io:Bool):Bool:=(lookOf h (zmz h io) m g page need io).2.2
def zum:Run:=rF6 dH dI dI dI dI dB fun b c d e f g=>(zrl b c d e f g,[aH (zri b c d e f g),aI (zrj b c d e f g),aB (zrk b c d e f g)])
abbrev zFL (u9_10:lM)(u9_11:lN)(u9_12:lE)(u9_13:lE)(u9_0:Int)(u9_4:Int)(u9_3:Int):Mon :=
 (ix (znH (⟨u9_10,u9_11,u9_12,u9_13⟩:Host) u9_0 u9_4 u9_3).Mons u9_0 zi)
def zlN (N:Nat)(u10_0:Int)(u10_1:Int)(u10_2:Int)(u10_3:Int)(u10_8:lM)(u10_9:lN)(u10_10:lE)(u10_11:lE):OA:=
 let y0:=(⟨u10_1,u10_0,u10_2,u10_3⟩:Entry); (oN (zjP u10_11 y0) (some [(aH (⟨u10_8,u10_9,u10_10,(zjO u10_11 y0)⟩:Host)),(aI u10_2),(aB true)]))
def zni (N:Nat)(u9_10:lM)(u9_11:lN)(u9_12:lE)(u9_13:lE)(u9_0:Int)(u9_4:Int)(u9_3:Int)(u9_1:Int)(u9_2:Int)(r10:((Int×(Int×(Int×(Int×(lM×(lN×(lE×(lE×(lM×(lN×(lE×(lE×Unit)))))))))))))->OA)(u9_5:Int)(u9_6:lM)(u9_7:lN)(u9_8:lE)(u9_9:lE):OA:=
 let y6:=(⟨u9_10,u9_11,u9_12,u9_13⟩:Host);let y1:=(znH y6 u9_0 u9_4 u9_3);let y0:=(zFL u9_10 u9_11 u9_12 u9_13 u9_0 u9_4 u9_3);let y5:=(ix y0.Tables u9_1 zdw);let y3:=(ix y0.Guests u9_1 zG).Live; (oN (zxW y6 u9_0 u9_4 u9_3) (oN (inb u9_0 (ln y1.Mons)) (oN (inb u9_1 (ln y0.Tables)) (oN (inb u9_1 (ln y0.Guests)) (oN (zxV y5 y3 y0.Outer u9_2) (oN (inb u9_1 (ln y0.Tables)) (share (up y1.Mons u9_0 ({ y0 with Tables:=(up y0.Tables u9_1 (zAf y5 y3 y0.Outer u9_2)) }:Mon)) (fun x11=>let y4:=(ix x11 u9_0 zi).Tables;let y2:=(ix y4 u9_1 zdw); (oN (inb u9_1 (ln y4)) (oN (zpV y2 u9_2) (r10 (u9_2,(u9_5,((zm6 y2 u9_2).Page,((zm6 y2 u9_2).Rights,(u9_6,(u9_7,(u9_8,(u9_9,(y1.Memory,(x11,(y1.Buffer,(y1.IoBuffer,())))))))))))))))))))))))
def zjz (N:Nat)(u9_11:lN)(u9_0:Int)(u9_1:Int)(u9_2:Int)(u9_10:lM)(u9_12:lE)(u9_13:lE)(u9_4:Int)(u9_3:Int)(r10:((Int×(Int×(Int×(Int×(lM×(lN×(lE×(lE×(lM×(lN×(lE×(lE×Unit)))))))))))))->OA)(u9_5:Int)(u9_6:lM)(u9_7:lN)(u9_8:lE)(u9_9:lE):OA:=
 let y1:=(zni N u9_10 u9_11 u9_12 u9_13 u9_0 u9_4 u9_3 u9_1 u9_2 r10 u9_5 u9_6 u9_7 u9_8 u9_9);let y0:=(ix (ix u9_11 u9_0 zi).Tables u9_1 zdw);let y2:=(zm6 y0 u9_2); (cond (nB (zvf y0 u9_2)) y1 (cond (ieq y2.Page (-1)) y1 (oN (zcl y2.Rights u9_3) (cond (nB (zcK y2.Rights u9_3)) y1 (r10 (u9_2,(u9_5,(y2.Page,(y2.Rights,(u9_6,(u9_7,(u9_8,(u9_9,(u9_10,(u9_11,(u9_12,(u9_13,())))))))))))))))))
def zlO (N:Nat)(u9_0:Int)(u9_1:Int)(u9_2:Int)(u9_3:Int)(u9_4:Int)(u9_5:Int)(u9_6:lM)(u9_7:lN)(u9_8:lE)(u9_9:lE)(u9_10:lM)(u9_11:lN)(u9_12:lE)(u9_13:lE):OA:=
 let y0:=(ix u9_11 u9_0 zi).Tables; (oN (inb u9_0 (ln u9_11)) (oN (inb u9_1 (ln y0)) (oN (zpV (ix y0 u9_1 zdw) u9_2) (share (fun (s10:(Int×(Int×(Int×(Int×(lM×(lN×(lE×(lE×(lM×(lN×(lE×(lE×Unit)))))))))))))=>(zlN N s10.1 s10.2.1 s10.2.2.1 s10.2.2.2.1 s10.2.2.2.2.2.2.2.2.1 s10.2.2.2.2.2.2.2.2.2.1 s10.2.2.2.2.2.2.2.2.2.2.1 s10.2.2.2.2.2.2.2.2.2.2.2.1)) (fun r10=>(zjz N u9_11 u9_0 u9_1 u9_2 u9_10 u9_12 u9_13 u9_4 u9_3 r10 u9_5 u9_6 u9_7 u9_8 u9_9))))))
def zlP (N:Nat)(u10_0:Int)(u10_1:Int)(u10_2:Int)(u10_3:Int)(u10_8:lM)(u10_9:lN)(u10_10:lE)(u10_11:lE):OA:=
 let y0:=(⟨u10_1,u10_0,u10_2,u10_3⟩:Entry); (oN (zjP u10_10 y0) (some [(aH (⟨u10_8,u10_9,(zjO u10_10 y0),u10_11⟩:Host)),(aI u10_2),(aB true)]))
def zlQ (N:Nat)(u9_0:Int)(u9_1:Int)(u9_2:Int)(u9_3:Int)(u9_4:Int)(u9_5:Int)(u9_6:lM)(u9_7:lN)(u9_8:lE)(u9_9:lE)(u9_10:lM)(u9_11:lN)(u9_12:lE)(u9_13:lE):OA:=
 let y0:=(ix u9_11 u9_0 zi).Tables; (oN (inb u9_0 (ln u9_11)) (oN (inb u9_1 (ln y0)) (oN (zpV (ix y0 u9_1 zdw) u9_2) (share (fun (s10:(Int×(Int×(Int×(Int×(lM×(lN×(lE×(lE×(lM×(lN×(lE×(lE×Unit)))))))))))))=>(zlP N s10.1 s10.2.1 s10.2.2.1 s10.2.2.2.1 s10.2.2.2.2.2.2.2.2.1 s10.2.2.2.2.2.2.2.2.2.1 s10.2.2.2.2.2.2.2.2.2.2.1 s10.2.2.2.2.2.2.2.2.2.2.2.1)) (fun r10=>(zjz N u9_11 u9_0 u9_1 u9_2 u9_10 u9_12 u9_13 u9_4 u9_3 r10 u9_5 u9_6 u9_7 u9_8 u9_9))))))
def zlR (N:Nat)(u8_0:Int)(u8_1:Int)(u8_2:Int)(u8_3:Int)(u8_4:Bool)(u8_5:Int)(u8_6:lM)(u8_7:lN)(u8_8:lE)(u8_9:lE)(u8_10:lM)(u8_11:lN)(u8_12:lE)(u8_13:lE):OA:=
 let y1:=(aH (⟨u8_10,u8_11,u8_12,u8_13⟩:Host));let y0:=(zpY u8_0 u8_1);let y3:=(zgo u8_12 y0 u8_2);let y2:=(zgo u8_13 y0 u8_2); (cond u8_4 (oN (zov u8_0 u8_1) (share (fun (s9:(Int×(Int×(Int×(Int×(Int×(Int×(lM×(lN×(lE×(lE×(lM×(lN×(lE×(lE×Unit)))))))))))))))=>(zlO N s9.1 s9.2.1 s9.2.2.1 s9.2.2.2.1 s9.2.2.2.2.1 s9.2.2.2.2.2.1 s9.2.2.2.2.2.2.1 s9.2.2.2.2.2.2.2.1 s9.2.2.2.2.2.2.2.2.1 s9.2.2.2.2.2.2.2.2.2.1 s9.2.2.2.2.2.2.2.2.2.2.1 s9.2.2.2.2.2.2.2.2.2.2.2.1 s9.2.2.2.2.2.2.2.2.2.2.2.2.1 s9.2.2.2.2.2.2.2.2.2.2.2.2.2.1)) (fun r9=>(oN (ziN u8_13 y0 u8_2) (cond (zgp u8_13 y0 u8_2) (oN (zcl y2.Rights u8_3) (cond (zcK y2.Rights u8_3) (some [y1,(aI y2.Host),(aB true)]) (r9 (u8_0,(u8_1,(u8_2,(u8_3,(u8_5,(y0,(u8_6,(u8_7,(u8_8,(u8_9,(u8_10,(u8_11,(u8_12,(u8_13,()))))))))))))))))) (r9 (u8_0,(u8_1,(u8_2,(u8_3,(u8_5,(y0,(u8_6,(u8_7,(u8_8,(u8_9,(u8_10,(u8_11,(u8_12,(u8_13,())))))))))))))))))))) (oN (zov u8_0 u8_1) (share (fun (s9:(Int×(Int×(Int×(Int×(Int×(Int×(lM×(lN×(lE×(lE×(lM×(lN×(lE×(lE×Unit)))))))))))))))=>(zlQ N s9.1 s9.2.1 s9.2.2.1 s9.2.2.2.1 s9.2.2.2.2.1 s9.2.2.2.2.2.1 s9.2.2.2.2.2.2.1 s9.2.2.2.2.2.2.2.1 s9.2.2.2.2.2.2.2.2.1 s9.2.2.2.2.2.2.2.2.2.1 s9.2.2.2.2.2.2.2.2.2.2.1 s9.2.2.2.2.2.2.2.2.2.2.2.1 s9.2.2.2.2.2.2.2.2.2.2.2.2.1 s9.2.2.2.2.2.2.2.2.2.2.2.2.2.1)) (fun r9=>(oN (ziN u8_12 y0 u8_2) (cond (zgp u8_12 y0 u8_2) (oN (zcl y3.Rights u8_3) (cond (zcK y3.Rights u8_3) (some [y1,(aI y3.Host),(aB true)]) (r9 (u8_0,(u8_1,(u8_2,(u8_3,(u8_5,(y0,(u8_6,(u8_7,(u8_8,(u8_9,(u8_10,(u8_11,(u8_12,(u8_13,()))))))))))))))))) (r9 (u8_0,(u8_1,(u8_2,(u8_3,(u8_5,(y0,(u8_6,(u8_7,(u8_8,(u8_9,(u8_10,(u8_11,(u8_12,(u8_13,())))))))))))))))))))))
def zlS (N:Nat)(u7_0:Int)(u7_1:Int)(u7_2:Int)(u7_3:Int)(u7_4:Bool)(u7_8:lM)(u7_9:lN)(u7_10:lE)(u7_11:lE)(u7_12:lM)(u7_13:lN)(u7_14:lE)(u7_15:lE)(u7_19:lG):OA:=
 let y1:=(ix u7_13 u7_0 zi);let y0:=(ix u7_19 u7_1 zG).Live;let y2:=(ze9 y0 u7_2 u7_3); (oN (inb u7_1 (ln u7_19)) (oN (zgq y0 u7_2 u7_3) (cond (nB (zej y0 u7_2 u7_3)) (some [(aH (⟨u7_12,u7_13,u7_14,u7_15⟩:Host)),(aI (-1)),(aB false)]) (share (fun (s8:(Int×(Int×(Int×(Int×(Bool×(Int×(lM×(lN×(lE×(lE×(lM×(lN×(lE×(lE×Unit)))))))))))))))=>(zlR N s8.1 s8.2.1 s8.2.2.1 s8.2.2.2.1 s8.2.2.2.2.1 s8.2.2.2.2.2.1 s8.2.2.2.2.2.2.1 s8.2.2.2.2.2.2.2.1 s8.2.2.2.2.2.2.2.2.1 s8.2.2.2.2.2.2.2.2.2.1 s8.2.2.2.2.2.2.2.2.2.2.1 s8.2.2.2.2.2.2.2.2.2.2.2.1 s8.2.2.2.2.2.2.2.2.2.2.2.2.1 s8.2.2.2.2.2.2.2.2.2.2.2.2.2.1)) (fun r8=>(cond (ieq u7_3 2) (oN (inb u7_0 (ln u7_13)) (oN (inb y2 (ln y1.Dirty)) (share (up u7_13 u7_0 ({ y1 with Dirty:=(up y1.Dirty y2 true) }:Mon)) (fun x9=>r8 (u7_0,(u7_1,(u7_2,(u7_3,(u7_4,(y2,(u7_8,(u7_9,(u7_10,(u7_11,(u7_12,(x9,(u7_14,(u7_15,())))))))))))))))))) (r8 (u7_0,(u7_1,(u7_2,(u7_3,(u7_4,(y2,(u7_8,(u7_9,(u7_10,(u7_11,(u7_12,(u7_13,(u7_14,(u7_15,())))))))))))))))))))))
def zyZ (N:Nat)(a0:Host)(a1 a2:Int)(a3 a4:Int)(a5:Bool):OA:=
 let y1:=(zbe a0);let y0:=(zbz a0 a1); (oN (zeQ a0) (oN (zlz a0 a1) (share (fun (s7:(Int×(Int×(Int×(Int×(Bool×(Int×(Int×(Int×(lM×(lN×(lE×(lE×(lM×(lN×(lE×(lE×(lS×(lM×(lB×(lG×((List Int)×(lK×Unit)))))))))))))))))))))))=>(zlS N s7.1 s7.2.1 s7.2.2.1 s7.2.2.2.1 s7.2.2.2.2.1 s7.2.2.2.2.2.2.2.2.1 s7.2.2.2.2.2.2.2.2.2.1 s7.2.2.2.2.2.2.2.2.2.2.1 s7.2.2.2.2.2.2.2.2.2.2.2.1 s7.2.2.2.2.2.2.2.2.2.2.2.2.1 s7.2.2.2.2.2.2.2.2.2.2.2.2.2.1 s7.2.2.2.2.2.2.2.2.2.2.2.2.2.2.1 s7.2.2.2.2.2.2.2.2.2.2.2.2.2.2.2.1 s7.2.2.2.2.2.2.2.2.2.2.2.2.2.2.2.2.2.2.2.1)) (fun r7=>(oN (zhP a0) (cond (nB (zg8 a0)) (some [(aH y1),(aI (-1)),(aB false)]) (cond (nB (zha a0 a1)) (some [(aH y1),(aI (-1)),(aB false)]) (oN (zby a2 (ln y0.Guests)) (cond (nB (zbS a2 (ln y0.Guests))) (some [(aH y1),(aI (-1)),(aB false)]) (cond (ine a4 1) (cond (ine a4 2) (some [(aH y1),(aI (-1)),(aB false)]) (r7 (a1,(a2,(a3,(a4,(a5,(y0.Pending,(y0.Traps,(y0.Own,([],([],([],([],(y1.Memory,(y1.Mons,(y1.Buffer,(y1.IoBuffer,(y0.Outer,(y0.Out,(y0.Dirty,(y0.Guests,(y0.Outs,(y0.Tables,())))))))))))))))))))))))) (r7 (a1,(a2,(a3,(a4,(a5,(y0.Pending,(y0.Traps,(y0.Own,([],([],([],([],(y1.Memory,(y1.Mons,(y1.Buffer,(y1.IoBuffer,(y0.Outer,(y0.Out,(y0.Dirty,(y0.Guests,(y0.Outs,(y0.Tables,())))))))))))))))))))))))))))))))))
def zIx:FuncId->Nat->Option Tmpl:=zo [(280,999999,{ n:=0,tm:=[],lo:=[],ro:=[] }),(280,1007055,{ n:=200,tm:=[(1,ti),(2,ti),(3,ti),(4,ti),(5,.b),(12,.lp 0 0),(15,.lp 1 0),(16,.lp 2 0)],lo:=[(0,[.sl 0 [],.sl 1 [],.sl 2 [],.sl 3 []]),(1,[.sl 4 [],.sl 5 [],.sl 6 [],.sl 7 []]),(2,[.sl 8 [],.sl 9 [],.sl 10 [],.sl 11 [],.sl 12 [],ti,ti,.sl 13 [],ti])],ro:=[(0,(.sl .int),true),(1,.mon,true),(2,.entry,true),(3,.entry,true),(4,(.sl .int),true),(5,.mon,true),(6,.entry,true),(7,.entry,true),(8,.slot,true),(9,(.sl .int),true),(10,.bool,true),(11,.guest,true),(12,.int,true),(13,.kept,true)] }),(280,1005039,{ n:=200,tm:=[(1,ti),(2,ti),(3,ti),(4,ti),(5,.b),(12,.lp 0 0),(15,.lp 1 0),(18,ti)],lo:=[(0,[.sl 0 [],.sl 1 [],.sl 2 [],.sl 3 []]),(1,[.sl 4 [],.sl 5 [],.sl 6 [],.sl 7 []])],ro:=[(0,(.sl .int),true),(1,.mon,true),(2,.entry,true),(3,.entry,true),(4,(.sl .int),true),(5,.mon,true),(6,.entry,true),(7,.entry,true)] }),(280,1009019,{ n:=200,tm:=[(1,ti),(2,ti),(3,ti),(4,ti),(12,.lp 0 0),(15,.lp 1 0),(18,ti),(20,.lp 1 3),(21,ti)],lo:=[(0,[.sl 0 [],.sl 1 [],.sl 2 [],.sl 3 []]),(1,[.sl 4 [],.sl 5 [],.sl 6 [],.sl 7 []])],ro:=[(0,(.sl .int),true),(1,.mon,true),(2,.entry,true),(3,.entry,true),(4,(.sl .int),true),(5,.mon,true),(6,.entry,true),(7,.entry,true)] }),(280,1011005,{ n:=200,tm:=[(3,ti),(12,.lp 0 0),(15,.lp 1 0),(20,.lp 1 3),(21,ti),(24,.lp 2 0)],lo:=[(0,[.sl 0 [],.sl 1 [],.sl 2 [],.sl 3 []]),(1,[.sl 4 [],.sl 5 [],.sl 6 [],.sl 7 []]),(2,[ti,ti])],ro:=[(0,(.sl .int),true),(1,.mon,true),(2,.entry,true),(3,.entry,true),(4,(.sl .int),true),(5,.mon,true),(6,.entry,true),(7,.entry,true)] }),(280,1001009019,{ n:=200,tm:=[(1,ti),(2,ti),(3,ti),(4,ti),(12,.lp 0 0),(15,.lp 1 0),(18,ti),(20,.lp 1 2),(21,ti)],lo:=[(0,[.sl 0 [],.sl 1 [],.sl 2 [],.sl 3 []]),(1,[.sl 4 [],.sl 5 [],.sl 6 [],.sl 7 []])],ro:=[(0,(.sl .int),true),(1,.mon,true),(2,.entry,true),(3,.entry,true),(4,(.sl .int),true),(5,.mon,true),(6,.entry,true),(7,.entry,true)] }),(280,1001011005,{ n:=200,tm:=[(3,ti),(12,.lp 0 0),(15,.lp 1 0),(20,.lp 1 2),(21,ti),(24,.lp 2 0)],lo:=[(0,[.sl 0 [],.sl 1 [],.sl 2 [],.sl 3 []]),(1,[.sl 4 [],.sl 5 [],.sl 6 [],.sl 7 []]),(2,[ti,ti])],ro:=[(0,(.sl .int),true),(1,.mon,true),(2,.entry,true),(3,.entry,true),(4,(.sl .int),true),(5,.mon,true),(6,.entry,true),(7,.entry,true)] })]
theorem zQA {N:Nat}{r:Host}{m g page:Int}(hi:r.IoBuffer.length<=1048576) :
 zlN N page (zgR m g) (zdB (zbZ r m g) page).Page (zdB (zbZ r m g) page).Rights r.Memory r.Mons r.Buffer r.IoBuffer=some (zge (zdq r m g page true)):=by
 unfold zlN oN
 conv=>zeta
 exact must (zbh hi) rfl
theorem zQC {N:Nat}{r:Host}{m g page:Int}(hi:r.Buffer.length<=1048576) :
 zlP N page (zgR m g) (zdB (zbZ r m g) page).Page (zdB (zbZ r m g) page).Rights r.Memory r.Mons r.Buffer r.IoBuffer=some (zge (zdq r m g page false)):=by
 unfold zlP oN
 conv=>zeta
 exact must (zbh hi) rfl
theorem zOV {N:Nat}{r:Host}{m g page need q:Int}{R:OA}{r10}{u5 u6 u7 u8 u9}(A:LookAt r m g q need)(hr:r10 (page,(u5,((zdB (zbZ (zb8 (mended r m q need) m g page) m g) page).Page,((zdB (zbZ (zb8 (mended r m q need) m g page) m g) page).Rights,(u6,(u7,(u8,(u9,((zb8 (mended r m q need) m g page).Memory,((zb8 (mended r m q need) m g page).Mons,((zb8 (mended r m q need) m g page).Buffer,((zb8 (mended r m q need) m g page).IoBuffer,()))))))))))))=R) :
 zni N r.Memory r.Mons r.Buffer r.IoBuffer m q need g page r10 u5 u6 u7 u8 u9=R:=by
 have M:=zjV A.kp A.hm A.hg;have F:=zjV (A.fill page) A.hm A.hg;unfold zni oN
 conv=>zeta
 exact must (zbh A.mend) (must (zA M.hm) (must (zA M.ht) (must (zA M.hg) (must (zbh M.hk) (must (zA M.ht) (shr (must (zA F.ht) (must rfl hr))))))))
theorem zSo {N:Nat}{r:Host}{m g page need q:Int}{io:Bool}{r10}{u5 u6 u7 u8 u9}(A:LookAt r m g q need)(h1:r10 (page,(u5,((zdB (zbZ (zb8 (mended r m q need) m g page) m g) page).Page,((zdB (zbZ (zb8 (mended r m q need) m g page) m g) page).Rights,(u6,(u7,(u8,(u9,((zb8 (mended r m q need) m g page).Memory,((zb8 (mended r m q need) m g page).Mons,((zb8 (mended r m q need) m g page).Buffer,((zb8 (mended r m q need) m g page).IoBuffer,()))))))))))))=some (zge (zdq (zb8 (mended r m q need) m g page) m g page io)))(h2:r10 (page,(u5,((zdB (zbZ r m g) page).Page,((zdB (zbZ r m g) page).Rights,(u6,(u7,(u8,(u9,(r.Memory,(r.Mons,(r.Buffer,(r.IoBuffer,()))))))))))))=some (zge (zdq r m g page io))) :
 zjz N r.Mons m g page r.Memory r.Buffer r.IoBuffer q need r10 u5 u6 u7 u8 u9=some (zge (cond (zdi r m g page need) (zdq (zb8 (mended r m q need) m g page) m g page io) (zdq r m g page io))):=by
 unfold zjz oN nB
 conv=>zeta
 refine brN (fun f1=>?_) (fun f1=>br (fun f2=>?_) (fun f2=>must rfl (brN (fun f3=>?_) (fun f3=>?_))))
 .rw [zm9 (zKs f1)];exact zOV A h1
 .rw [zm9 (zKt f2)];exact zOV A h1
 .rw [zm9 (zKu f3)];exact zOV A h1
 .rw [zKf (zKv f1 f2 f3)];exact h2
theorem zQB {N:Nat}{r:Host}{m g page need q:Int}{u6 u7 u8 u9}(A:LookAt r m g q need) :
 zlO N m g page need q (zgR m g) u6 u7 u8 u9 r.Memory r.Mons r.Buffer r.IoBuffer=some (zge (cond (zdi r m g page need) (zdq (zb8 (mended r m q need) m g page) m g page true) (zdq r m g page true))):=by
 have M:=zjV ⟨A.fit.1,rfl⟩ A.hm A.hg;have F:=zjV (A.fill page) A.hm A.hg;unfold zlO oN
 conv=>zeta
 exact must (zA M.hm) (must (zA M.ht) (must rfl (shr (zSo A (zQA (r:=zb8 (mended r m q need) m g page) (m:=m) (g:=g) F.hi) (zQA (r:=r) (m:=m) (g:=g) M.hi)))))
theorem zQD {N:Nat}{r:Host}{m g page need q:Int}{u6 u7 u8 u9}(A:LookAt r m g q need) :
 zlQ N m g page need q (zgR m g) u6 u7 u8 u9 r.Memory r.Mons r.Buffer r.IoBuffer=some (zge (cond (zdi r m g page need) (zdq (zb8 (mended r m q need) m g page) m g page false) (zdq r m g page false))):=by
 have M:=zjV ⟨A.fit.1,rfl⟩ A.hm A.hg;have F:=zjV (A.fill page) A.hm A.hg;unfold zlQ oN
 conv=>zeta
 exact must (zA M.hm) (must (zA M.ht) (must rfl (shr (zSo A (zQC (r:=zb8 (mended r m q need) m g page) (m:=m) (g:=g) F.hb) (zQC (r:=r) (m:=m) (g:=g) M.hb)))))
theorem zQE {N:Nat}{r:Host}{m g page need q:Int}{io:Bool}{u6 u7 u8 u9}(A:LookAt r m g q need) :
 zlR N m g page need io q u6 u7 u8 u9 r.Memory r.Mons r.Buffer r.IoBuffer=some (zge (zfJ r (zmz r io) m g page need q io)):=by
 unfold zlR oN
 conv=>zeta
 cases io
 .show _=some (zge (zfJ r r.Buffer m g page need q false))
  refine ze0 rfl (must rfl (shr (must rfl (br (fun f1=>must rfl (br (fun f2=>?_) (fun f2=>?_))) (fun f1=>?_)))))
  .rw [zvh (zjk f1 f2)];rfl
  .rw [zjt (zjk f1 f2)];exact zQD A
  .rw [zjt (zvc f1)];exact zQD A
 .show _=some (zge (zfJ r r.IoBuffer m g page need q true))
  refine must rfl (must rfl (shr (must rfl (br (fun f1=>must rfl (br (fun f2=>?_) (fun f2=>?_))) (fun f1=>?_)))))
  .rw [zvh (zjk f1 f2)];rfl
  .rw [zjt (zjk f1 f2)];exact zQB A
  .rw [zjt (zvc f1)];exact zQB A
theorem zSN (r:Host)(m q:Int)(io:Bool):zmz (zbn r m q) io=zmz r io:=by
 cases io<;>rfl
theorem zQF {N:Nat}{r:Host}{m g page need:Int}{io:Bool}{z1 z2 z3 z4}(hs:SmH r)(hg:zbU r m g=true)(hn:zeT need=true) :
 zlS N m g page need io z1 z2 z3 z4 r.Memory r.Mons r.Buffer r.IoBuffer (ix r.Mons m mZ).Guests=some (zge (lookOf r (zmz r io) m g page need io)):=by
 obtain ⟨g1,g2,g3⟩:=zd2 hg;unfold zlS oN nB
 conv=>zeta
 refine must (zA g3) (must rfl (brN (fun hw=>?_) (fun hw=>?_)))
 .have:zcH r m g page need=false:=by
   unfold zcH;rw[hg,hn,show zes (zcr r m g) page need=false from hw]
   rfl
  rw[zgF this];rfl
 .have hl:zcH r m g page need=true:=by
   unfold zcH;rw[hg,hn,show zes (zcr r m g) page need=true from hw]
   rfl
  obtain ⟨A,B⟩:=ztM hs hl;rw[zHC hl];have hd:hasB (zb1 (zcr r m g) page need) (ln (ix r.Mons m mZ).Dirty)=true:=zcg (zbx A.fit.1 g2).2.2.2.1 A.hq;refine shr (br (fun h2=>?_) (fun h2=>?_))
  .rw [h2]
   show _=some (zge (zfJ (zbn r m (zb1 (zcr r m g) page need)) (zmz r io) m g page need (zb1 (zcr r m g) page need) io))
   rw[<- zSN r m (zb1 (zcr r m g) page need) io];exact must (zA g2) (must (zA hd) (shr (zQE (r:=zbn r m (zb1 (zcr r m g) page need)) B)))
  .rw [h2];exact zQE A
theorem zG9 (a0:Host)(a1 a2:Int)(a3 a4:Int)(a5:Bool)(hc:zrl a0 a1 a2 a3 a4 a5=true):∃N,zyZ N a0 a1 a2 a3 a4 a5=some [aH (zri a0 a1 a2 a3 a4 a5),aI (zrj a0 a1 a2 a3 a4 a5),aB (zrk a0 a1 a2 a3 a4 a5)]:=by
 have hs:=(zbI a0).1 (zC.1 hc);refine ⟨0,?_⟩
 show _=some (zge (lookOf a0 (zmz a0 a5) a1 a2 a3 a4 a5))
 unfold zyZ oN nB
 conv=>zeta
 refine must (zbh ((zbI _).2 hs)) (must (zbh ((zbI _).2 hs)) (shr (must rfl (brN (fun h1=>?_) (fun h1=>?_)))))
 .rw [zgF (zju (zBF h1))];rfl
 refine brN (fun h2=>?_) (fun h2=>?_)
 .rw [zgF (zju (zBG h2))];rfl
 have eM:zbz a0 a1=ix a0.Mons a1 mZ:=by
  unfold zbz;rw[show hasB a1 (ln a0.Mons)=true from h2]
  rfl
 rw[eM];refine must rfl (brN (fun h3=>?_) (fun h3=>?_))
 .rw [zgF (zju (zBH h3))];rfl
 have hg:=zBI h1 h2 h3;have hno:∀{n:Int},zeT n=false->zcH a0 a1 a2 a3 n=false:=fun {n} h=>by
  unfold zcH;rw[hg,h];rfl
 rw[zhU,zhU];cases h4:ieq a4 1
 .cases h5:ieq a4 2
  .have:zeT a4=false:=by unfold zeT;rw[h4,h5];rfl
   rw[zgF (hno this)];rfl
  .exact zQF (r:=a0) hs hg (by unfold zeT;rw[h4,h5];rfl)
 .exact zQF (r:=a0) hs hg (by unfold zeT;rw[h4];rfl)
theorem zCb:uV 280 zum:=kF6 zxp zq zfa znf zIx zG9
def zQh:zK:=[(280,zum)]++zFx
theorem zGf:zx zQh:=zh zCb zxp
@[simp] abbrev zra (h:Host)(m g page need:Int):Bool:=pc (zcQ h)
@[simp] abbrev zmE (h:Host)(m g page need:Int):Host:=(lookOf h h.Buffer m g page need false).1
@[simp] abbrev zmF (h:Host)(m g page need:Int):Int:=(lookOf h h.Buffer m g page need false).2.1
@[simp] abbrev zq9 (h:Host)(m g page need:Int):Bool:=(lookOf h h.Buffer m g page need false).2.2
def zt3:Run:=rF5 dH dI dI dI dI fun b c d e f=>(zra b c d e f,[aH (zmE b c d e f),aI (zmF b c d e f),aB (zq9 b c d e f)])
def zyK (N:Nat)(a0:Host)(a1 a2:Int)(a3 a4:Int):OA:=
 (oN (zrl a0 a1 a2 a3 a4 false) (some [(aH (zri a0 a1 a2 a3 a4 false)),(aI (zrj a0 a1 a2 a3 a4 false)),(aB (zrk a0 a1 a2 a3 a4 false))]))
theorem zGT (a0:Host)(a1 a2:Int)(a3 a4:Int)(hc:zra a0 a1 a2 a3 a4=true):∃N,zyK N a0 a1 a2 a3 a4=some [aH (zmE a0 a1 a2 a3 a4),aI (zmF a0 a1 a2 a3 a4),aB (zq9 a0 a1 a2 a3 a4)]:=by
 refine ⟨0,?_⟩;unfold zyK oN;exact must hc rfl
theorem zBV:uV 163 zt3:=kF5 zGf zq zfa znf (zo []) zGT
def zQi:zK:=[(163,zt3)]++zQh
theorem zOx:zx zQi:=zh zBV zGf
def brought (n a b:Int):Int:=bif ilt n a then a else (cond (ilt b a) a (zCC n b))
@[simp] abbrev zlf (_ _ _:Int):Bool:=true
@[simp] abbrev zlF (n a b:Int):Int:=brought n a b
def zmb:Run:=rF3 dI dI dI fun b c d=>(zlf b c d,[aI (zlF b c d)])
def zwc (N:Nat)(a0 a1 a2:Int):OA:=
 (cond (ilt a2 a1) (some [(aI a1)]) (cond (ilt a0 a1) (some [(aI a1)]) (cond (igt a0 a2) (some [(aI a2)]) (some [(aI a0)]))))
theorem zEZ (a0 a1 a2:Int)(hc:zlf a0 a1 a2=true):∃N,zwc N a0 a1 a2=some [aI (zlF a0 a1 a2)]:=by
 refine ⟨0,?_⟩;unfold zwc;unfold zlF brought zCC;cases h1:ilt a2 a1<;>cases h2:ilt a0 a1<;>cases h3:igt a0 a2<;>simp [igt] at * <;> omega
theorem zos:uV 143 zmb:=kF3 znp zq zl zn (zo []) zEZ
structure RI (a:List Bare) (i:Nat) (l:List Bare):Prop where
 len:l.length=a.length
 sm:zKH l
 eq:∀k,i<=k->l[k]?=a[k]?
theorem RI.up {a l:List Bare}{i:Nat}(h:RI a i l)(x:Bare)(hx:SmB x):RI a (i+1) (up l (i:Int) x) :=
 ⟨by rw[zlM];exact h.len,zRK h.sm hx,fun k hk=>by rw[zSf (by omega)];exact h.eq k (by omega)⟩
structure RJ (l:List Bare) (i:Nat) (l':List Bare):Prop where
 len:l'.length=l.length
 sm:SmB (ix l' (i:Int) zSJ)
 up:∀x,E.up l' (i:Int) x=E.up l (i:Int) x
theorem RJ.next {l l':List Bare}{i:Nat}(h:RJ l i l')(hi:i<l.length)(x:Bare)(hx:SmB x):RJ l i (E.up l' (i:Int) x) :=
 ⟨by rw[zlM];exact h.len,by rw[zdp (by rw[h.len];exact hi)];exact hx,fun y=>by rw[zrP];exact h.up y⟩
def zMS:zK:=[(174,zkN)]++zQi
theorem zDW:zx zMS:=zh znw zOx
@[simp] abbrev znE (h:Host)(m g:Int):Bool:=pc (zcQ h)
@[simp] abbrev znC (h:Host)(m g:Int):Host:=(zdJ h m g).1
@[simp] abbrev znD (h:Host)(m g:Int):Bool:=(zdJ h m g).2
def zqe:Run:=rF3 dH dI dI fun b c d=>(znE b c d,[aH (znC b c d),aB (znD b c d)])
abbrev zeE (a0:Host)(a1 a2:Int):Int :=
 (zg6 (ix (zbz a0 a1).Guests a2 zG))
abbrev zbX (a0:Host)(a1 a2:Int):Int :=
 (zeO (ix (zbz a0 a1).Guests a2 zG))
abbrev zpB (a0:Host)(a1 a2:Int):Host :=
 (zmE a0 a1 a2 (zcL (zeE a0 a1 a2)) (zc9 (ieq (zbX a0 a1 a2) 4)))
abbrev zeD (a0:Host)(a1 a2:Int):Guest :=
 (ix (ix (zbe a0).Mons a1 zi).Guests a2 zG)
abbrev zhx (x4:lN)(a1 a2:Int):Guest :=
 (ix (ix x4 a1 zi).Guests a2 zG)
abbrev zpC (a0:Host)(a1 a2:Int):Int :=
 (zmF a0 a1 a2 (zcL (zeE a0 a1 a2)) (zc9 (ieq (zbX a0 a1 a2) 4)))
def zhy (N:Nat)(a0:Host)(a1 a2:Int):OA:=
 let y5:=(zpC a0 a1 a2);let y4:=(ieq (zbX a0 a1 a2) 4);let y3:=(zeE a0 a1 a2);let y2:=(zpB a0 a1 a2);let y6:=(inb a1 (ln y2.Mons));let y1:=(ix (zbz a0 a1).Guests a2 zG);let y0:=(ix y2.Mons a1 zi);let y7:=(inb a2 (ln y0.Guests)); (oN (zd4 y3) (oN (zjN y4) (oN (zra a0 a1 a2 (zcL y3) (zc9 y4)) (cond (nB (zq9 a0 a1 a2 (zcL y3) (zc9 y4))) (oN (zd4 y3) (oN (zgn (zcL y3) y4) (oN (zcG y1 (zfB (zcL y3) y4)) (oN y6 (oN y7 (share (up y2.Mons a1 ({ y0 with Guests:=(up y0.Guests a2 (zdc y1 (zfB (zcL y3) y4))) }:Mon)) (fun x4=>(some [(aH ({ y2 with Mons:=x4 }:Host)),(aB true)])))))))) (cond y4 (oN (zd3 y3) (oN (zhd y2.Memory y5 (zdR y3) y1.A) (oN (zjR y1) (oN y6 (oN y7 (share (up y2.Mons a1 ({ y0 with Guests:=(up y0.Guests a2 (zhb y1)) }:Mon)) (fun x4=>(some [(aH ({ y2 with Memory:=(zhT y2.Memory y5 (zdR y3) y1.A),Mons:=x4 }:Host)),(aB true)])))))))) (oN (zd3 y3) (oN (zjK y2.Memory y5 (zdR y3)) (oN (zjM y1 (zi1 y2.Memory y5 (zdR y3))) (oN y6 (oN y7 (share (up y2.Mons a1 ({ y0 with Guests:=(up y0.Guests a2 (zg9 y1 (zi1 y2.Memory y5 (zdR y3)))) }:Mon)) (fun x4=>(some [(aH ({ y2 with Mons:=x4 }:Host)),(aB true)])))))))))))))
def zhz (N:Nat)(a0:Host)(a1 a2:Int)(x4:lN):OA:=
 let y2:=(zhx x4 a1 a2);let y1:=(ix x4 a1 zi);let y0:=({ (zeD a0 a1 a2) with Prog:=y2.Prog,Written:=y2.Written,Live:=y2.Live,Seen:=y2.Seen }:Guest); (oN (zcj y0) (oN (inb a2 (ln y1.Guests)) (share (up x4 a1 ({ y1 with Guests:=(up y1.Guests a2 (zb9 y0)) }:Mon)) (fun x5=>(some [(aH ({ (zbe a0) with Mons:=x5 }:Host)),(aB true)])))))
def zhA (N:Nat)(a0:Host)(a1 a2:Int):OA:=
 let y3:=(zbe a0).Mons;let y1:=(zeD a0 a1 a2);let y0:=(ix y3 a1 zi);let y2:=(ap y0.Outs [(zec y1.Prog y1.Pc).X]); (cond (ieq (zbX a0 a1 a2) 7) (oN (zi2 y1) (oN (inb a2 (ln y0.Guests)) (share (up y3 a1 ({ y0 with Guests:=(up y0.Guests a2 (zio y1)) }:Mon)) (fun x4=>(some [(aH ({ (zbe a0) with Mons:=x4 }:Host)),(aB true)]))))) (cond (ilt (ln y0.Outs) 40) (oN (zd5 y1.Prog y1.Pc) (oN (few (ln y2)) (oN (cond (ieq a1 a1) true false) (share (up y3 a1 ({ y0 with Outs:=y2 }:Mon)) (fun x4=>(zhz N a0 a1 a2 x4)))))) (oN (zcj y1) (oN (inb a2 (ln y0.Guests)) (share (up y3 a1 ({ y0 with Guests:=(up y0.Guests a2 (zb9 y1)) }:Mon)) (fun x4=>(some [(aH ({ (zbe a0) with Mons:=x4 }:Host)),(aB true)])))))))
def zhB (N:Nat)(a1:Int)(a0:Host)(a2:Int):OA:=
 let y9:=(zbe a0);let y5:=(zbX a0 a1 a2);let y2:=(zeD a0 a1 a2);let y1:=(ix y9.Mons a1 zi);let y11:=(zjo y1.Traps y2.Ctl.Traps (zeR y5)); (oN (inb a1 (ln y9.Mons)) (oN (inb a2 (ln y1.Guests)) (oN (zjU y5) (oN (zpd y1.Traps y2.Ctl.Traps (zeR y5)) (cond (ieq y11 1) (oN (zit y2 y5) (oN (inb a2 (ln y1.Guests)) (share (up y9.Mons a1 ({ y1 with Guests:=(up y1.Guests a2 (zfX y2 y5)) }:Mon)) (fun x4=>(some [(aH ({ y9 with Mons:=x4 }:Host)),(aB true)]))))) (cond (ieq y11 2) (cond (ilt y1.Own 1000000000) (share (up y9.Mons a1 ({ y1 with Own:=(zB .i64 y1.Own 1) }:Mon)) (fun x4=>let y4:=(ix x4 a1 zi);let y3:=(zhx x4 a1 a2);let y10:=(ap y4.Outs [(zec y3.Prog y2.Pc).X]);let y6:=({ y2 with Prog:=y3.Prog,Written:=y3.Written,Live:=y3.Live,Seen:=y3.Seen }:Guest); (cond (ieq y5 7) (oN (zi2 y6) (oN (inb a2 (ln y4.Guests)) (share (up x4 a1 ({ y4 with Guests:=(up y4.Guests a2 (zio y6)) }:Mon)) (fun x5=>(some [(aH ({ y9 with Mons:=x5 }:Host)),(aB true)]))))) (cond (ilt (ln y4.Outs) 40) (oN (zd5 y3.Prog y2.Pc) (oN (few (ln y10)) (oN (cond (ieq a1 a1) true false) (share (up x4 a1 ({ y4 with Outs:=y10 }:Mon)) (fun x5=>let y8:=(ix x5 a1 zi);let y0:=(ix y8.Guests a2 zG);let y7:=({ y2 with Prog:=y0.Prog,Written:=y0.Written,Live:=y0.Live,Seen:=y0.Seen }:Guest); (oN (zcj y7) (oN (inb a2 (ln y8.Guests)) (share (up x5 a1 ({ y8 with Guests:=(up y8.Guests a2 (zb9 y7)) }:Mon)) (fun x6=>(some [(aH ({ y9 with Mons:=x6 }:Host)),(aB true)])))))))))) (zhz N a0 a1 a2 x4))))) (zhA N a0 a1 a2)) (zhA N a0 a1 a2)))))))
def zfK (N:Nat)(a0:Host)(a1 a2:Int):OA:=
 (oN (zjQ a0 a1) (oN (zny (zi5 a0 a1) a2) (oN (inb a1 (ln (zbe a0).Mons)) (share (up (zbe a0).Mons a1 ({ (ix (zbe a0).Mons a1 zi) with Guests:=(zfO (zi5 a0 a1) a2).Guests }:Mon)) (fun x4=>(some [(aH ({ (zbe a0) with Mons:=x4 }:Host)),(aB true)]))))))
def zdF (N:Nat)(a0:Host)(a1 a2:Int):OA:=
 let y0:=(zbX a0 a1 a2); (cond (ieq y0 5) (cond (ieq y0 5) (zhB N a1 a0 a2) (zfK N a0 a1 a2)) (cond (ieq y0 7) (zhB N a1 a0 a2) (zfK N a0 a1 a2)))
def zsN (N:Nat)(a0:Host)(a1 a2:Int):OA:=
 let y3:=(aH (zbe a0));let y2:=(zbX a0 a1 a2);let y0:=(zbz a0 a1).Guests;let y1:=(ix y0 a2 zG); (oN (zeQ a0) (oN (zlz a0 a1) (oN (zhP a0) (cond (nB (zg8 a0)) (some [y3,(aB false)]) (cond (nB (zha a0 a1)) (some [y3,(aB false)]) (oN (zby a2 (ln y0)) (cond (nB (zbS a2 (ln y0))) (some [y3,(aB false)]) (oN (inb a2 (ln y0)) (oN (zf7 y1) (cond (ieq y2 0) (some [y3,(aB false)]) (oN (inb a2 (ln y0)) (oN (zf7 y1) (oN (zk7 y1) (cond (ieq y2 3) (cond (ieq y2 3) (zhy N a0 a1 a2) (zdF N a0 a1 a2)) (cond (ieq y2 4) (zhy N a0 a1 a2) (zdF N a0 a1 a2))))))))))))))))
theorem zHG {h:Host}{m:Int}(hm:hasB m (ln h.Mons)=true):zbz h m=ix h.Mons m mZ:=by
 unfold zbz;rw[hm];rfl
theorem zSl {N:Nat}{a0:Host}{a1 a2:Int}(hs:SmH a0)(hh:zbU a0 a1 a2=true) :
 zhy N a0 a1 a2=some (zpl (zkV (zlc a0 a1 a2 (gOf a0 a1 a2) (ieq (zF (gOf a0 a1 a2)) 4)) a1 a2 (gOf a0 a1 a2) (ieq (zF (gOf a0 a1 a2)) 4),true)):=by
 obtain ⟨g1,g2,g3⟩:=zd2 hh;have hx:=zA1 hs g2 g3;have k:=zKe (b:=a0.Buffer) (page:=zdm (address (gOf a0 a1 a2))) (need:=zfl (ieq (zF (gOf a0 a1 a2)) 4)) (io:=false) hs hh;have F:=zjV k g2 g3;have eM:=zHG g2;have e3:zbX a0 a1 a2=zF (gOf a0 a1 a2):=by
  show zeO (ix (zbz a0 a1).Guests a2 gZ)=_
  rw[eM];rfl
 have e4:zeE a0 a1 a2=address (gOf a0 a1 a2):=by
  show zg6 (ix (zbz a0 a1).Guests a2 gZ)=_
  rw[eM];rfl
 have e1:zpB a0 a1 a2=(zlc a0 a1 a2 (gOf a0 a1 a2) (ieq (zF (gOf a0 a1 a2)) 4)).1:=by
  show zmE a0 a1 a2 (zcL (zeE a0 a1 a2)) (zc9 (ieq (zbX a0 a1 a2) 4))=_
  rw[e3,e4];rfl
 have e6:zpC a0 a1 a2=(zlc a0 a1 a2 (gOf a0 a1 a2) (ieq (zF (gOf a0 a1 a2)) 4)).2.1:=by
  show zmF a0 a1 a2 (zcL (zeE a0 a1 a2)) (zc9 (ieq (zbX a0 a1 a2) 4))=_
  rw[e3,e4];rfl
 unfold zhy oN nB
 conv=>zeta
 rw[e1,e3,e4,e6,eM];unfold zkV;refine must rfl (must rfl (must (zbh ((zbI _).2 hs)) (brN (fun h=>?_) (fun h=>?_))))
 .rw [show (zlc a0 a1 a2 (gOf a0 a1 a2) (ieq (zF (gOf a0 a1 a2)) 4)).2.2=false from h]
  exact must rfl (must rfl (must (zbh hx) (must (zA F.hm) (must (zA F.hg) rfl))))
 .rw [show (zlc a0 a1 a2 (gOf a0 a1 a2) (ieq (zF (gOf a0 a1 a2)) 4)).2.2=true from h]
  refine br (fun h4=>?_) (fun h4=>?_)
  .have kk:=k.shape.1.1;rw[h4] at F kk ⊢;exact must rfl (must (zbh kk) (must (zbh hx) (must (zA F.hm) (must (zA F.hg) rfl))))
  .rw [h4] at F ⊢;exact must rfl (must rfl (must (zbh hx) (must (zA F.hm) (must (zA F.hg) rfl))))
theorem zTc {N:Nat}{a0:Host}{x4:List Mon}{a1 a2:Int}(hx:SmG (gOf a0 a1 a2))(g3:hasB a2 (ln (ix x4 a1 mZ).Guests)=true)(e:zhx x4 a1 a2=zeD a0 a1 a2) :
 zhz N a0 a1 a2 x4=some (zpl (zgd { a0 with Mons:=x4 } a1 a2 (zbs (gOf a0 a1 a2)),true)):=by
 unfold zhz oN
 conv=>zeta
 rw[e];exact must (zbh hx) (must (zA g3) rfl)
def leftG (x:Guest)(w:Int):Guest:=bif ieq w 7 then held x else zbs x
def zrq (h:Host)(m:Int)(x:Guest)(w:Int):Host:=bif ieq w 7 then h else zjY h m (zc4 x.Prog x.Pc).X
theorem zp6 {h:Host}{m:Int}{x:Guest}{w:Int}(hh:ieq w 7=true):leftG x w=held x/\zrq h m x w=h:=by
 unfold leftG zrq;rw[hh];exact ⟨rfl,rfl⟩
theorem ziv {h:Host}{m:Int}{x:Guest}{w:Int}(hh:ieq w 7=false):leftG x w=zbs x/\zrq h m x w=zjY h m (zc4 x.Prog x.Pc).X:=by
 unfold leftG zrq;rw[hh];exact ⟨rfl,rfl⟩
theorem zKk {h:Host}{m n:Int}(hh:ilt (ln (ix h.Mons m mZ).Outs) 40=true):zjY h m n={ h with Mons:=up h.Mons m { ix h.Mons m mZ with Outs:=ap (ix h.Mons m mZ).Outs [n] } }:=by
 unfold zjY;rw[hh];rfl
theorem zKj {h:Host}{m n:Int}(hh:ilt (ln (ix h.Mons m mZ).Outs) 40=false):zjY h m n=h:=by
 unfold zjY;rw[hh];rfl
theorem zTd {N:Nat}{a0:Host}{a1 a2:Int}(hs:SmH a0)(g2:hasB a1 (ln a0.Mons)=true)(g3:hasB a2 (ln (ix a0.Mons a1 mZ).Guests)=true)(eW:zbX a0 a1 a2=zF (gOf a0 a1 a2)) :
 zhA N a0 a1 a2=some (zpl (zgd (zrq a0 a1 (gOf a0 a1 a2) (zF (gOf a0 a1 a2))) a1 a2 (leftG (gOf a0 a1 a2) (zF (gOf a0 a1 a2))),true)):=by
 have hx:=zA1 hs g2 g3;unfold zhA oN
 conv=>zeta
 rw[eW];refine br (fun h7=>?_) (fun h7=>br (fun h3=>?_) (fun h3=>?_))
 .rw [(zp6 (x:=gOf a0 a1 a2) (h:=a0) (m:=a1) h7).1,(zp6 (x:=gOf a0 a1 a2) h7).2];exact must (zbh hx) (must (zA g3) rfl)
 .rw [(ziv (x:=gOf a0 a1 a2) (h:=a0) (m:=a1) h7).1,(ziv (x:=gOf a0 a1 a2) h7).2,zKk h3];refine must rfl (must (zQw h3) (must (zM9 _) (shr (zTc hx ?_ ?_))))
  .rw [ztN g2];exact g3
  .show ix (ix (up a0.Mons a1 _) a1 mZ).Guests a2 gZ=_
   rw[ztN g2]
 .rw [(ziv (x:=gOf a0 a1 a2) (h:=a0) (m:=a1) h7).1,(ziv (x:=gOf a0 a1 a2) h7).2,zKj h3];exact must (zbh hx) (must (zA g3) rfl)
theorem zSG {h:Host}{m g:Int}{x:Guest}{w:Int}(h6:ieq w 6=false)(h57:ieq w 5=false->ieq w 6=false->ieq w 7=true)(hT:zcN x.Ctl.Traps (zer w)=false):zm0 h m g x w=zgd (zrq (zh6 h m x w) m x w) m g (leftG x w):=by
 unfold zm0;cases h7:ieq w 7
 .have h5:ieq w 5=true:=by
   cases h5:ieq w 5
   .have:=h57 h5 h6;rw[h7] at this;cases this
   .rfl
  obtain ⟨e1,e2⟩:=tr3 x x.Ctl.Traps w h6 h7 hT h5;rw[(ziv (x:=x) (h:=zh6 h m x w) (m:=m) h7).1,(ziv (x:=x) h7).2,e1];unfold zoY;rw[e2,h5];rfl
 .have h5:ieq w 5=false:=by
   have:w=7:=qJ h7;rw[this];rfl
  rw[(zp6 (x:=x) (h:=zh6 h m x w) (m:=m) h7).1,(zp6 (x:=x) h7).2,tr4 x x.Ctl.Traps w h6 h57 hT h5,zSF h5]
theorem zTg {a0:Host}{x5:List Mon}{a1 a2:Int}(hx:SmG (gOf a0 a1 a2))(g3:hasB a2 (ln (ix x5 a1 mZ).Guests)=true)(e:(ix (ix x5 a1 zi).Guests a2 zG)=gOf a0 a1 a2) :
 (cond (zcj ({ (ix (ix (zbe a0).Mons a1 zi).Guests a2 zG) with Prog:=(ix (ix x5 a1 zi).Guests a2 zG).Prog,Written:=(ix (ix x5 a1 zi).Guests a2 zG).Written,Live:=(ix (ix x5 a1 zi).Guests a2 zG).Live,Seen:=(ix (ix x5 a1 zi).Guests a2 zG).Seen }:Guest)) (cond (inb a2 (ln (ix x5 a1 zi).Guests)) (share (up x5 a1 ({ (ix x5 a1 zi) with Guests:=(up (ix x5 a1 zi).Guests a2 (zb9 ({ (ix (ix (zbe a0).Mons a1 zi).Guests a2 zG) with Prog:=(ix (ix x5 a1 zi).Guests a2 zG).Prog,Written:=(ix (ix x5 a1 zi).Guests a2 zG).Written,Live:=(ix (ix x5 a1 zi).Guests a2 zG).Live,Seen:=(ix (ix x5 a1 zi).Guests a2 zG).Seen }:Guest))) }:Mon)) (fun x6=>(some [(.agg (zbi ({ (zbe a0) with Mons:=x6 }:Host))),(.one (.b true))]))) none) none)=some (zpl (zgd { a0 with Mons:=x5 } a1 a2 (zbs (gOf a0 a1 a2)),true)):=by
 rw[e];exact must (zbh hx) (must (zA g3) rfl)
theorem zTf {a0:Host}{x4:List Mon}{a1 a2:Int}(hx:SmG (gOf a0 a1 a2))(g2:hasB a1 (ln x4)=true)(g3:hasB a2 (ln (ix x4 a1 mZ).Guests)=true)(e:(ix (ix x4 a1 zi).Guests a2 zG)=gOf a0 a1 a2) :
 (cond (ieq (zF (gOf a0 a1 a2)) 7) (cond (zi2 ({ (ix (ix (zbe a0).Mons a1 zi).Guests a2 zG) with Prog:=(ix (ix x4 a1 zi).Guests a2 zG).Prog,Written:=(ix (ix x4 a1 zi).Guests a2 zG).Written,Live:=(ix (ix x4 a1 zi).Guests a2 zG).Live,Seen:=(ix (ix x4 a1 zi).Guests a2 zG).Seen }:Guest)) (cond (inb a2 (ln (ix x4 a1 zi).Guests)) (share (up x4 a1 ({ (ix x4 a1 zi) with Guests:=(up (ix x4 a1 zi).Guests a2 (zio ({ (ix (ix (zbe a0).Mons a1 zi).Guests a2 zG) with Prog:=(ix (ix x4 a1 zi).Guests a2 zG).Prog,Written:=(ix (ix x4 a1 zi).Guests a2 zG).Written,Live:=(ix (ix x4 a1 zi).Guests a2 zG).Live,Seen:=(ix (ix x4 a1 zi).Guests a2 zG).Seen }:Guest))) }:Mon)) (fun x5=>(some [(.agg (zbi ({ (zbe a0) with Mons:=x5 }:Host))),(.one (.b true))]))) none) none) (cond (ilt (ln (ix x4 a1 zi).Outs) 40) (cond (zd5 (ix (ix x4 a1 zi).Guests a2 zG).Prog (ix (ix (zbe a0).Mons a1 zi).Guests a2 zG).Pc) (cond (few (ln (ap (ix x4 a1 zi).Outs [(zec (ix (ix x4 a1 zi).Guests a2 zG).Prog (ix (ix (zbe a0).Mons a1 zi).Guests a2 zG).Pc).X]))) (cond (cond (ieq a1 a1) true false) (share (up x4 a1 ({ (ix x4 a1 zi) with Outs:=(ap (ix x4 a1 zi).Outs [(zec (ix (ix x4 a1 zi).Guests a2 zG).Prog (ix (ix (zbe a0).Mons a1 zi).Guests a2 zG).Pc).X]) }:Mon)) (fun x5=>(cond (zcj ({ (ix (ix (zbe a0).Mons a1 zi).Guests a2 zG) with Prog:=(ix (ix x5 a1 zi).Guests a2 zG).Prog,Written:=(ix (ix x5 a1 zi).Guests a2 zG).Written,Live:=(ix (ix x5 a1 zi).Guests a2 zG).Live,Seen:=(ix (ix x5 a1 zi).Guests a2 zG).Seen }:Guest)) (cond (inb a2 (ln (ix x5 a1 zi).Guests)) (share (up x5 a1 ({ (ix x5 a1 zi) with Guests:=(up (ix x5 a1 zi).Guests a2 (zb9 ({ (ix (ix (zbe a0).Mons a1 zi).Guests a2 zG) with Prog:=(ix (ix x5 a1 zi).Guests a2 zG).Prog,Written:=(ix (ix x5 a1 zi).Guests a2 zG).Written,Live:=(ix (ix x5 a1 zi).Guests a2 zG).Live,Seen:=(ix (ix x5 a1 zi).Guests a2 zG).Seen }:Guest))) }:Mon)) (fun x6=>(some [(.agg (zbi ({ (zbe a0) with Mons:=x6 }:Host))),(.one (.b true))]))) none) none))) none) none) none) (cond (zcj ({ (ix (ix (zbe a0).Mons a1 zi).Guests a2 zG) with Prog:=(ix (ix x4 a1 zi).Guests a2 zG).Prog,Written:=(ix (ix x4 a1 zi).Guests a2 zG).Written,Live:=(ix (ix x4 a1 zi).Guests a2 zG).Live,Seen:=(ix (ix x4 a1 zi).Guests a2 zG).Seen }:Guest)) (cond (inb a2 (ln (ix x4 a1 zi).Guests)) (share (up x4 a1 ({ (ix x4 a1 zi) with Guests:=(up (ix x4 a1 zi).Guests a2 (zb9 ({ (ix (ix (zbe a0).Mons a1 zi).Guests a2 zG) with Prog:=(ix (ix x4 a1 zi).Guests a2 zG).Prog,Written:=(ix (ix x4 a1 zi).Guests a2 zG).Written,Live:=(ix (ix x4 a1 zi).Guests a2 zG).Live,Seen:=(ix (ix x4 a1 zi).Guests a2 zG).Seen }:Guest))) }:Mon)) (fun x5=>(some [(.agg (zbi ({ (zbe a0) with Mons:=x5 }:Host))),(.one (.b true))]))) none) none)))=some (zpl (zgd (zrq { a0 with Mons:=x4 } a1 (gOf a0 a1 a2) (zF (gOf a0 a1 a2))) a1 a2 (leftG (gOf a0 a1 a2) (zF (gOf a0 a1 a2))),true)):=by
 rw[e];refine br (fun h7=>?_) (fun h7=>br (fun h3=>?_) (fun h3=>?_))
 .rw [(zp6 (x:=gOf a0 a1 a2) (h:={ a0 with Mons:=x4 }) (m:=a1) h7).1,(zp6 (x:=gOf a0 a1 a2) h7).2];exact must (zbh hx) (must (zA g3) rfl)
 .rw [(ziv (x:=gOf a0 a1 a2) (h:={ a0 with Mons:=x4 }) (m:=a1) h7).1,(ziv (x:=gOf a0 a1 a2) h7).2,zKk (h:={ a0 with Mons:=x4 }) h3];refine must rfl (must (zQw h3) (must (zM9 _) (shr (zTg hx ?_ ?_))))
  .rw [ztN (h:={ a0 with Mons:=x4 }) g2];exact g3
  .show ix (ix (up x4 a1 _) a1 mZ).Guests a2 gZ=_
   rw[ztN (h:={ a0 with Mons:=x4 }) g2];exact e
 .rw [(ziv (x:=gOf a0 a1 a2) (h:={ a0 with Mons:=x4 }) (m:=a1) h7).1,(ziv (x:=gOf a0 a1 a2) h7).2,zKj (h:={ a0 with Mons:=x4 }) h3];exact must (zbh hx) (must (zA g3) rfl)
theorem tf (b:Bool):b=false\/b=true:=by cases b<;>simp
theorem zTe {N:Nat}{a0:Host}{a1 a2:Int}(hs:SmH a0)(g2:hasB a1 (ln a0.Mons)=true)(g3:hasB a2 (ln (ix a0.Mons a1 mZ).Guests)=true)(eW:zbX a0 a1 a2=zF (gOf a0 a1 a2))(h6:ieq (zF (gOf a0 a1 a2)) 6=false)(h57:ieq (zF (gOf a0 a1 a2)) 5=false->ieq (zF (gOf a0 a1 a2)) 6=false->ieq (zF (gOf a0 a1 a2)) 7=true) :
 zhB N a1 a0 a2=some (zpl (zm0 a0 a1 a2 (gOf a0 a1 a2) (zF (gOf a0 a1 a2)),true)):=by
 have hx:=zA1 hs g2 g3;have T3:=zTd (N:=N) hs g2 g3 eW;have hn6:ine (zF (gOf a0 a1 a2)) 6=true:=by rw[zhU,h6];rfl
 unfold zhB oN
 conv=>zeta
 rw[eW];refine must (zA g2) (must (zA g3) (must rfl (must rfl ?_)));rw[show ieq (zjo (ix a0.Mons a1 zi).Traps (zeD a0 a1 a2).Ctl.Traps (zeR (zF (gOf a0 a1 a2)))) 1=zcN (gOf a0 a1 a2).Ctl.Traps (zer (zF (gOf a0 a1 a2))) from zSs _ _ _]
 refine br (fun hT=>?_) (fun hT=>?_)
 .obtain ⟨e1,e2⟩:=tr2 (gOf a0 a1 a2) (gOf a0 a1 a2).Ctl.Traps _ h6 h57 hT;have e0:zh6 a0 a1 (gOf a0 a1 a2) (zF (gOf a0 a1 a2))=a0:=by
   unfold zh6;rw[hn6,zSt hT];rfl
  unfold zm0;rw[e0,zNS e2,e1];exact must (zbh hx) (must (zA g3) rfl)
 .rw [zSG h6 h57 hT];have e0:zh6 a0 a1 (gOf a0 a1 a2) (zF (gOf a0 a1 a2))=bif ieq (zl4 (ix a0.Mons a1 mZ).Traps (gOf a0 a1 a2).Ctl.Traps (zer (zF (gOf a0 a1 a2)))) 2 then owned a0 a1 else a0:=by
   unfold zh6;rw[hn6];rfl
  rw[e0];refine br (fun hO=>?_) (fun hO=>?_)
  .rw [show ieq (zl4 (ix a0.Mons a1 mZ).Traps (gOf a0 a1 a2).Ctl.Traps (zer (zF (gOf a0 a1 a2)))) 2=true from hO]
   simp only[cT];unfold owned;refine br (fun h0=>?_) (fun h0=>?_)
   rotate_left
   .rw [h0];exact T3
   rw[h0];refine shr ?_;have eM:=ztN g2 { ix a0.Mons a1 mZ with Own:=zB .i64 (ix a0.Mons a1 mZ).Own 1 };have g2':hasB a1 (ln (up a0.Mons a1 { ix a0.Mons a1 mZ with Own:=zB .i64 (ix a0.Mons a1 mZ).Own 1 }))=true:=zdD g2;have e5:zhx (up a0.Mons a1 { ix a0.Mons a1 mZ with Own:=zB .i64 (ix a0.Mons a1 mZ).Own 1 }) a1 a2=zeD a0 a1 a2:=by
    show ix (ix (up a0.Mons a1 _) a1 mZ).Guests a2 gZ=_
    rw[eM]
   refine zTf hx g2' ?_ e5;rw[eM];exact g3
  .rw [show ieq (zl4 (ix a0.Mons a1 mZ).Traps (gOf a0 a1 a2).Ctl.Traps (zer (zF (gOf a0 a1 a2)))) 2=false from hO]
   exact T3
theorem zOR {N:Nat}{a0:Host}{a1 a2:Int}(hs:SmH a0)(hh:zbU a0 a1 a2=true)(h0:ieq (zF (gOf a0 a1 a2)) 0=false){y:Guest}{o:List Int}(hy:(stepped (zbl a0 a1) a2 (gOf a0 a1 a2) (zF (gOf a0 a1 a2))).Guests=up (ix a0.Mons a1 mZ).Guests a2 y)(hb:SmB (zbl a0 a1)) :
 zfK N a0 a1 a2=some (zpl (zgd a0 a1 a2 y,true)):=by
 obtain ⟨g1,g2,g3⟩:=zd2 hh;have hsb:=zIU g1 g2;have eg:(zbl a0 a1).Guests=(ix a0.Mons a1 mZ).Guests:=by
  unfold zbl;rw[g2];rfl
 have hgg:hasB a2 (ln (zbl a0 a1).Guests)=true:=by rw[eg];exact g3
 have eA:gAt (zbl a0 a1) a2=gOf a0 a1 a2:=by
  unfold gAt;rw[hgg,eg];rfl
 have hcan:zks (zbl a0 a1) a2=true:=by
  unfold zks;rw[hgg,hsb,eA,h0];rfl
 have eS:zgW (zbl a0 a1) a2=stepped (zbl a0 a1) a2 (gOf a0 a1 a2) (zF (gOf a0 a1 a2)):=by
  unfold zgW;rw[hcan,eA];rfl
 have hG:(zfO (zi5 a0 a1) a2).Guests=up (ix a0.Mons a1 mZ).Guests a2 y:=by
  show (zgW (zbl a0 a1) a2).Guests=_
  rw[eS,hy]
 unfold zfK oN;rw[hG];exact must (zbh ((zbI _).2 hs)) (must (zbh hb) (must (zA g2) rfl))
theorem zn5 {h:Host}{m:Int}(hs:SmH h)(hm:hasB m (ln h.Mons)=true):SmB (zbl h m):=by
 have g1:=hs.2.1.2 _ (zb7 hm mZ);have hP:∀(mm:List (List Int)) (q:Int),SmM mm->(zfm mm q).length<=1048576:=fun mm q h=>zIf h;have hpg:∀p:Int,(zdr h m p).length<=1048576:=by
  intro p;unfold zdr;cases hasB m (ln h.Mons)
  .exact (by decide:zrR.length<=1048576)
  .cases hasB p 8
   .exact (by decide:zrR.length<=1048576)
   .simp only [cT];cases ine (zcA (ix h.Mons m zi).Outer p).Page (-1)
    .exact hP _ _ g1.2.1
    .exact hP _ _ hs.1
 have hN:∀(n i:Nat),∀x∈zeV h m n i,x.length<=1048576:=by
  intro n
  induction n with
  | zero=>intro i x hx;cases hx
  | succ n ih =>
   intro i x hx;rcases qG.1 hx with rfl|hx
   .exact hpg _
   .exact ih (i+1) x hx
 unfold zbl;rw[hm];exact ⟨⟨by show (zeV h m 8 0).length<=1048576;rw[zrt];decide,hN 8 0⟩,g1.2.2.2.1,g1.2.2.2.2.1⟩
theorem zpb (b:Bare)(g:Int)(x:Guest):(zjf b g x).Guests=up b.Guests g x:=rfl
theorem zCM (a0:Host)(a1 a2:Int)(hb:zbu big [aH a0,aI a1,aI a2])(hc:znE a0 a1 a2=true):∃N,zsN N a0 a1 a2=some [aH (znC a0 a1 a2),aB (znD a0 a1 a2)]:=by
 have hs:=(zbI a0).1 (zC.1 hc);refine ⟨0,?_⟩
 show _=some (zpl (zdJ a0 a1 a2))
 unfold zsN oN nB
 conv=>zeta
 refine must (zbh ((zbI _).2 hs)) (must (zbh ((zbI _).2 hs)) (must rfl (brN (fun h1=>?_) (fun h1=>brN (fun h2=>?_) (fun h2=>?_)))))
 .rw [zvs (zBF h1)];rfl
 .rw [zvs (zBG h2)];rfl
 have eM:=zHG (h:=a0) (m:=a1) h2;have eW:zbX a0 a1 a2=zF (gOf a0 a1 a2):=by
  show zeO (ix (zbz a0 a1).Guests a2 gZ)=_
  rw[eM];rfl
 rw[eM,eW];refine must rfl (brN (fun h3=>?_) (fun h3=>?_))
 .rw [zvs (zBH h3)];rfl
 have hh:=zBI h1 h2 h3;have g2:hasB a1 (ln a0.Mons)=true:=h2;have g3:hasB a2 (ln (ix a0.Mons a1 mZ).Guests)=true:=h3;have hb:=zn5 hs g2;have eg:(zbl a0 a1).Guests=(ix a0.Mons a1 mZ).Guests:=by
  unfold zbl;rw[g2];rfl
 rw[zIl hh];unfold zA5;refine must (zA g3) (must rfl (br (fun h0=>?_) (fun h0=>must (zA g3) (must rfl (must rfl (br (fun q3=>must q3 ?_) (fun q3=>br (fun q4=>?_) (fun q4=>?_))))))))
 .rw [h0];rfl
 .have e:zF (gOf a0 a1 a2)=3:=qJ q3;have T:=zSl (N:=0) hs hh;rw[T];rw[e];rfl
 .have e:zF (gOf a0 a1 a2)=4:=qJ q4;have T:=zSl (N:=0) hs hh;rw[T];rw[e];rfl
 .have fin:∀{R:Host×Bool},zdF 0 a0 a1 a2=some (zpl R)->R=(bif ieq (zF (gOf a0 a1 a2)) 0 then (a0,false) else (bif ieq (zF (gOf a0 a1 a2)) 1 then (zgd a0 a1 a2 (interrupted (gOf a0 a1 a2)),true) else (bif ieq (zF (gOf a0 a1 a2)) 2 then (zgd a0 a1 a2 (plainly (gOf a0 a1 a2)),true) else
   (cond (cond (ieq (zF (gOf a0 a1 a2)) 3) true (ieq (zF (gOf a0 a1 a2)) 4)) (zkV (zlc a0 a1 a2 (gOf a0 a1 a2) (ieq (zF (gOf a0 a1 a2)) 4)) a1 a2 (gOf a0 a1 a2) (ieq (zF (gOf a0 a1 a2)) 4),true) (zm0 a0 a1 a2 (gOf a0 a1 a2) (zF (gOf a0 a1 a2)),true)))))->zdF 0 a0 a1 a2=_:=fun h e=>h.trans (congrArg (fun x=>some (zpl x)) e)
  have i6:ieq (zF (gOf a0 a1 a2)) 5=false->ieq (zF (gOf a0 a1 a2)) 7=false->zdF 0 a0 a1 a2=zfK 0 a0 a1 a2:=by
   intro h5 h7;unfold zdF
   conv=>zeta
   rw[eW];exact ze0 h5 (ze0 h7 rfl)
  rcases tf (ieq (zF (gOf a0 a1 a2)) 1) with w1|w1
  .rcases tf (ieq (zF (gOf a0 a1 a2)) 2) with w2|w2
   .rcases tf (ieq (zF (gOf a0 a1 a2)) 6) with w6|w6
    .have h57:ieq (zF (gOf a0 a1 a2)) 5=false->ieq (zF (gOf a0 a1 a2)) 6=false->ieq (zF (gOf a0 a1 a2)) 7=true:=fun h5 h6=>zQQ _ h0 w1 w2 q3 q4 h5 h6;have T:=zTe (N:=0) hs g2 g3 eW w6 h57;refine fin (R:=(zm0 a0 a1 a2 (gOf a0 a1 a2) (zF (gOf a0 a1 a2)),true)) ?_ (by rw[h0,w1,w2,q3,q4];rfl)
     unfold zdF
     conv=>zeta
     rw[eW];cases w5:ieq (zF (gOf a0 a1 a2)) 5
     .exact ze0 rfl (must (h57 w5 w6) T)
     .exact must rfl (must rfl T)
    .have e:zF (gOf a0 a1 a2)=6:=qJ w6;refine fin (R:=(zgd a0 a1 a2 (zh7 (gOf a0 a1 a2) (gOf a0 a1 a2).Ctl.Traps (zF (gOf a0 a1 a2))),true)) ?_ ?_
     .rw [i6 (by rw[e];rfl) (by rw[e];rfl)]
      refine zOR (o:=[]) hs hh h0 ?_ hb;unfold stepped zne;rw[w1,w2,q3,q4,(tr1 (gOf a0 a1 a2) (gOf a0 a1 a2).Ctl.Traps _ w6).2]
      show (zjf (zbl a0 a1) a2 _).Guests=_
      rw[zpb,eg]
     .rw [h0,w1,w2,q3,q4];unfold zm0 zh6;rw[zNS (tr1 (gOf a0 a1 a2) (gOf a0 a1 a2).Ctl.Traps _ w6).2,zhU,w6];rfl
   .have e:zF (gOf a0 a1 a2)=2:=qJ w2;refine fin (R:=(zgd a0 a1 a2 (plainly (gOf a0 a1 a2)),true)) ?_ (by rw[h0,w1,w2];rfl)
    rw[i6 (by rw[e];rfl) (by rw[e];rfl)]
    refine zOR (o:=[]) hs hh h0 ?_ hb;unfold stepped;rw[w1,w2]
    show (zjf (zbl a0 a1) a2 _).Guests=_
    rw[zpb,eg]
  .have e:zF (gOf a0 a1 a2)=1:=qJ w1;refine fin (R:=(zgd a0 a1 a2 (interrupted (gOf a0 a1 a2)),true)) ?_ (by rw[h0,w1];rfl)
   rw[i6 (by rw[e];rfl) (by rw[e];rfl)]
   refine zOR (o:=[]) hs hh h0 ?_ hb;unfold stepped;rw[w1]
   show (zjf (zbl a0 a1) a2 _).Guests=_
   rw[zpb,eg]
theorem zxC:uV 69 zqe:=hF3 zDW zq zfa znf (zo []) zCM
def zQj:zK:=[(69,zqe)]++zMS
theorem zOy:zx zQj:=zh zxC zDW
def zQk:zK:=[(143,zmb)]++zQj
theorem zGg:zx zQk:=zh zos zOy
def cnt (l:List Mon):List Nat:=l.map fun x=>x.Guests.length
theorem zRX {l l':List Mon}(h:zcS l'=zcS l):cnt l'=cnt l:=by
 have e:∀l:List Mon,cnt l=(zcS l).map List.length:=fun l=>by simp[cnt,zcS]
 rw[e,e,h]
theorem zF2 {l:List Mon}{m:Int}{x:Mon}(hm:hasB m (ln l)=true)(hx:x.Guests.length=(ix l m mZ).Guests.length):cnt (up l m x)=cnt l:=by
 obtain ⟨k,rfl,hk⟩:=zcO (n:=l.length) hm;unfold cnt up;rw[List.map_set,kU,hx,zbc hk];have:=@uG _ (l.map fun x=>x.Guests.length) k (by simpa using hk)
 simpa using this
theorem zQ2 {l l':List Mon}(h:cnt l'=cnt l):l'.length=l.length:=by
 have:=congrArg List.length h;simpa [cnt] using this
theorem zRY {l l':List Mon}(h:cnt l'=cnt l)(m:Int):(ix l' m mZ).Guests.length=(ix l m mZ).Guests.length:=by
 have h2:(cnt l')[m.toNat]?=(cnt l)[m.toNat]?:=by rw[h]
 unfold cnt at h2;rw[qM,qM]at h2;unfold ix;simp only[kE];cases h3:l'[m.toNat]? <;> cases h4:l[m.toNat]? <;> rw [h3,h4]at h2<;>simp at h2 ⊢;exact h2
theorem zRv (h:Host)(m p:Int):(zdN h m p).Memory=h.Memory:=(zd8 (zdT h m p) m p noSlot).2
theorem zRu (h:Host):(zcs h).Memory=h.Memory:=by
 unfold zcs;cases ieq (ln (zbV h)) 0
 .rfl
 .exact zRv _ _ _
theorem zRt (m:List (List Int))(p:Int)(c:List Int):(zgl m p c).length=m.length:=by
 unfold zgl;cases hasB p (ln m)
 .rfl
 .cases zb0 c
  .rfl
  .simp
theorem zRr (m:List (List Int))(p c v:Int):(zfI m p c v).length=m.length:=by
 unfold zfI;cases ziw m p c
 .rfl
 .cases win v 0 99
  .rfl
  .simp
theorem zLr (h:Host)(m p:Int):(fetched h m p).Memory.length=h.Memory.length:=by
 unfold fetched zgY;rw[(zd8 _ _ _ _).2];unfold landing;rw[zRt,zRu]
theorem zHF (h:Host)(m p n:Int):(zhX h m p n).Memory=h.Memory:=by
 unfold zhX;cases ieq (wand .i64 n 2) 0
 .unfold opened;cases ieq (wand .i64 (ix (ix (zbn h m p).Mons m mZ).Outer p sZ).Rights 2) 0
  .rfl
  .exact (zd8 _ _ _ _).2
 .rfl
theorem zNo (h:Host)(m p n:Int):(mended h m p n).Memory.length=h.Memory.length:=by
 unfold mended;cases ieq (ix (ix h.Mons m mZ).Outer p sZ).Page (-1)
 .exact congrArg List.length (zHF _ _ _ _)
 .exact (congrArg List.length (zHF _ _ _ _)).trans (zLr _ _ _)
theorem zNp (h:Host)(m g p:Int)(io:Bool):(zFC h m g p io).Memory=h.Memory:=by cases io<;>rfl
theorem zO2 (h:Host)(b:List Entry)(m g page need q:Int)(io:Bool):(zfJ h b m g page need q io).1.Memory.length=h.Memory.length:=by
 unfold zfJ;cases zhI b m g page need
 .cases zdi h m g page need
  .exact congrArg List.length (zNp _ _ _ _ _)
  .exact (congrArg List.length (zNp _ _ _ _ _)).trans (zNo h m q need)
 .rfl
theorem zRs (h:Host)(b:List Entry)(m g page need:Int)(io:Bool):(lookOf h b m g page need io).1.Memory.length=h.Memory.length:=by
 unfold lookOf;cases zcH h m g page need
 .rfl
 .simp only [cT];rw[zO2];cases ieq need 2<;>rfl
structure Keep (h r:Host):Prop where
 shape:Shape r
 cnt:cnt r.Mons=cnt h.Mons
 mem:r.Memory.length=h.Memory.length
theorem Keep.has {h r:Host}(k:Keep h r){m:Int}(hm:hasB m (ln h.Mons)=true):hasB m (ln r.Mons)=true:=by
 rw[ln,zQ2 k.cnt];exact hm
theorem Keep.hg {h r:Host}(k:Keep h r){m g:Int}(hg:hasB g (ln (ix h.Mons m mZ).Guests)=true):hasB g (ln (ix r.Mons m mZ).Guests)=true:=by
 rw[ln,zRY k.cnt];exact hg
theorem Keep.trans {a b c:Host}(h:Keep a b)(k:Keep b c):Keep a c:=⟨k.shape,k.cnt.trans h.cnt,k.mem.trans h.mem⟩
theorem Keep.rfl' {h:Host}(hs:Shape h):Keep h h:=⟨hs,rfl,rfl⟩
theorem zjs {h:Host}{m g:Int}{x:Guest}(hs:Shape h)(hm:hasB m (ln h.Mons)=true)(hx:SmG x):Keep h (zgd h m g x):=⟨zLX hs hm hx,zF2 hm (by simp),rfl⟩
theorem ztH {h:Host}{b:List Entry}{m g page need:Int}{io:Bool}(hs:SmH h)(hh:zbU h m g=true):Keep h (lookOf h b m g page need io).1:=by
 have k:=zKe (b:=b) (page:=page) (need:=need) (io:=io) hs hh;exact ⟨k.shape,zRX k.gs,zRs _ _ _ _ _ _ _⟩
theorem zNb {h:Host}{p c v:Int}(hs:Shape h):Keep h { h with Memory:=zfI h.Memory p c v }:=⟨zEm hs (zIg hs.1.1),rfl,zRr _ _ _ _⟩
theorem zLh {h:Host}{m:Int}(hs:Shape h)(hm:hasB m (ln h.Mons)=true):Keep h (owned h m):=by
 obtain ⟨g1,g2⟩:=zbx hs hm;unfold owned;cases ilt (ix h.Mons m mZ).Own 1000000000
 .exact Keep.rfl' hs
 .exact ⟨zfH hs g1 g2,zF2 hm rfl,rfl⟩
theorem zLg {h:Host}{m n:Int}(hs:Shape h)(hm:hasB m (ln h.Mons)=true):Keep h (zjY h m n):=by
 obtain ⟨g1,g2⟩:=zbx hs hm;unfold zjY;cases h3:ilt (ln (ix h.Mons m mZ).Outs) 40
 .exact Keep.rfl' hs
 .have h4:=qJ h3;simp only[ln]at h4;refine ⟨zfH hs ⟨g1.1,g1.2.1,g1.2.2.1,g1.2.2.2.1,?_,g1.2.2.2.2.2⟩ g2,zF2 hm rfl,rfl⟩;simp[ap];omega
theorem zNd {h:Host}{m g:Int}{x:Guest}{w:Int}(hs:Shape h)(hm:hasB m (ln h.Mons)=true)(hx:SmG x):Keep h (zm0 h m g x w):=by
 have k1:Keep h (zh6 h m x w):=by
  unfold zh6;cases (cond (ine w 6) (ieq (zl4 (ix h.Mons m mZ).Traps x.Ctl.Traps (zer w)) 2) false)
  .exact Keep.rfl' hs
  .exact zLh hs hm
 have k2:Keep (zh6 h m x w) (zoY (zh6 h m x w) m x w):=by
  unfold zoY;cases (cond (zh8 x.Ctl.Traps w) (ieq w 5) false)
  .exact Keep.rfl' k1.shape
  .exact zLg k1.shape (k1.has hm)
 have k3:=k1.trans k2;exact k3.trans (zjs k3.shape (k3.has hm) (zuR _ _ hx))
theorem zNc {h:Host}{m g:Int}(hs:SmH h)(hh:zbU h m g=true):Keep h (zdJ h m g).1:=by
 obtain ⟨g1,g2,g3⟩:=zd2 hh;have hx:=zA1 hs g2 g3;have hS:=(zq5 hs g1).1;rw[zIl hh];unfold zA5;cases ieq (zF (gOf h m g)) 0
 .cases ieq (zF (gOf h m g)) 1
  .cases ieq (zF (gOf h m g)) 2
   .cases (cond (ieq (zF (gOf h m g)) 3) true (ieq (zF (gOf h m g)) 4))
    .exact zNd hS g2 hx
    .have k:=ztH (b:=h.Buffer) (page:=zdm (address (gOf h m g))) (need:=zfl (ieq (zF (gOf h m g)) 4)) (io:=false) hs hh
     show Keep h (zkV (zlc h m g (gOf h m g) (ieq (zF (gOf h m g)) 4)) m g (gOf h m g) (ieq (zF (gOf h m g)) 4))
     unfold zkV;cases (zlc h m g (gOf h m g) (ieq (zF (gOf h m g)) 4)).2.2
     .exact k.trans (zjs k.shape (k.has g2) hx)
     .cases ieq (zF (gOf h m g)) 4
      .have k:=ztH (b:=h.Buffer) (page:=zdm (address (gOf h m g))) (need:=zfl false) (io:=false) hs hh;exact k.trans (zjs k.shape (k.has g2) (zA0 _ hx))
      .have k:=ztH (b:=h.Buffer) (page:=zdm (address (gOf h m g))) (need:=zfl true) (io:=false) hs hh;have k2:=zNb (p:=(zlc h m g (gOf h m g) true).2.1) (c:=zgT (address (gOf h m g))) (v:=(gOf h m g).A) k.shape;have k3:=k.trans k2;exact k3.trans (zjs k3.shape (k3.has g2) (zfZ hx))
   .exact zjs hS g2 (zw0 hx)
  .exact zjs hS g2 (zKp hx)
 .exact Keep.rfl' hS
structure Same (h r:Host):Prop where
 sm:SmH r
 cnt:cnt r.Mons=cnt h.Mons
 mem:r.Memory.length=h.Memory.length
 st:r=h\/Shape r
theorem Same.rfl' {h:Host}(hs:SmH h):Same h h:=⟨hs,rfl,rfl,.inl rfl⟩
theorem Same.trans {a b c:Host}(h:Same a b)(k:Same b c):Same a c:=⟨k.sm,k.cnt.trans h.cnt,k.mem.trans h.mem,by
 rcases k.st with e|e
 .rw [e];exact h.st
 .exact .inr e⟩
theorem zNM {h:Host}(m g:Int)(hs:SmH h):Same h (zdJ h m g).1:=by
 cases hh:zbU h m g
 .rw [zvs hh];exact Same.rfl' hs
 .have k:=zNc hs hh;exact ⟨k.shape.1,k.cnt,k.mem,.inr k.shape⟩
def tick (t:Int×Host)(m g:Int):Int×Host:=(cond ((zdJ t.2 m g).2) (zB .i64 t.1 1) t.1,(zdJ t.2 m g).1)
def zqB (m:Int):Nat->Nat->Int×Host->Int×Host
 | 0,_,t=>t
 | n+1,g,t=>zqB m n (g+1) (tick t m (g:Int))
def ztm:List Nat->Nat->Int×Host->Int×Host
 | [],_,t=>t
 | c :: l,m,t=>ztm l (m+1) (zqB (m:Int) c 0 t)
def zoj (h:Host):Int×Host:=ztm (cnt h.Mons) 0 (0,h)
theorem zuO {t:Int×Host}(m g:Int)(hs:SmH t.2):Same t.2 (tick t m g).2:=zNM m g hs
theorem zrL (m:Int):∀(n g:Nat) (t:Int×Host),SmH t.2->Same t.2 (zqB m n g t).2
 | 0,_,_,hs=>Same.rfl' hs
 | n+1,g,t,hs=>(zuO m (g:Int) hs).trans (zrL m n (g+1) _ (zuO m (g:Int) hs).sm)
theorem zEl:∀(l:List Nat) (m:Nat) (t:Int×Host),SmH t.2->Same t.2 (ztm l m t).2
 | [],_,_,hs=>Same.rfl' hs
 | c :: l,m,t,hs=>(zrL (m:Int) c 0 t hs).trans (zEl l (m+1) _ (zrL (m:Int) c 0 t hs).sm)
theorem zAV {h:Host}(hs:SmH h):Same h (zoj h).2:=zEl _ 0 (0,h) hs
def zO9 (t:Int×Host):OA:=some [AV.agg (zbi t.2),AV.one (.i .i64 t.1)]
@[simp] abbrev zlZ (h:Host):Bool:=pc (zcQ h)
@[simp] abbrev zcE (h:Host):Host:=(zoj h).2
@[simp] abbrev zsd (h:Host):Int:=(zoj h).1
def zoB:Run:=rF1 dH fun b=>(zlZ b,[aH (zcE b),aI (zsd b)])
def zrU (N:Nat)(a0:Host):OA:=
 (oN (zeQ a0) (iter (σ:=(Int×(Int×(Int×(lM×(lN×(lE×(lE×(lM×(lN×(lE×(lE×(lM×(lN×(lE×(lE×Unit)))))))))))))))) N (fun r2 s3=>let y17:=s3.2.2.2.2.2.2.2.2.2.2.2.2.1;let y16:=s3.2.2.2.2.2.2.2.2.2.2.2.2.2.1;let y14:=s3.2.2.2.2.2.2.2.2.2.2.2.2.2.2.1; (cond (ilt s3.2.2.1 s3.2.1) (oN (inb s3.2.2.1 (ln s3.2.2.2.2.1)) (iter (σ:=(Int×(Int×(Int×(Int×(Int×(Int×(lM×(lN×(lE×(lE×(lM×(lN×(lE×(lE×(lM×(lN×(lE×(lE×Unit))))))))))))))))))) N (fun r4 s5=>let y15:=s5.2.2.2.2.2.2.1;let y13:=s5.2.2.2.2.2.2.2.2.2.2.2.2.2.2.1;let y12:=s5.2.2.2.2.2.2.2.1;let y11:=s5.2.2.2.2.2.2.2.2.2.2.2.2.2.2.2.1;let y10:=s5.2.2.2.2.2.2.2.2.2.2.2.2.2.2.2.2.1;let y9:=s5.2.2.2.2.2.2.2.2.1;let y8:=s5.2.2.2.2.2.2.2.2.2.2.2.2.2.2.2.2.2.1;let y7:=s5.2.2.2.2.2.2.2.2.2.1;let y6:=s5.2.2.2.2.2.2.2.2.2.2.1;let y5:=s5.2.2.2.2.2.2.2.2.2.2.2.1;let y4:=s5.2.2.2.2.2.2.2.2.2.2.2.2.1;let y3:=s5.2.2.2.2.2.2.2.2.2.2.2.2.2.1;let y2:=s5.2.2.2.2.2.1;let y0:=(⟨y13,y11,y10,y8⟩:Host);let y1:=(znC y0 s5.2.1 y2); (cond (ilt y2 s5.2.2.2.2.1) (oN (znE y0 s5.2.1 y2) (cond (znD y0 s5.2.1 y2) (r4 ((zB .i64 s5.1 1),(s5.2.1,(s5.2.2.1,(s5.2.2.2.1,(s5.2.2.2.2.1,((zB .i64 y2 1),(y15,(y12,(y9,(y7,(y6,(y5,(y4,(y3,(y1.Memory,(y1.Mons,(y1.Buffer,(y1.IoBuffer,()))))))))))))))))))) (r4 (s5.1,(s5.2.1,(s5.2.2.1,(s5.2.2.2.1,(s5.2.2.2.2.1,((zB .i64 y2 1),(y15,(y12,(y9,(y7,(y6,(y5,(y4,(y3,(y1.Memory,(y1.Mons,(y1.Buffer,(y1.IoBuffer,()))))))))))))))))))))) (r2 (s5.1,(s5.2.2.1,((zB .i64 s5.2.2.2.1 1),(y15,(y12,(y9,(y7,(y6,(y5,(y4,(y3,(y13,(y11,(y10,(y8,())))))))))))))))))) (s3.1,(s3.2.2.1,(s3.2.1,(s3.2.2.1,((ln (ix s3.2.2.2.2.1 s3.2.2.1 zi).Guests),(0,(s3.2.2.2.1,(s3.2.2.2.2.1,(s3.2.2.2.2.2.1,(s3.2.2.2.2.2.2.1,(s3.2.2.2.2.2.2.2.1,(s3.2.2.2.2.2.2.2.2.1,(s3.2.2.2.2.2.2.2.2.2.1,(s3.2.2.2.2.2.2.2.2.2.2.1,(s3.2.2.2.2.2.2.2.2.2.2.2.1,(y17,(y16,(y14,())))))))))))))))))))) (some [(aH (⟨s3.2.2.2.2.2.2.2.2.2.2.2.1,y17,y16,y14⟩:Host)),(aI s3.1)]))) (0,((ln a0.Mons),(0,(a0.Memory,(a0.Mons,(a0.Buffer,(a0.IoBuffer,([],([],([],([],((zbe a0).Memory,((zbe a0).Mons,((zbe a0).Buffer,((zbe a0).IoBuffer,())))))))))))))))))
def zBd:FuncId->Nat->Option Tmpl:=zo [(34,0,{ n:=43,tm:=[(1,.lp 0 0),(2,.lp 1 0),(4,.lp 2 0),(5,ti),(14,ti),(15,ti)],lo:=[(0,[.sl 0 [],.sl 1 [],.sl 2 [],.sl 3 []]),(1,[.sl 4 [],.sl 5 [],.sl 6 [],.sl 7 []]),(2,[.sl 8 [],.sl 9 [],.sl 10 [],.sl 11 []])],ro:=[(0,(.sl .int),false),(1,.mon,false),(2,.entry,false),(3,.entry,false),(4,(.sl .int),true),(5,.mon,true),(6,.entry,true),(7,.entry,true),(8,(.sl .int),true),(9,.mon,true),(10,.entry,true),(11,.entry,true)] }),(34,2,{ n:=43,tm:=[(1,.lp 0 0),(2,.lp 1 0),(4,.lp 2 0),(5,ti),(6,ti),(14,ti),(15,ti),(24,ti),(25,ti)],lo:=[(0,[.sl 0 [],.sl 1 [],.sl 2 [],.sl 3 []]),(1,[.sl 4 [],.sl 5 [],.sl 6 [],.sl 7 []]),(2,[.sl 8 [],.sl 9 [],.sl 10 [],.sl 11 []])],ro:=[(0,(.sl .int),false),(1,.mon,false),(2,.entry,false),(3,.entry,false),(4,(.sl .int),true),(5,.mon,true),(6,.entry,true),(7,.entry,true),(8,(.sl .int),true),(9,.mon,true),(10,.entry,true),(11,.entry,true)] })]
theorem zN9 {l:List Mon}{i:Nat}(hi:i<l.length):(cnt l).drop i=(ix l (i:Int) mZ).Guests.length :: (cnt l).drop (i+1):=by
 have hi':i<(cnt l).length:=by simpa [cnt] using hi
 rw[kF hi',zbc hi];simp[cnt]
theorem cnt_end (l:List Mon):(cnt l).drop l.length=[]:=List.drop_eq_nil_of_le (by simp[cnt])
theorem zAk (a0:Host)(hc:zlZ a0=true):∃N,zrU N a0=some [aH (zcE a0),aI (zsd a0)]:=by
 have hs:=(zbI a0).1 (zC.1 hc);have hl:=zci hs.2.1.1;refine zbN fun N hNN=>?_;unfold zrU oN
 conv=>zeta
 refine must (zbh ((zbI _).2 hs)) ?_
 show _=zO9 (zoj a0)
 refine (zCE a0.Mons.length (fun i (t:Int×Host)=>(t.1,(ln a0.Mons,((i:Int),(a0.Memory,(a0.Mons,(a0.Buffer,(a0.IoBuffer,([],([],([],([],(t.2.Memory,(t.2.Mons,(t.2.Buffer,(t.2.IoBuffer,())))))))))))))))) _
  (fun _ t=>SmH t.2) (fun i t=>zO9 (ztm ((cnt a0.Mons).drop i) i t)) (fun i t rec hi hI hr=>?_) (fun t rec hI=>?_) N 0 (0,a0) hs (j9 _) (hNN hl.1)).trans rfl
 .have hg:(ix a0.Mons (i:Int) mZ).Guests.length<=big:=by rw[zbc hi];exact (zci (hs.2.1.2 _ (jS hi)).2.2.2.1.1).1
  refine must (zbp hi) (must (zY hi) ?_);rw[zN9 hi];refine (zCE (ix a0.Mons (i:Int) mZ).Guests.length (fun j (t:Int×Host)=>(t.1,((i:Int),(ln a0.Mons,((i:Int),(ln (ix a0.Mons (i:Int) mZ).Guests,((j:Int),(a0.Memory,(a0.Mons,(a0.Buffer,(a0.IoBuffer,([],([],([],([],(t.2.Memory,(t.2.Mons,(t.2.Buffer,(t.2.IoBuffer,()))))))))))))))))))) _
   (fun _ t=>SmH t.2) (fun j t=>zO9 (ztm ((cnt a0.Mons).drop (i+1)) (i+1) (zqB (i:Int) ((ix a0.Mons (i:Int) mZ).Guests.length-j) j t))) (fun j t rec1 hj hJ hr1=>?_) (fun t rec1 hJ=>?_) N 0 t hI (j9 _) (hNN hg)).trans rfl
  .have e:(ix a0.Mons (i:Int) mZ).Guests.length-j=((ix a0.Mons (i:Int) mZ).Guests.length-(j+1))+1:=by omega
   have q:=hr1 (tick t (i:Int) (j:Int)) (zuO (i:Int) (j:Int) hJ).sm;refine must (zbp hj) (must (zbh ((zbI _).2 hJ)) ?_);rw[e];simp only[zqB,zQ hj hg];rw[<- q];unfold tick;refine br (fun h=>?_) (fun h=>?_)
   .rw [show (zdJ t.2 (i:Int) (j:Int)).2=true from h]
    rfl
   .rw [show (zdJ t.2 (i:Int) (j:Int)).2=false from h]
    rfl
  .refine ze0 zbg ?_;simp only[uI,zqB,zQ hi hl.1];exact hr t hJ
 .refine ze0 zbg ?_;rw[cnt_end];rfl
theorem zvz:uV 34 zoB:=kF1 zGg zq zfa znf zBd zAk
def zQl:zK:=[(174,zkN),(143,zmb)]++zKT
theorem zGh:zx zQl:=zh znw (zh zos znp)
theorem zF0 {a b:Bool}(h:(a=true)↔(b=true)):a=b:=by cases a<;>cases b<;>simp_all
@[simp] theorem zTx (x:Int):win x 0 3=hasB x 4:=zF0 (by rw[zep];unfold hasB;rw[decide_eq_true_iff];omega)
@[simp] theorem zTy (x:Int):win x 0 7=hasB x 8:=zF0 (by rw[zep];unfold hasB;rw[decide_eq_true_iff];omega)
def zIM (t:List Slot)(p:Int)(s:Slot):List Slot:=bif hasB p (ln t) then up t p s else t
@[simp] theorem zSI (t:List Slot)(p:Int)(s:Slot):(zIM t p s).length=t.length:=by
 unfold zIM;cases hasB p (ln t)<;>simp
def zji (b:Bare)(g:Int):Bool:=bif zdZ b then hasB g (ln b.Guests) else false
@[simp] abbrev zq6 (b:Bare)(g:Int):Bool:=pc (SmB b)
@[simp] abbrev zkx (b:Bare)(g:Int):GExit:=(gAt b g).Exit
def ztX:Run:=rF2 (dT .bare) dI fun b c=>(zq6 b c,[.agg (zmC (zkx b c))])
def zyE (N:Nat)(a0:Bare)(a1:Int):OA:=
 let y0:=(zfC a0 a1); (oN (zfD a0 a1) (some [(.agg [(.i .i64 y0.Exit.Kind),(.i .i64 y0.Exit.Page),(.b y0.Exit.Write),(.i .i64 y0.Exit.N)])]))
theorem zGN (a0:Bare)(a1:Int)(hc:zq6 a0 a1=true):∃N,zyE N a0 a1=some [.agg (zmC (zkx a0 a1))]:=by
 have hs:=zC.1 hc;refine ⟨0,?_⟩;unfold zyE oN
 conv=>zeta
 refine mu ?_
 first|rfl|(simp only [*,zkx,cT,cF]<;>rfl)|simp_all[Ty.cells,zkx]
theorem zBP:uV 188 ztX:=kF2 zGh zq zl zn (zo []) zGN
def zQm:zK:=[(188,ztX)]++zQl
theorem zGi:zx zQm:=zh zBP zGh
theorem zPq {α:Type}{l:List α}{i:Int}{d:α}(h:hasB i (ln l)=true):up l i (ix l i d)=l:=by
 obtain ⟨k,rfl,hk⟩:=zcO (n:=l.length) h;unfold up;rw[zbc hk,kU];exact uG hk
def chg (b:Bare)(g:Int)(c:Bool)(x:Guest):Bare:=bif (cond (zji b g) c false) then zjf b g x else b
def zu3 (b:Bare)(g:Int)(c:Bool):Bool:=bif zji b g then c else false
def zHO:GExit:=⟨0,0,false,0⟩
def zBt (x:Guest)(v:Int):Bool:=bif win v 0 99 then (cond (ieq x.Exit.Kind 2) true (ieq x.Exit.Kind 3)) else false
def zBu (x:Guest)(v:Int):Guest:=zbs (stopped (cond (ieq x.Exit.Kind 2) { x with A:=v } x) zHO)
theorem zPe {x:Guest}(v:Int)(h:SmG x):SmG (zBu x v):=by
 unfold zBu;cases ieq x.Exit.Kind 2<;>exact zfZ h
theorem zRI {b:Bare}{g:Int}{c:Bool}{x:Guest}(h:SmB b)(hx:SmG x):SmB (chg b g c x):=by
 unfold chg;cases (cond (zji b g) c false)
 .exact h
 .exact zjg h hx
@[simp] abbrev zhM (b:Bare)(g v:Int):Bool:=pc (SmB b)
@[simp] abbrev zdb (b:Bare)(g v:Int):Bare:=chg b g (zBt (gAt b g) v) (zBu (gAt b g) v)
@[simp] abbrev zcY (b:Bare)(g v:Int):Bool:=zu3 b g (zBt (gAt b g) v)
def zja:Run:=rF3 (dT .bare) dI dI fun b c d=>(zhM b c d,[aT .bare (zdb b c d),aB (zcY b c d)])
def zpD (N:Nat)(a0:Bare)(a1 a2:Int):OA:=
 let y10:=(zfC a0 a1);let y7:=(ieq (zkx a0 a1).Kind 2);let y5:=(zd6 a0);let y4:=(ieq a0.Pending a0.Pending);let y2:=(aT .bare (zcM a0));let y1:=({ y10 with A:=a2 }:Guest);let y0:=(⟨0,0,false,0⟩:GExit);let y6:=(zdc y1 y0);let y8:=(aT .bare (zb4 a0 a1 (zb9 y6)));let y3:=(zdc y10 y0);let y9:=(aT .bare (zb4 a0 a1 (zb9 y3))); (oN (zq6 a0 a1) (cond y7 (oN (zbf a2 0 99) (oN (zfD a0 a1) (oN (zhN a0) (cond (nB (zc3 a0)) (oN y5 (some [y2,(aB false)])) (cond (nB (zez a0 a1)) (oN y5 (some [y2,(aB false)])) (cond (nB (zbo a2 0 99)) (oN y5 (some [y2,(aB false)])) (cond y7 (oN (zcG y1 y0) (oN (zcj y6) (oN (cond y4 true false) (oN (ieq a1 a1) (oN (zbr a0 a1 (zb9 y6)) (some [y8,(aB true)])))))) (oN (zcG y10 y0) (oN (zcj y3) (oN (cond y4 true false) (oN (ieq a1 a1) (oN (zbr a0 a1 (zb9 y3)) (some [y9,(aB true)]))))))))))))) (cond (ieq (zkx a0 a1).Kind 3) (oN (zbf a2 0 99) (oN (zfD a0 a1) (oN (zhN a0) (cond (nB (zc3 a0)) (oN y5 (some [y2,(aB false)])) (cond (nB (zez a0 a1)) (oN y5 (some [y2,(aB false)])) (cond (nB (zbo a2 0 99)) (oN y5 (some [y2,(aB false)])) (cond y7 (oN (zcG y1 y0) (oN (zcj y6) (oN (cond y4 true false) (oN (ieq a1 a1) (oN (zbr a0 a1 (zb9 y6)) (some [y8,(aB true)])))))) (oN (zcG y10 y0) (oN (zcj y3) (oN (cond y4 true false) (oN (ieq a1 a1) (oN (zbr a0 a1 (zb9 y3)) (some [y9,(aB true)]))))))))))))) (oN (zfD a0 a1) (oN (zhN a0) (cond (nB (zc3 a0)) (oN y5 (some [y2,(aB false)])) (cond (nB (zez a0 a1)) (oN y5 (some [y2,(aB false)])) (oN y5 (some [y2,(aB false)])))))))))
theorem zx4 (a0:Bare)(a1 a2:Int)(hc:zhM a0 a1 a2=true):∃N,zpD N a0 a1 a2=some [aT .bare (zdb a0 a1 a2),aB (zcY a0 a1 a2)]:=by
 have hs:=zC.1 hc;have hx:=zAZ a1 hs;have ho:_/\_/\_/\_:=hx;have hy2:SmG ({ gAt a0 a1 with A:=a2 }:Guest):=hx;have hy3:∀e,SmG (zbs (stopped (gAt a0 a1) e)):=fun e=>zfZ (zJO e hx)
 refine ⟨0,?_⟩;unfold zpD oN nB
 conv=>zeta
 refine mu (br (fun _=>must rfl (mu (must rfl (brN (fun _=>mu ?_) (fun _=>brN (fun _=>mu ?_) (fun _=>brN (fun _=>mu ?_) (fun _=>br (fun _=>mu (mu (mu (mu (mu ?_))))) (fun _=>mu (mu (mu (mu (mu ?_)))))))))))) (fun _=>br (fun _=>must rfl (mu (must rfl (brN (fun _=>mu ?_) (fun _=>brN (fun _=>mu ?_) (fun _=>brN (fun _=>mu ?_) (fun _=>br (fun _=>mu (mu (mu (mu (mu ?_))))) (fun _=>mu (mu (mu (mu (mu ?_)))))))))))) (fun _=>mu (must rfl (brN (fun _=>mu ?_) (fun _=>brN (fun _=>mu ?_) (fun _=>mu ?_)))))))
 all_goals first|rfl|(simp only [*,zdb,zcY,chg,zu3,zBt,zBu,zHO,zji,zhw,cT,cF]<;>rfl)|simp_all[Ty.cells,zdb,zcY,chg,zu3,zBt,zBu,zHO,zji,zhw]
theorem zlw:uV 79 zja:=kF3 zGi zq zl zn (zo []) zx4
def zQn:zK:=zQm
theorem zOz:zx zQn:=zGi
def zQo:zK:=zQn
theorem zOA:zx zQo:=zOz
end
end Go.Proofs.YtnnmbkjhakbicaaGreat.E
namespace Go.Proofs
open Go Go.Shelf
def Tryz.laysMul_ren : Go.Shelf.Ren := ⟨fun | 212 => 352 | 263 => 373 | 264 => 374 | n => n, fun | 46 => 209 | 51 => 266 | 146 => 267 | 53 => 269 | 148 => 270 | n => n, fun | n => n⟩
theorem Tryz.laysMul : Go.Proofs.Lays.n212 Tryz.prog Tryz.laysMul_ren := {
  mixed := by kernel_rfl
  f212 := Tryz.func352.trans (congrArg some (by kernel_rfl))
  f263 := Tryz.func373.trans (congrArg some (by kernel_rfl))
  f264 := Tryz.func374.trans (congrArg some (by kernel_rfl))
  t46 := Tryz.underlying209
  a46 := Tryz.isAgg209
  z46 := Tryz.sizeOf209
  v46 := Tryz.zeroValue209
  t51 := Tryz.underlying266
  a51 := Tryz.isAgg266
  z51 := Tryz.sizeOf266
  v51 := Tryz.zeroValue266
  t53 := Tryz.underlying269
  a53 := Tryz.isAgg269
  z53 := Tryz.sizeOf269
  v53 := Tryz.zeroValue269
  t146 := Tryz.underlying267
  a146 := Tryz.isAgg267
  z146 := Tryz.sizeOf267
  v146 := Tryz.zeroValue267
  t148 := Tryz.underlying270
  a148 := Tryz.isAgg270
  z148 := Tryz.sizeOf270
  v148 := Tryz.zeroValue270 }
end Go.Proofs
namespace Go.Proofs.YtnnmbkjhakbicaaGreat.E
open Go
set_option linter.unusedVariables false
set_option maxRecDepth 100000
set_option linter.unusedSimpArgs false
set_option linter.unusedSectionVars false
noncomputable section
section
open Go Go.RowKit Go.Proofs
section
variable {P:Program}
end
end
def zMf:zK:=[(79,zja)]++zQo
theorem zth:zx zMf:=zh zlw zOA
theorem zNQ {n:Int}(h:(ieq n 4||ieq n 8)=true):n=4\/n=8:=by
 rcases jT _ _ ▸ h with h|h
 .exact .inl (qJ h)
 .exact .inr (qJ h)
theorem zNm {n:Int}(h:(ieq n 8||ieq n 12)=true):n=8\/n=12:=by
 rcases jT _ _ ▸ h with h|h
 .exact .inl (qJ h)
 .exact .inr (qJ h)
@[simp] abbrev zfT (n:Int):Bool:=ieq n 4||ieq n 8
@[simp] abbrev zex (n:Int):List Slot:=List.replicate n.toNat ⟨-1,0⟩
def zkO:Run:=rF1 dI fun b=>(zfT b,[aS .slot (zex b)])
def zFR (N:Nat)(a0:Int):OA:=
 (oN (zlf a0 0 24) (iter (σ:=(Int×(lS×Unit))) N (fun r2 s3=>(cond (igt s3.1 0) (oN zb2 (oN (few (ln (ap s3.2.1 [zbm]))) (r2 ((wsub .i64 s3.1 1),((ap s3.2.1 [zbm]),()))))) (some [(aS .slot s3.2.1)]))) ((zlF a0 0 24),([],()))))
def zDs:FuncId->Nat->Option Tmpl:=zo [(144,0,{ n:=17,tm:=[(3,.sl 0 []),(4,ti)],lo:=[],ro:=[(0,.slot,true)] })]
theorem zC1 (a0:Int)(hc:zfT a0=true):∃N,zFR N a0=some [aS .slot (zex a0)]:=by
 refine ⟨30,?_⟩;have h:a0=4\/a0=8:=zNQ hc;rcases h with rfl|rfl<;>(change _=_;kernel_rfl)
theorem znx:uV 144 zkO:=kF1 zth zq zl zn zDs zC1
@[simp] abbrev zmN (n:Int):Bool:=ieq n 8||ieq n 12
@[simp] abbrev zhk (n:Int):List (List Int):=List.replicate n.toNat [0,0,0,0]
def znU:Run:=rF1 dI fun b=>(zmN b,[aS (.sl .int) (zhk b)])
def zKF (N:Nat)(a0:Int):OA:=
 (oN (zlf a0 0 24) (iter (σ:=(Int×(lM×Unit))) N (fun r2 s3=>(cond (igt s3.1 0) (oN (cond (few 4) (ieq 4 4) false) (oN (few (ln (ap s3.2.1 [(rp 4 0)]))) (r2 ((wsub .i64 s3.1 1),((ap s3.2.1 [(rp 4 0)]),()))))) (some [(aS (.sl .int) s3.2.1)]))) ((zlF a0 0 24),([],()))))
def zIA:FuncId->Nat->Option Tmpl:=zo [(58,0,{ n:=17,tm:=[(3,.sl 0 []),(4,ti)],lo:=[],ro:=[(0,(.sl .int),true)] })]
theorem zHh (a0:Int)(hc:zmN a0=true):∃N,zKF N a0=some [aS (.sl .int) (zhk a0)]:=by
 refine ⟨30,?_⟩;have h:a0=8\/a0=12:=zNm hc;rcases h with rfl|rfl<;>(change _=_;kernel_rfl)
theorem zpT:uV 58 znU:=kF1 zth zq zl zn zIA zHh
def zR6:zK:=[(144,zkO),(58,znU)]++zMf
theorem zMg:zx zR6:=zh znx (zh zpT zth)
def zlL:List Slot:=List.replicate 4 ⟨-1,0⟩
def zg4 (p:List Ins):Guest:=⟨p,0,0,zlL,zlL,⟨0,0,false⟩,0,⟨0,0,false,0⟩,false,[]⟩
@[simp] abbrev zj9 (p:List Ins):Bool:=pc (p.length<=1048576)
@[simp] abbrev zj8 (p:List Ins):Guest:=zg4 p
def zqq:Run:=rF1 (dS .ins) fun b=>(zj9 b,[aT .guest (zj8 b)])
def zs3 (N:Nat)(a0:lI):OA:=
 (oN (few (ln (ap [] a0))) (oN (zfT 4) (oN (zfT 4) (some [(aT .guest (⟨(ap [] a0),0,0,(zex 4),(zex 4),⟨0,0,false⟩,0,⟨0,0,false,0⟩,false,[]⟩:Guest))]))))
theorem zCY (a0:List Ins)(hc:zj9 a0=true):∃N,zs3 N a0=some [aT .guest (zj8 a0)]:=by
 have hs:=zC.1 hc;refine ⟨0,?_⟩;unfold zs3 oN;refine mu (must rfl (must rfl ?_))
 first|rfl|(simp only [*,zj8,zg4,zlL,cT,cF]<;>rfl)|simp_all[Ty.cells,zj8,zg4,zlL]
theorem zxO:uV 90 zqq:=kF1 zMg zq zl zn (zo []) zCY
def zO1:List (List Int):=List.replicate 8 [0,0,0,0]
def zRR (ps:List (List Ins)):Prop:=ps.length<=1048576/\∀p∈ps,p.length<=1048576
theorem zD6 {α β ρ:Type}(m:Nat)(f:α->β)(K:List β->Option ρ):∀(l:List α) (i:Nat) (acc:List β),acc.length+l.length<=2147483648 ->
 goL (fun (i:Nat) x acc k=>bif ilt (i:Int) (m:Int) then (cond (few (ln (ap acc [f x]))) (k (ap acc [f x])) none) else K acc) K l i acc=K (acc++(l.take (m-i)).map f)
 | [],i,acc,_=>by simp[goL]
 | x :: l,i,acc,hn=>by
  simp only[qY]at hn;have hf:few (ln (ap acc [f x]))=true:=zeM (by simp[ap];omega)
  by_cases h:i<m
  .have hi:ilt (i:Int) (m:Int)=true:=qN (by omega)
   simp only[goL,hi,hf,cT];rw[zD6 m f K l (i+1) (ap acc [f x]) (by simp[ap];omega)]
   rw[show m-i=m-(i+1)+1 by omega]
   simp[ap]
  .have hi:ilt (i:Int) (m:Int)=false:=qK (by omega)
   simp only[goL,hi,cF];rw[show m-i=0 by omega]
   simp
def zF9:zK:=[(79,zja),(58,znU)]++zQk
theorem zDR:zx zF9:=zh zlw (zh zpT zGg)
def zFu (x:Mon)(b:Bare):Mon:={ x with Guests:=b.Guests,Pending:=b.Pending }
def zog (h:Host)(m:Int)(b:Bare):Host:={ h with Mons:=up h.Mons m (zFu (ix h.Mons m mZ) b) }
@[simp] abbrev zwW (h:Host)(m:Int)(b:Bare):Bool:=pc (hasB m (ln h.Mons)=true/\znk b.Guests)
@[simp] abbrev zEj (h:Host)(m:Int)(b:Bare):Host:=zog h m b
theorem zNV {l:List Mon}{m:Int}(hm:hasB m (ln l)=true)(b:Bare):inb m (ln (up l m { ix l m mZ with Guests:=b.Guests }))=true /\
 up (up l m { ix l m mZ with Guests:=b.Guests }) m { ix (up l m { ix l m mZ with Guests:=b.Guests }) m mZ with Pending:=b.Pending }=up l m (zFu (ix l m mZ) b):=by
 obtain ⟨k,rfl,hk⟩:=zcO (n:=l.length) hm;refine ⟨zA (by rw[ln,zlM];exact hm),?_⟩
 rw[zrP,zdp hk];rfl
def zmh:List AV->Option (Bool×List AV)
 | [.agg [.s (.sl .int) b,.s .mon c,.s .entry d,.s .entry e],.one (.i .i64 f),.agg [.s (.sl .int) g,.s .guest h,.s .int j,.i .i64 k]]=>some ((zwW (⟨b,c,d,e⟩:Host) f (⟨g,h,j,k⟩:Bare)),[aH (zEj (⟨b,c,d,e⟩:Host) f (⟨g,h,j,k⟩:Bare))])
 | _=>none
def zo4 (N:Nat)(a0:Host)(a1:Int)(a2:Bare):OA:=
 (oN (zfc a2.Guests) (oN (inb a1 (ln a0.Mons)) (share (up a0.Mons a1 ({ (ix a0.Mons a1 zi) with Guests:=(zfG a2.Guests) }:Mon)) (fun x4=>(oN (inb a1 (ln x4)) (share (up x4 a1 ({ (ix x4 a1 zi) with Pending:=a2.Pending }:Mon)) (fun x5=>(some [(aH ({ a0 with Mons:=x5 }:Host))]))))))))
theorem zHM (N:Nat)(a0:Host)(a1:Int)(a2:Bare):zKZ (cQ zF9 zjX zLK zPp) (zo []) N 12 259 [true,true,true,true,false,false,false,false,false] [aH a0,aI a1,aT .bare a2]=zo4 N a0 a1 a2:=by kernel_rfl
theorem zFe (a0:Host)(a1:Int)(a2:Bare)(hb:zbu big [aH a0,aI a1,aT .bare a2])(hc:zwW a0 a1 a2=true):∃N,zo4 N a0 a1 a2=some [aH (zEj a0 a1 a2)]:=by
 obtain ⟨hm,hg⟩:=zC.1 hc;obtain ⟨h1,h2⟩:=zNV hm a2;refine ⟨0,?_⟩;unfold zo4 oN;refine must (zbF ((ztj _).2 hg)) (must (zA hm) (shr (must h1 (shr ?_))));have e:zfG a2.Guests=a2.Guests:=rfl;rw[e]
 show some [AV.agg (zbi { a0 with Mons:=_ })]=some [AV.agg (zbi { a0 with Mons:=_ })]
 rw[show zi=mZ from rfl,h2]
theorem zAc:zcP Tryz.prog 259 [true,true,true,true,false,false,false,false,false] none zmh:=by
 refine zBK (zb3 zDR zq zfa znf) (zcX (by kernel_rfl)) (by kernel_rfl) ?_
 intro avs rs hl hr h;have hb:=zfL hr;unfold zmh at h;split at h
 .obtain ⟨hc,rfl⟩:=zhu h;obtain ⟨N,hN⟩:=zFe _ _ _ (by exact hb) hc
  exact ⟨_,N,12,(zHM N _ _ _ ).trans hN⟩
 .cases h
def zMn:zK:=zF9
theorem zDS:zx zMn:=zDR
def zS3:zdl:=[(259,([true,true,true,true,false,false,false,false,false],none,zmh))]++zPp
theorem zrN:zcR zS3:=zkU znf (by
 intro x hx;simp only[qG,qU,or_false]at hx;rcases hx with rfl
 .exact zAc)
def zQJ (h:Host)(m:Int)(cB:Bool)(B:Bare)(ok:Bool)(o0 o1:Host->Ans):OA:=
 bif zeQ h then (cond (zhP h) (cond (cond (zg8 h) false true) (some (o0 h)) (cond (zby m (ln h.Mons)) (cond (cond (zbS m (ln h.Mons)) false true) (some (o0 h)) (cond (zjQ h m) (cond cB (cond ok (cond (zdL B.Guests) (cond (inb m (ln h.Mons)) (share (up h.Mons m { ix h.Mons m mZ with Guests:=B.Guests }) fun x=>(cond (inb m (ln x)) (share (up x m { ix x m mZ with Pending:=B.Pending }) fun y=>some (o1 { h with Mons:=y })) none)) none) none) (some (o1 h))) none) none)) none)) none) else none
theorem zgc {h:Host}{m:Int}:(zgr h m=true)↔zcp h=true/\hasB m (ln h.Mons)=true:=by
 unfold zgr;cases zcp h<;>simp
theorem zO8 {h:Host}{m:Int}{cB:Bool}{B:Bare}{ok:Bool}{o0 o1:Host->Ans}(hs:SmH h)(hc:zgr h m=true->cB=true)(hB:zgr h m=true->SmB B)(hno:zgr h m=true->ok=false->zog h m B=h) :
 zQJ h m cB B ok o0 o1=some (cond (zgr h m) (o1 (zog h m B)) (o0 h)):=by
 have hS:zcQ h:=(zbI h).2 hs;unfold zQJ;refine must (zbF hS) (must rfl ?_);rw[show zg8 h=zcp h from rfl]
 have hc':zcp h=true->hasB m (ln h.Mons)=true->cB=true:=fun a b=>hc (zgc.2 ⟨a,b⟩);have hB':zcp h=true->hasB m (ln h.Mons)=true->SmB B:=fun a b=>hB (zgc.2 ⟨a,b⟩);unfold zgr at hno ⊢;cases h1:zcp h
 .rfl
 .refine ze0 rfl (must rfl ?_);rw[show zbS m (ln h.Mons)=hasB m (ln h.Mons) from rfl]
  rw[h1]at hno;cases h2:hasB m (ln h.Mons)
  .rfl
  .rw [h2]at hno;refine ze0 rfl (must (zbh hS) (must (hc' h1 h2) ?_));cases ok
   .simp only [cT,cF,hno rfl rfl]
   .obtain ⟨e1,e2⟩:=zNV h2 B;refine must rfl (must (zbF (hB' h1 h2).2.1) (must (zA h2) (shr (must e1 (shr ?_)))))
    show some (o1 { h with Mons:=_ })=_
    rw[e2];rfl
structure SameB (b c:Bare):Prop where
 g:b.Guests=c.Guests
 p:b.Pending=c.Pending
 o:zdZ b=zdZ c
theorem SameB.at {b c:Bare}(h:SameB b c)(g:Int):gAt b g=gAt c g:=by unfold gAt;rw[h.g]
theorem SameB.has {b c:Bare}(h:SameB b c)(g:Int):zji b g=zji c g:=by unfold zji;rw[h.g,h.o]
theorem zMe {h:Host}{m:Int}(hm:hasB m (ln h.Mons)=true):zog h m (zbl h m)=h:=by
 unfold zog zFu zbl;rw[hm,cT];simp only;rw[zPq hm]
theorem zN6 {b:Bare}{g:Int}{k:Bool}{x:Guest}(h:zu3 b g k=false):chg b g k x=b:=by
 unfold chg;unfold zu3 at h;rw[h];rfl
def zFG (h:Host)(m:Int)(b:Bare):Host:=bif zgr h m then zog h m b else h
def zQK (h:Host)(m:Int)(ok:Bool):Bool:=bif zgr h m then ok else false
@[simp] abbrev zkD (b:Bare)(g v:Int):Bare:=chg b g (zBt (gAt b g) v) (zBu (gAt b g) v)
@[simp] abbrev zp7 (b:Bare)(g v:Int):Bool:=zu3 b g (zBt (gAt b g) v)
theorem zAX {b:Bare}(g v:Int)(hb:SmB b):SmB (zkD b g v):=zRI hb (zPe _ (zAZ _ hb))
theorem zJA {b:Bare}(g v:Int)(hk:zp7 b g v=false):zkD b g v=b:=zN6 hk
@[simp] abbrev zkz (h:Host)(m:Int)(g v:Int):Bool:=pc (zcQ h)
@[simp] abbrev zeI (h:Host)(m:Int)(g v:Int):Host:=zFG h m (zkD (zbl h m) g v)
@[simp] abbrev zcZ (h:Host)(m:Int)(g v:Int):Bool:=zQK h m (zp7 (zbl h m) g v)
def zjb:Run:=rF4 dH dI dI dI fun b c d e=>(zkz b c d e,[aH (zeI b c d e),aB (zcZ b c d e)])
def zpG (N:Nat)(a0:Host)(a1 a2 a3:Int):OA:=
 let y1:=(zbe a0);let y0:=(zi5 a0 a1); (oN (zeQ a0) (oN (zhP a0) (cond (nB (zg8 a0)) (some [(aH y1),(aB false)]) (oN (zby a1 (ln a0.Mons)) (cond (nB (zbS a1 (ln a0.Mons))) (some [(aH y1),(aB false)]) (oN (zjQ a0 a1) (oN (zhM y0 a2 a3) (cond (zcY y0 a2 a3) (oN (zdL (zdb y0 a2 a3).Guests) (oN (inb a1 (ln y1.Mons)) (share (up y1.Mons a1 ({ (ix y1.Mons a1 zi) with Guests:=(zeP (zdb y0 a2 a3).Guests) }:Mon)) (fun x5=>(oN (inb a1 (ln x5)) (share (up x5 a1 ({ (ix x5 a1 zi) with Pending:=(zdb y0 a2 a3).Pending }:Mon)) (fun x6=>(some [(aH ({ y1 with Mons:=x6 }:Host)),(aB (zcY y0 a2 a3))])))))))) (some [(aH y1),(aB (zcY y0 a2 a3))])))))))))
theorem zx7 (a0:Host)(a1 a2 a3:Int)(hc:zkz a0 a1 a2 a3=true):∃N,zpG N a0 a1 a2 a3=some [aH (zeI a0 a1 a2 a3),aB (zcZ a0 a1 a2 a3)]:=by
 have hs:=(zbI a0).1 (zC.1 hc);refine ⟨0,?_⟩;have key:=zO8 (h:=a0) (m:=a1) (cB:=zhM (zbl a0 a1) a2 a3) (B:=zdb (zbl a0 a1) a2 a3) (ok:=zcY (zbl a0 a1) a2 a3) (o0:=fun H=>[.agg (zbi H),.one (.b false)]) (o1:=fun H=>[.agg (zbi H),.one (.b (zcY (zbl a0 a1) a2 a3))]) hs
  (fun h0=>zbF (zn5 hs (zgc.1 h0).2)) (fun h0=>zAX _ _ (zn5 hs (zgc.1 h0).2)) (fun h0 hk=>(congrArg (zog a0 a1) (zJA _ _ hk)).trans (zMe (zgc.1 h0).2))
 refine (show zpG 0 a0 a1 a2 a3=_ from key).trans ?_
 unfold zeI zcZ zFG zQK;cases zgr a0 a1<;>rfl
theorem zlx:uV 35 zjb:=kF4 zDS zq zfa zrN (zo []) zx7
def zMo:zK:=[(35,zjb)]++zMn
theorem zMp:zx zMo:=zh zlx zDS
def zMq:zK:=zMo
theorem zMr:zx zMq:=zMp
theorem zL2 {x:Mon}{b:Bare}(h:ziL x)(hb:znk b.Guests):ziL (zFu x b):=⟨h.1,h.2.1,h.2.2.1,hb,h.2.2.2.2⟩
theorem zPg {h:Host}{m:Int}{b:Bare}(hs:SmH h)(hm:hasB m (ln h.Mons)=true)(hb:znk b.Guests):SmH (zog h m b) :=
 ⟨hs.1,zuS hs.2.1 (zL2 (hs.2.1.2 _ (zb7 hm _)) hb),hs.2.2⟩
def zMs:zK:=zMq
theorem zMt:zx zMs:=zMr
def zMu:zK:=zMs
theorem zMv:zx zMu:=zMt
def zMw:zK:=zMu
theorem zMx:zx zMw:=zMv
def zMy:zK:=zMw
theorem zMz:zx zMy:=zMx
def zMA:zK:=[(144,zkO),(90,zqq)]++zMy
theorem zDT:zx zMA:=zh znx (zh zxO zMz)
def zp1:Kept:=⟨rp 4 false,zlL⟩
@[simp] abbrev zpr (n:Int):Bool:=ieq n 4
@[simp] abbrev zoT (n:Int):Kept:=zp1
def zsu:Run:=rF1 dI fun b=>(zpr b,[aT .kept (zoT b)])
def zIQ (N:Nat)(a0:Int):OA:=
 let y0:=(ln (zex a0)); (oN (zfT a0) (oN (cond (few y0) (ieq y0 y0) false) (some [(aT .kept (⟨(rp y0 false),(zex a0)⟩:Kept))])))
theorem zE3 (a0:Int)(hc:zpr a0=true):∃N,zIQ N a0=some [aT .kept (zoT a0)]:=by
 refine ⟨0,?_⟩;have h:a0=4:=qJ hc;subst h
 change _=_
 kernel_rfl
theorem zz1:uV 145 zsu:=kF1 zDT zq zfa zrN (zo []) zE3
def zMB:zK:=[(145,zsu)]++zMA
theorem zDU:zx zMB:=zh zz1 zDT
def zId:List Slot:=List.replicate 8 ⟨-1,0⟩
def zix (ps:List (List Ins)):Mon:=⟨zId,zO1,rp 8 false,(ps.take 2).map zg4,[],0,0,(ps.take 2).map (fun _=>zp1),0⟩
theorem zAA {α β γ ρ:Type}(m:Nat)(f:α->β)(g:α->γ)(K:List β×List γ->Option ρ):∀(l:List α) (i:Nat) (u:List β×List γ),u.1.length+l.length<=2147483648->u.2.length+l.length<=2147483648 ->
 goL (fun (i:Nat) x (u:List β×List γ) k=>bif ilt (i:Int) (m:Int) then (cond (few (ln (ap u.1 [f x]))) (cond (few (ln (ap u.2 [g x]))) (k (ap u.1 [f x],ap u.2 [g x])) none) none) else K u) K l i u=K (u.1++(l.take (m-i)).map f,u.2++(l.take (m-i)).map g)
 | [],i,u,_,_=>by simp[goL]
 | x :: l,i,u,h1,h2=>by
  simp only[qY]at h1 h2;have e1:few (ln (ap u.1 [f x]))=true:=zeM (by simp[ap];omega)
  have e2:few (ln (ap u.2 [g x]))=true:=zeM (by simp[ap];omega)
  by_cases h:i<m
  .have hi:ilt (i:Int) (m:Int)=true:=qN (by omega)
   simp only[goL,hi,e1,e2,cT];rw[zAA m f g K l (i+1) _ (by simp[ap];omega) (by simp[ap];omega)]
   rw[show m-i=m-(i+1)+1 by omega]
   simp[ap]
  .have hi:ilt (i:Int) (m:Int)=false:=qK (by omega)
   simp only[goL,hi,cF];rw[show m-i=0 by omega]
   simp
def zNq (u:List Guest×List Kept):OA:=some [AV.agg (Ty.cells .mon (⟨zId,zO1,rp 8 false,u.1,[],0,0,u.2,0⟩:Mon))]
@[simp] abbrev zmO (ps:List (List Ins)):Bool:=pc (zRR ps)
@[simp] abbrev zym (ps:List (List Ins)):Mon:=zix ps
def zuu:Run:=rF1 (dS (.sl .ins)) fun b=>(zmO b,[aT .mon (zym b)])
def zy7 (N:Nat)(a0:lP):OA:=
 (oN (zfT 8) (oN (zmN 8) (oN (cond (few 8) (ieq 8 8) false) (iter (σ:=(Int×(Int×(Int×(Int×(Int×(Int×(Int×(lP×(lS×(lM×(lB×(lG×((List Int)×(lK×(lS×(lM×(lB×(lG×((List Int)×(lK×Unit))))))))))))))))))))) N (fun r2 s3=>let y8:=s3.2.2.2.2.2.2.2.2.2.2.2.2.2.2.1;let y7:=s3.2.2.2.2.2.2.2.2.2.2.2.2.2.2.2.1;let y6:=s3.2.2.2.2.2.2.2.2.2.2.2.2.2.2.2.2.1;let y5:=s3.2.2.2.2.2.2.2.2.2.2.2.2.2.2.2.2.2.1;let y4:=s3.2.2.2.2.2.2.2.2.2.2.2.2.2.2.2.2.2.2.1;let y3:=s3.2.2.2.2.2.2.2.1;let y2:=s3.2.2.2.2.2.2.2.2.2.2.2.2.2.2.2.2.2.2.2.1;let y1:=(ap y5 [(zj8 (ix y3 s3.1 []))]);let y0:=(aT .mon (⟨y8,y7,y6,y5,y4,s3.2.2.2.2.1,s3.2.2.2.2.2.1,y2,s3.2.2.2.2.2.2.1⟩:Mon)); (cond (ilt s3.1 (ln y3)) (cond (ilt s3.1 2) (oN (inb s3.1 (ln y3)) (oN (zj9 (ix y3 s3.1 [])) (oN (few (ln y1)) (oN (zpr 4) (oN (few (ln (ap y2 [(zoT 4)]))) (r2 ((zB .i64 s3.1 1),(s3.2.1,(s3.2.2.1,(s3.2.2.2.1,(s3.2.2.2.2.1,(s3.2.2.2.2.2.1,(s3.2.2.2.2.2.2.1,(y3,(s3.2.2.2.2.2.2.2.2.1,(s3.2.2.2.2.2.2.2.2.2.1,(s3.2.2.2.2.2.2.2.2.2.2.1,(s3.2.2.2.2.2.2.2.2.2.2.2.1,(s3.2.2.2.2.2.2.2.2.2.2.2.2.1,(s3.2.2.2.2.2.2.2.2.2.2.2.2.2.1,(y8,(y7,(y6,(y1,(y4,((ap y2 [(zoT 4)]),())))))))))))))))))))))))))) (some [y0])) (some [y0]))) (0,(0,(0,(0,(0,(0,(0,(a0,([],([],([],([],([],([],((zex 8),((zhk 8),((rp 8 false),([],([],([],()))))))))))))))))))))))))
def zIB:FuncId->Nat->Option Tmpl:=zo [(59,0,{ n:=36,tm:=[(0,.sl 0 []),(2,.lp 0 0),(3,.lp 1 0),(4,ti)],lo:=[(0,[.sl 1 [],.sl 2 [],.sl 3 [],.sl 4 [],.sl 5 [],ti,ti,.sl 6 [],ti]),(1,[.sl 7 [],.sl 8 [],.sl 9 [],.sl 10 [],.sl 11 [],ti,ti,.sl 12 [],ti])],ro:=[(0,(.sl .ins),false),(1,.slot,true),(2,(.sl .int),true),(3,.bool,true),(4,.guest,true),(5,.int,true),(6,.kept,true),(7,.slot,true),(8,(.sl .int),true),(9,.bool,true),(10,.guest,true),(11,.int,true),(12,.kept,true)] })]
theorem zHi (a0:List lI)(hc:zmO a0=true):∃N,zy7 N a0=some [aT .mon (zym a0)]:=by
 have hs:=zC.1 hc;have hl:=zci hs.1;refine zbN fun N hNN=>?_;unfold zy7 oN
 conv=>zeta
 refine must rfl (must rfl (must rfl ?_));refine (zW a0 (fun i (t:lG×lK)=>((i:Int),0,0,0,0,0,0,a0,[],[],[],[],[],[],(zex 8),(zhk 8),(rp 8 false),t.1,[],t.2,())) _ (fun i (x:List Ins) (u:List Guest×List Kept) κ=>bif ilt (i:Int) ((2:Nat):Int) then (cond (few (ln (ap u.1 [zg4 x]))) (cond (few (ln (ap u.2 [zp1]))) (κ (ap u.1 [zg4 x],ap u.2 [zp1])) none) none) else zNq u) (fun (t:lG×lK)=>(some [(.agg (Ty.cells .mon (⟨(zex 8),(zhk 8),(rp 8 false),t.1,[],0,0,t.2,0⟩:Mon)))])) (fun i hi t rec=>?_) (fun t rec=>?_) _ ([],[]) (hNN hl.1)).trans ?_
 .simp only [zbp hi,zY hi,zbc hi,zQ hi hl.1,cT];have hx:zj9 a0[i]=true:=zbF (hs.2 _ (jS hi));simp only[hx,cT];rfl
 .simp only [zbg,cF]
 exact zAA 2 zg4 (fun _=>zp1) zNq a0 0 ([],[]) (by simpa using hl.2) (by simpa using hl.2)
theorem zCj:uV 59 zuu:=kF1 zDU zq zfa zrN zIB zHi
def zMC:zK:=[(59,zuu)]++zMB
theorem zDV:zx zMC:=zh zCj zDU
def zLo:List (List Int):=List.replicate 12 [0,0,0,0]
def zm5 (ps:List (List (List Ins))):Host:=⟨zLo,(ps.take 3).map zix,[],[]⟩
def zKI (ps:List (List (List Ins))):Prop:=ps.length<=1048576/\∀p∈ps,zRR p
@[simp] abbrev zpq (ps:List (List (List Ins))):Bool:=pc (zKI ps)
@[simp] abbrev zoS (ps:List (List (List Ins))):Host:=zm5 ps
def zKa (t:List Mon):OA:=some [AV.agg (zbi ⟨zLo,t,[],[]⟩)]
def zmd:Run:=rF1 (dS (.sl (.sl .ins))) fun b=>(zpq b,[aH (zoS b)])
def zwf (N:Nat)(a0:lQ):OA:=
 (oN (zmN 12) (iter (σ:=(Int×(lQ×(lM×(lN×(lE×(lE×(lM×(lN×(lE×(lE×Unit))))))))))) N (fun r2 s3=>let y1:=(ap s3.2.2.2.2.2.2.2.1 [(zym (ix s3.2.1 s3.1 []))]);let y0:=(aH (⟨s3.2.2.2.2.2.2.1,s3.2.2.2.2.2.2.2.1,s3.2.2.2.2.2.2.2.2.1,s3.2.2.2.2.2.2.2.2.2.1⟩:Host)); (cond (ilt s3.1 (ln s3.2.1)) (cond (ilt s3.1 3) (oN (inb s3.1 (ln s3.2.1)) (oN (zmO (ix s3.2.1 s3.1 [])) (oN (few (ln y1)) (r2 ((zB .i64 s3.1 1),(s3.2.1,(s3.2.2.1,(s3.2.2.2.1,(s3.2.2.2.2.1,(s3.2.2.2.2.2.1,(s3.2.2.2.2.2.2.1,(y1,(s3.2.2.2.2.2.2.2.2.1,(s3.2.2.2.2.2.2.2.2.2.1,())))))))))))))) (some [y0])) (some [y0]))) (0,(a0,([],([],([],([],((zhk 12),([],([],([],()))))))))))))
def zFn:FuncId->Nat->Option Tmpl:=zo [(25,0,{ n:=28,tm:=[(0,.sl 0 []),(2,.lp 0 0),(3,.lp 1 0),(4,ti)],lo:=[(0,[.sl 1 [],.sl 2 [],.sl 3 [],.sl 4 []]),(1,[.sl 5 [],.sl 6 [],.sl 7 [],.sl 8 []])],ro:=[(0,(.sl (.sl .ins)),false),(1,(.sl .int),true),(2,.mon,true),(3,.entry,true),(4,.entry,true),(5,(.sl .int),true),(6,.mon,true),(7,.entry,true),(8,.entry,true)] })]
theorem zE2 (a0:List lP)(hc:zpq a0=true):∃N,zwf N a0=some [aH (zoS a0)]:=by
 have hs:=zC.1 hc;have hl:=zci hs.1;refine zbN fun N hNN=>?_;unfold zwf oN
 conv=>zeta
 refine must rfl ?_;refine (zW a0 (fun i (t:lN)=>((i:Int),a0,[],[],[],[],(zhk 12),t,[],[],())) _ (fun i (x:List lI) (t:List Mon) κ=>bif ilt (i:Int) ((3:Nat):Int) then (cond (few (ln (ap t [zix x]))) (κ (ap t [zix x])) none) else zKa t) (fun (t:lN)=>(some [(.agg (zbi (⟨(zhk 12),t,[],[]⟩:Host)))])) (fun i hi t rec=>?_) (fun t rec=>?_) _ ([]) (hNN hl.1)).trans ?_
 .simp only [zbp hi,zY hi,zbc hi,zQ hi hl.1,cT];have hx:zmO a0[i]=true:=zbF (hs.2 _ (jS hi));simp only[hx,cT];rfl
 .simp only [zbg,cF]
 exact zD6 3 zix zKa a0 0 [] (by simpa using hl.2)
theorem zou:uV 25 zmd:=kF1 zDV zq zfa zrN zFn zE2
def zMD:zK:=[(25,zmd)]++zMC
theorem zME:zx zMD:=zh zou zDV
def zMF:zK:=zMD
theorem zMG:zx zMF:=zME
def zMH:zK:=zMF
theorem zMI:zx zMH:=zMG
def zMJ:zK:=zMH
theorem zMK:zx zMJ:=zMI
theorem zPh {h:Host}{m:Int}{b:Bare}(hs:SmH h)(hb:zgr h m=true->SmB b):SmH (zFG h m b):=by
 unfold zFG;cases h0:zgr h m
 .exact hs
 .exact zPg hs (zgc.1 h0).2 (hb h0).2.1
def zML:zK:=zMJ
theorem zMM:zx zML:=zMK
def zMN:zK:=zML
theorem zMO:zx zMN:=zMM
theorem zRL {ps:List (List (List Ins))}(h:zKI ps):SmH (zm5 ps):=by
 refine ⟨show SmM zLo from ⟨by decide,by decide⟩,⟨?_,?_⟩,by simp[zm5],by simp[zm5]⟩
 .simp only [zm5,uK,uU];omega
 .intro x hx;simp only[zm5,jC]at hx;obtain ⟨p,hp,rfl⟩:=hx;have hps:=h.2 p (kA hp);refine ⟨show zId.length<=1048576 by decide,show SmM zO1 from ⟨by decide,by decide⟩,show (rp 8 false).length<=1048576 by decide,⟨?_,?_⟩,by simp[zix],⟨?_,?_⟩⟩
  .simp only [zix,uK,uU];omega
  .intro y hy;simp only[zix,jC]at hy;obtain ⟨q,hq,rfl⟩:=hy;exact ⟨hps.2 q (kA hq),show zlL.length<=1048576 by decide,show zlL.length<=1048576 by decide,by simp[zg4]⟩
  .simp only [zix,uK,uU];omega
  .intro y hy;simp only[zix,jC]at hy;obtain ⟨q,hq,rfl⟩:=hy;exact ⟨show (rp 4 false).length<=1048576 by decide,show zlL.length<=1048576 by decide⟩
def zGa:zK:=zMN
theorem zIW:zx zGa:=zMO
theorem zg5 {i n:Int}:hasB i n=true↔0<=i/\i<n:=by unfold hasB;exact decide_eq_true_iff
theorem zOP {x y:Int}:ieq x y=true↔x=y:=by simp[ieq]
theorem zSk {x y:Int}:ieq x y=false↔x≠y:=by simp[ieq]
theorem zoZ {α:Type}(l:List α)(i:Int)(x:α):(up l i x).length=l.length:=by simp[up]
theorem zQx {α:Type}{l:List α}{i:Int}(h:hasB i (ln l)=true)(d:α):∃k:Nat,∃hk:k<l.length,i=(k:Int)/\ix l i d=l[k]:=by
 rw[zg5]at h;unfold ln at h;refine ⟨i.toNat,by omega,by omega,?_⟩
 simp[ix,List.getD,qB (show i.toNat<l.length by omega)]
theorem zLf {α:Type}{l:List α}{i:Int}(h:hasB i (ln l)=true)(d:α):ix l i d∈l:=by
 obtain ⟨k,hk,_,e⟩:=zQx h d;rw[e];exact jS hk
theorem zGF {α:Type}{l:List α}{i:Int}(h:hasB i (ln l)=true)(x d:α):ix (up l i x) i d=x:=by
 rw[zg5]at h;unfold ln at h;simp[ix,up,List.getD,show i.toNat<l.length by omega]
theorem zGG {α:Type}{l:List α}{i j:Int}(hi:0<=i)(hj:0<=j)(h:i≠j)(x d:α):ix (up l i x) j d=ix l j d:=by
 have:i.toNat≠j.toNat:=by omega
 simp[ix,up,List.getD,jA,this]
def cPg (x:Mon)(q:Int):Nat:=x.Outer.countP fun s=>ieq s.Page q
def zBw (l:List Mon)(q:Int):Nat:=(l.map fun x=>cPg x q).sum
theorem zSE {l:List Mon}{m:Int}(h:hasB m (ln l)=true)(x:Mon)(q:Int):zBw (up l m x) q+cPg (ix l m mZ) q=zBw l q+cPg x q:=by
 obtain ⟨k,hk,rfl,e⟩:=zQx h mZ;rw[e]
 clear h e
 unfold up;simp only[kU]
 induction l generalizing k with
 | nil=>simp at hk
 | cons y l ih =>
  cases k with
  | zero=>simp[zBw];omega
  | succ k =>
   have:=ih k (by simpa using hk)
   simp[zBw] at this ⊢;omega
def SOk (s:Slot):Prop:=s=noSlot\/(0<=s.Page/\s.Page<=11/\1<=s.Rights/\s.Rights<=3)
theorem SOk.none {s:Slot}(h:SOk s)(hp:s.Page = -1):s=noSlot:=by
 rcases h with h|h
 .exact h
 .omega
structure MOk (x:Mon):Prop where
 g1:1<=x.Guests.length
 g2:x.Guests.length<=2
 gt:x.Tables.length=x.Guests.length
 o8:x.Outer.length=8
 sl:∀s∈x.Outer,SOk s
 u8:x.Out.length=8
 d8:x.Dirty.length=8
 outs:x.Outs.length<=40
 pend:zdE x.Pending=true
 tr:win x.Traps 0 3=true
 own:win x.Own 0 1000000000=true
 gs:∀g∈x.Guests,zcf g=true
 fit:∀p,hasB p 8=true->zna (ix x.Outer p sZ) (ix x.Out p [])=true
structure HOk (h:Host):Prop where
 m12:h.Memory.length=12
 pgs:∀c∈h.Memory,zb0 c=true
 n1:1<=h.Mons.length
 n3:h.Mons.length<=3
 b1:zk2 h.Buffer=true
 b2:zk2 h.IoBuffer=true
 mons:∀x∈h.Mons,MOk x
 uq:∀q,0<=q->zBw h.Mons q<=1
theorem HOk.mon {h:Host}(H:HOk h){m:Int}(hm:hasB m (ln h.Mons)=true):MOk (ix h.Mons m mZ):=H.mons _ (zLf hm _)
theorem MOk.hasO {x:Mon}(H:MOk x){p:Int}(hp:hasB p 8=true):hasB p (ln x.Outer)=true:=by rw[ln,H.o8];exact hp
theorem MOk.hasU {x:Mon}(H:MOk x){p:Int}(hp:hasB p 8=true):hasB p (ln x.Out)=true:=by rw[ln,H.u8];exact hp
theorem MOk.slot {x:Mon}(H:MOk x){p:Int}(hp:hasB p 8=true):SOk (ix x.Outer p sZ):=H.sl _ (zLf (H.hasO hp) _)
theorem HOk.up {h:Host}(H:HOk h){m:Int}(hm:hasB m (ln h.Mons)=true){x:Mon}(hx:MOk x){h':Host}(e:h'.Mons=up h.Mons m x)(m12:h'.Memory.length=12)(pgs:∀c∈h'.Memory,zb0 c=true)(b1:zk2 h'.Buffer=true)(b2:zk2 h'.IoBuffer=true)(uq:∀q,0<=q->cPg x q<=cPg (ix h.Mons m mZ) q\/zBw h.Mons q=0/\cPg x q<=1):HOk h':=by
 refine ⟨m12,pgs,by rw[e,zoZ];exact H.n1,by rw[e,zoZ];exact H.n3,b1,b2,fun y hy=>?_,fun q hq=>?_⟩
 .rw [e]at hy;unfold E.up at hy;rcases jQ hy with h|h
  .exact H.mons y h
  .rw [h];exact hx
 .rw [e];have h1:=zSE hm x q;have h2:=H.uq q hq;have h3:=uq q hq;omega
structure KOk (k:Kept) (inner outer:List Slot):Prop where
 l1:k.Known.length=inner.length
 l2:k.Slots.length=inner.length
 at':∀i,hasB i (ln inner)=true->ix k.Slots i sZ=bif ix k.Known i false then zdQ (ix inner i sZ) outer else noSlot
def TOk (x:Mon):Prop:=∀g,hasB g (ln x.Guests)=true->KOk (ix x.Tables g kZ) (ix x.Guests g gZ).Live x.Outer
structure Rt (h:Host):Prop where
 t:∀m,hasB m (ln h.Mons)=true->TOk (ix h.Mons m mZ)
 e1:∀e∈h.Buffer,zzw h e=true
 e2:∀e∈h.IoBuffer,zzw h e=true
structure Safe (h:Host):Prop where
 ok:HOk h
 rt:Rt h
structure Chg (x x':Mon) (p:Int) (s:Slot) (c:List Int):Prop where
 o:x'.Outer=up x.Outer p s
 u:x'.Out=up x.Out p c
 g:x'.Guests=x.Guests
 t:x'.Tables.length=x.Tables.length
 d:x'.Dirty.length=x.Dirty.length
 a1:x'.Outs=x.Outs
 a2:x'.Pending=x.Pending
 a3:x'.Traps=x.Traps
 a4:x'.Own=x.Own
theorem MOk.chg {x x':Mon}(H:MOk x){p:Int}(hp:hasB p 8=true){s:Slot}{c:List Int}(k:Chg x x' p s c)(hs:SOk s)(hf:zna s c=true):MOk x':=by
 refine ⟨by rw[k.g];exact H.g1,by rw[k.g];exact H.g2,by rw[k.t,k.g];exact H.gt,by rw[k.o,zoZ];exact H.o8,fun y hy=>?_,by rw[k.u,zoZ];exact H.u8,by rw[k.d];exact H.d8,by rw[k.a1];exact H.outs,by rw[k.a2];exact H.pend,by rw[k.a3];exact H.tr,by rw[k.a4];exact H.own,by rw[k.g];exact H.gs,fun q hq=>?_⟩
 .rw [k.o]at hy;rcases jQ hy with h|h
  .exact H.sl y h
  .rw [h];exact hs
 .rw [k.o,k.u]
  by_cases e:p=q
  .subst e;rw[zGF (H.hasO hp),zGF (H.hasU hp)];exact hf
  .rw [zGG (zg5.1 hp).1 (zg5.1 hq).1 e,zGG (zg5.1 hp).1 (zg5.1 hq).1 e];exact H.fit q hq
structure Like (h r:Host):Prop where
 len:r.Mons.length=h.Mons.length
 g:∀i,hasB i (ln h.Mons)=true->(ix r.Mons i mZ).Guests=(ix h.Mons i mZ).Guests
 o:∀i,hasB i (ln h.Mons)=true->(ix r.Mons i mZ).Outs=(ix h.Mons i mZ).Outs
 p:∀i,hasB i (ln h.Mons)=true->(ix r.Mons i mZ).Pending=(ix h.Mons i mZ).Pending
 tr:∀i,hasB i (ln h.Mons)=true->(ix r.Mons i mZ).Traps=(ix h.Mons i mZ).Traps
 ow:∀i,hasB i (ln h.Mons)=true->(ix r.Mons i mZ).Own=(ix h.Mons i mZ).Own
 pg:∀i k,hasB i (ln h.Mons)=true->hasB k 8=true->zdr r i k=zdr h i k
theorem Like.refl (h:Host):Like h h:=⟨rfl,fun _ _=>rfl,fun _ _=>rfl,fun _ _=>rfl,fun _ _=>rfl,fun _ _=>rfl,fun _ _ _ _=>rfl⟩
theorem Like.trans {a b c:Host}(x:Like a b)(y:Like b c):Like a c:=by
 have k:∀i,hasB i (ln a.Mons)=true->hasB i (ln b.Mons)=true:=fun i hi=>by unfold ln at hi ⊢;rwa [x.len]
 exact ⟨y.len.trans x.len,fun i h=>(y.g i (k i h)).trans (x.g i h),fun i h=>(y.o i (k i h)).trans (x.o i h),fun i h=>(y.p i (k i h)).trans (x.p i h),fun i h=>(y.tr i (k i h)).trans (x.tr i h),fun i h=>(y.ow i (k i h)).trans (x.ow i h),fun i q h hq=>(y.pg i q (k i h) hq).trans (x.pg i q h hq)⟩
theorem Like.has {h r:Host}(k:Like h r){i:Int}:hasB i (ln r.Mons)=hasB i (ln h.Mons):=by unfold ln;rw[k.len]
theorem zwB {h r:Host}{m:Int}:∀(n i:Nat),(∀k:Nat,i<=k->k<i+n->zdr r m (k:Int)=zdr h m (k:Int))->zeV r m n i=zeV h m n i
 | 0,i,_=>rfl
 | n+1,i,h=>by
  rw[zeV,zeV,h i (by omega) (by omega),zwB n (i+1) (fun k h1 h2=>h k (by omega) (by omega))]
theorem Like.seen {h r:Host}(k:Like h r)(m:Int):zbl r m=zbl h m:=by
 unfold zbl;rw[k.has];cases hm:hasB m (ln h.Mons) with
 | false=>rfl
 | true =>
  simp only[cond_true];rw[k.g m hm,k.o m hm,k.p m hm,zwB 8 0 (fun j h1 h2=>k.pg m j hm (zg5.2 (by omega)))]
structure Op (h r:Host):Prop where
 ok:HOk r
 like:Like h r
 rt:Rt h->Rt r
theorem Op.refl {h:Host}(H:HOk h):Op h h:=⟨H,Like.refl h,id⟩
theorem Op.trans {a b c:Host}(x:Op a b)(y:Op b c):Op a c:=⟨y.ok,x.like.trans y.like,fun h=>y.rt (x.rt h)⟩
theorem Op.safe {h r:Host}(k:Op h r)(s:Safe h):Safe r:=⟨k.ok,k.rt s.rt⟩
structure But (h r:Host) (m p:Int):Prop where
 ne:∀i k,hasB i (ln h.Mons)=true->hasB k 8=true->¬ (i=m/\k=p)->ix (ix r.Mons i mZ).Outer k sZ=ix (ix h.Mons i mZ).Outer k sZ
structure Roomy (h r:Host):Prop where
 op:Op h r
 free:zbV r≠[]
 sl:∀i k,hasB i (ln h.Mons)=true->hasB k 8=true->ix (ix r.Mons i mZ).Outer k sZ=ix (ix h.Mons i mZ).Outer k sZ\/ix (ix r.Mons i mZ).Outer k sZ=noSlot
 dirt:∀i,(ix r.Mons i mZ).Dirty=(ix h.Mons i mZ).Dirty
structure Mark (x y:Mon):Prop where
 o:y.Outer=x.Outer
 u:y.Out=x.Out
 g:y.Guests=x.Guests
 t:y.Tables=x.Tables
 d:y.Dirty.length=x.Dirty.length
 a1:y.Outs=x.Outs
 a2:y.Pending=x.Pending
 a3:y.Traps=x.Traps
 a4:y.Own=x.Own
structure Mended (h r:Host) (m p n:Int):Prop where
 op:Op h r
 inn:(ix (ix r.Mons m mZ).Outer p sZ).Page≠-1
 ri:ieq (wand .i64 n 2) 0=false->(ix (ix r.Mons m mZ).Outer p sZ).Rights=3
 dt:ieq (wand .i64 n 2) 0=false->ix (ix r.Mons m mZ).Dirty p false=true
 d0:ieq (wand .i64 n 2) 0=true->(ix r.Mons m mZ).Dirty=(ix h.Mons m mZ).Dirty
 dk:∀k,hasB k 8=true->k≠p->ix (ix r.Mons m mZ).Dirty k false=ix (ix h.Mons m mZ).Dirty k false
 dm:∀i,hasB i (ln h.Mons)=true->i≠m->(ix r.Mons i mZ).Dirty=(ix h.Mons i mZ).Dirty
structure KeepP (x y:Mon):Prop where
 o:y.Outer=x.Outer
 u:y.Out=x.Out
structure GOk (x:Guest):Prop where
 prog:zeX x.Prog=true
 a:win x.A 0 99=true
 pc:win x.Pc 0 12=true
 w:zcu x.Written 4 8=true
 l:zcu x.Live 4 8=true
 ctl:zoh x.Ctl=true
 pend:zdE x.Pending=true
 ex:zlu x.Exit=true
 seen:ile (ln x.Seen) 40=true
theorem zRm {x:Guest}:zcf x=true↔GOk x:=by
 unfold zcf;simp only[qD];exact ⟨fun ⟨a,b,c,d,e,f,g,h,i⟩=>⟨a,b,c,d,e,f,g,h,i⟩,fun ⟨a,b,c,d,e,f,g,h,i⟩=>⟨a,b,c,d,e,f,g,h,i⟩⟩
theorem HOk.guest {h:Host}(H:HOk h){m g:Int}(hm:hasB m (ln h.Mons)=true)(hg:hasB g (ln (ix h.Mons m mZ).Guests)=true):GOk (ix (ix h.Mons m mZ).Guests g gZ):=zRm.1 ((H.mon hm).gs _ (zLf hg _))
structure Walked (l:List Slot) (p n q:Int):Prop where
 hp:hasB p (ln l)=true
 pg:(ix l p sZ).Page=q
 q8:hasB q 8=true
 en:enough (ix l p sZ).Rights n=true
structure Looked (h r:Host) (m g page need q host:Int):Prop where
 op:Op h r
 inn:(ix (ix r.Mons m mZ).Outer q sZ).Page=host
 ne:host≠-1
 en:enough (zdQ (ix (ix (ix h.Mons m mZ).Guests g gZ).Live page sZ) (ix r.Mons m mZ).Outer).Rights need=true
 cp:(zdQ (ix (ix (ix h.Mons m mZ).Guests g gZ).Live page sZ) (ix r.Mons m mZ).Outer).Page=host
 dk:∀k,hasB k 8=true->k≠q->ix (ix r.Mons m mZ).Dirty k false=ix (ix h.Mons m mZ).Dirty k false
 dq:need=2->ix (ix r.Mons m mZ).Dirty q false=true
 d1:need=1->(ix r.Mons m mZ).Dirty=(ix h.Mons m mZ).Dirty
 dm:∀i,hasB i (ln h.Mons)=true->i≠m->(ix r.Mons i mZ).Dirty=(ix h.Mons i mZ).Dirty
structure GKeep (x y:Guest):Prop where
 ok:GOk y
 live:y.Live=x.Live
structure SimT (h r:Host) (m:Int) (f:Bare->Bare):Prop where
 safe:Safe r
 seen:∀i,zbl r i=bif ieq i m then f (zbl h i) else zbl h i
 len:r.Mons.length=h.Mons.length
theorem SimT.trans {a b c:Host}{m:Int}{f g:Bare->Bare}(x:SimT a b m f)(y:SimT b c m g):SimT a c m (fun t=>g (f t)):=by
 refine ⟨y.safe,fun i=>?_,y.len.trans x.len⟩;rw[y.seen i,x.seen i];cases ieq i m<;>rfl
theorem SimT.congr {h r:Host}{m:Int}{f g:Bare->Bare}(x:SimT h r m f)(e:f (zbl h m)=g (zbl h m)):SimT h r m g:=by
 refine ⟨x.safe,fun i=>?_,x.len⟩;rw[x.seen i]
 by_cases hi:i=m
 .subst hi;rw[zOP.2 rfl,cond_true,cond_true,e]
 .rw [zSk.2 hi];rfl
theorem SimT.has {h r:Host}{m:Int}{f:Bare->Bare}(x:SimT h r m f)(i:Int):hasB i (ln r.Mons)=hasB i (ln h.Mons):=by unfold ln;rw[x.len]
theorem SimT.refl {h:Host}(S:Safe h)(m:Int):SimT h h m id:=⟨S,fun i=>by cases ieq i m<;>rfl,rfl⟩
structure BackOk (b c:Bare):Prop where
 m:c.Memory=b.Memory
 o:c.Outs=b.Outs
 n:c.Guests.length=b.Guests.length
 g:∀j,hasB j (ln b.Guests)=true->GKeep (ix b.Guests j gZ) (ix c.Guests j gZ)
 p:zdE b.Pending=true->zdE c.Pending=true
def zQV (h:Host):List Bare:=(List.range h.Mons.length).map fun (i:Nat)=>zbl h (i:Int)
structure Live (u:Host×List Told) (v:List Bare×List Told):Prop where
 safe:Safe u.1
 seen:zQV u.1=v.1
def zQq:zK:=[(71,zpm),(72,znV)]++ziX
theorem zOC:zx zQq:=zh zsc (zh zpU zdG)
def zQr:zK:=zQq
theorem zOD:zx zQr:=zOC
def zQs:zK:=zQr
theorem zOE:zx zQs:=zOD
def zQt:zK:=zQs
theorem zOF:zx zQt:=zOE
def zSO:zK:=zQt
theorem zOG:zx zSO:=zOF
@[simp] abbrev zrH (h:Host)(m:Int):Bool:=pc (zcQ h)
@[simp] abbrev zn0 (h:Host)(m:Int):Bare:=zbl h m
def zuA:Run:=rF2 dH dI fun b c=>(zrH b c,[aT .bare (zn0 b c)])
def zzd (N:Nat)(a0:Host)(a1:Int):OA:=
 (oN (zuJ a0 a1) (cond (nB (zlG a0 a1)) (some [(aT .bare (⟨[],[],[],0⟩:Bare))]) (iter (σ:=(Int×(Int×(Int×(Int×(lM×(lN×(lE×(lE×(lM×(lG×((List Int)×(lM×(lG×((List Int)×Unit))))))))))))))) N (fun r3 s4=>let y3:=s4.2.2.2.2.2.2.2.2.2.2.2.2.1;let y2:=s4.2.2.2.2.2.2.2.2.2.2.2.2.2.1;let y0:=(⟨s4.2.2.2.2.1,s4.2.2.2.2.2.1,s4.2.2.2.2.2.2.1,s4.2.2.2.2.2.2.2.1⟩:Host);let y1:=(ap s4.2.2.2.2.2.2.2.2.2.2.2.1 [(zrE y0 s4.1 s4.2.1)]); (cond (ilt s4.2.1 8) (oN (zrF y0 s4.1 s4.2.1) (oN (few (ln y1)) (r3 (s4.1,((zB .i64 s4.2.1 1),(s4.2.2.1,(s4.2.2.2.1,(s4.2.2.2.2.1,(s4.2.2.2.2.2.1,(s4.2.2.2.2.2.2.1,(s4.2.2.2.2.2.2.2.1,(s4.2.2.2.2.2.2.2.2.1,(s4.2.2.2.2.2.2.2.2.2.1,(s4.2.2.2.2.2.2.2.2.2.2.1,(y1,(y3,(y2,()))))))))))))))))) (some [(aT .bare (⟨s4.2.2.2.2.2.2.2.2.2.2.2.1,y3,y2,s4.2.2.2.1⟩:Bare))]))) (a1,(0,(0,((zdg a0 a1).Pending,(a0.Memory,(a0.Mons,(a0.Buffer,(a0.IoBuffer,([],([],([],([],((zdg a0 a1).Guests,((zdg a0 a1).Outs,())))))))))))))))))
def zIE:FuncId->Nat->Option Tmpl:=zo [(31,0,{ n:=39,tm:=[(1,ti),(2,.lp 0 0),(4,.lp 1 0),(7,.lp 2 0),(8,ti)],lo:=[(0,[.sl 0 [],.sl 1 [],.sl 2 [],.sl 3 []]),(1,[.sl 4 [],.sl 5 [],.sl 6 [],ti]),(2,[.sl 7 [],.sl 8 [],.sl 9 [],ti])],ro:=[(0,(.sl .int),false),(1,.mon,false),(2,.entry,false),(3,.entry,false),(4,(.sl .int),true),(5,.guest,true),(6,.int,true),(7,(.sl .int),true),(8,.guest,true),(9,.int,true)] })]
theorem zHp (a0:Host)(a1:Int)(hc:zrH a0 a1=true):∃N,zzd N a0 a1=some [aT .bare (zn0 a0 a1)]:=by
 have hs:=zC.1 hc;refine zbN fun N hNN=>?_;unfold zzd zn0 zbl oN nB
 conv=>zeta
 refine must (zbh hs) ?_;rw[show zlG a0 a1=hasB a1 (ln a0.Mons) from rfl]
 cases hh:hasB a1 (ln a0.Mons)
 .rfl
 .refine ze0 rfl ?_;refine (znI 8 (fun i (t:lM)=>(a1,(i:Int),0,(zdg a0 a1).Pending,a0.Memory,a0.Mons,a0.Buffer,a0.IoBuffer,[],[],[],t,(zdg a0 a1).Guests,(zdg a0 a1).Outs,())) _ (fun i (acc:List (List Int)) κ=>bif few (ln (ap acc [zdr a0 a1 (i:Int)])) then κ (ap acc [zdr a0 a1 (i:Int)]) else none) (fun (t:lM)=>(some [(.agg (Ty.cells .bare (⟨t,(zdg a0 a1).Guests,(zdg a0 a1).Outs,(zdg a0 a1).Pending⟩:Bare)))])) (fun i hi t rec=>?_) (fun t rec=>?_) _ ([]) (hNN (by decide))).trans ?_
  .simp only [show ilt (i:Int) 8=true from qN (by omega),zQ hi (show 8<=big by decide),cT]
   exact must (zbh hs) rfl
  .simp only [show ilt (((8:Nat)):Int) 8=false from qK (by omega),cF]
  rw[ztq a0 a1 _ 8 0 [] (by decide)]
  simp only[zdg,hh,cT,jN]
theorem zCp:uV 31 zuA:=kF2 zOG zbd zl zn zIE zHp
def zMl:zK:=[(31,zuA),(70,zmc)]++ziX
theorem zDQ:zx zMl:=zh zCp (zh zot zdG)
@[simp] abbrev zpg (b:Bare)(_:Int):Bool:=pc (SmB b)
@[simp] abbrev ztJ (b:Bare)(i:Int):Guest:=gAt b i
def zss:Run:=rF2 (dT .bare) dI fun b c=>(zpg b c,[aT .guest (ztJ b c)])
def zwb (N:Nat)(a0:Bare)(a1:Int):OA:=
 (oN (zpp a0 a1) (some [(aT .guest (ziC a0 a1))]))
theorem zEY (a0:Bare)(a1:Int)(hc:zpg a0 a1=true):∃N,zwb N a0 a1=some [aT .guest (ztJ a0 a1)]:=by
 have hs:=zC.1 hc;refine ⟨0,?_⟩;unfold zwb oN;exact must (zbF hs) rfl
theorem zzZ:uV 80 zss:=kF2 zDQ zbd zl zn (zo []) zEY
def zR7:zK:=[(80,zss)]++zMl
theorem zMm:zx zR7:=zh zzZ zDQ
@[simp] abbrev zlb (h:Host)(m _:Int):Bool:=pc (zcQ h/\SmB (zbl h m))
@[simp] abbrev zlC (h:Host)(m g:Int):Guest:=gAt (zbl h m) g
def zsr:Run:=rF3 dH dI dI fun b c d=>(zlb b c d,[aT .guest (zlC b c d)])
def zwa (N:Nat)(a0:Host)(a1 a2:Int):OA:=
 (oN (zrH a0 a1) (oN (zpg (zn0 a0 a1) a2) (some [(aT .guest (ztJ (zn0 a0 a1) a2))])))
theorem zEX (a0:Host)(a1 a2:Int)(hb:zbu big [aH a0,aI a1,aI a2])(hc:zlb a0 a1 a2=true):∃N,zwa N a0 a1 a2=some [aT .guest (zlC a0 a1 a2)]:=by
 obtain ⟨hs,hb⟩:=zC.1 hc;refine ⟨0,?_⟩;unfold zwa oN;exact must (zbF hs) (must (zbF hb) rfl)
theorem zzY:uV 36 zsr:=hF3 zMm zbd zl zn (zo []) zEX
def Ends {ρ:Type}(G:ρ->Prop)(o:Option ρ):Prop:=∃a,o=some a/\G a
section
variable {ρ:Type} {G:ρ->Prop}
theorem zcz {c:Bool}{a b:Option ρ}(h:c=true)(k:Ends G a):Ends G (cond c a b):=by rw[h];exact k
theorem zpa {c:Bool}{a b:Option ρ}(h1:c=true->Ends G a)(h2:c=false->Ends G b):Ends G (cond c a b):=by
 cases c
 .exact h2 rfl
 .exact h1 rfl
theorem zMX {a:ρ}(h:G a):Ends G (some a):=⟨a,rfl,h⟩
theorem ztk {σ:Type}{F:(σ->Option ρ)->σ->Option ρ}(I:Nat->σ->Prop)(h:∀n s rec,I n s->(∀k s',k<n->I k s'->Ends G (rec s'))->Ends G (F rec s)):∀(N n:Nat) (s:σ),I n s->n<N->Ends G (iter N F s)
 | 0,n,s,_,hn=>absurd hn (Nat.not_lt_zero n)
 | N+1,n,s,hI,hn=>h n s (iter N F) hI fun k s' hk hs=>ztk I h N k s' hs (by omega)
theorem zRj {G:Ans->Prop}{o:OA}{r:Ans}(h:Ends (fun a=>a=r) o):o=some r:=by
 obtain ⟨a,h1,h2⟩:=h;rw[h1,h2]
end
instance:Inhabited Cur:=⟨⟨[],0,0⟩⟩
instance:Inhabited Ins:=⟨⟨0,0⟩⟩
instance:Inhabited GAct:=⟨⟨0,0,0,0,0,0⟩⟩
instance:Inhabited Ctl:=⟨⟨0,0,false⟩⟩
instance:Inhabited Host:=⟨⟨[],[],[],[]⟩⟩
def zyz (c:Cur):Prop:=0<=c.i/\c.b.length<=big
theorem zzv {T:Type}(av:T->AV){good:T->Prop}{b:List Int}{x y:Int}{v:T}(h:0<=x)(g:good v):Ends (fun a=>∃s v0,a=(AV.agg (zbt s) :: [av v0])/\(s.b=b/\0<=s.i)/\good v0) (some (AV.agg [.s .u8 b,.i .i64 x,.i .i64 y] :: [av v])) :=
 ⟨_,rfl,⟨b,x,y⟩,v,rfl,⟨rfl,h⟩,g⟩
def zih (N:Nat)(c:Cur)  : OA :=
 let y0:=(zB .i64 (zkl .i64 c.h 6364136223846793005) 1442695040888963407);let y1:=(wand .i64 (zPt .i64 (zie .i64 y0 33) (zie .i64 y0 45)) 255); (oN (ile 0 33) (oN (ile 0 45) (cond (ilt c.i (ln c.b)) (oN (inb c.i (ln c.b)) (some [(.agg [(.s .u8 c.b),(.i .i64 (zB .i64 c.i 1)),(.i .i64 y0)]),(aI (wand .i64 (zB .i64 y1 (wcv .i64 (ix c.b c.i 0))) 255))])) (some [(.agg [(.s .u8 c.b),(.i .i64 c.i),(.i .i64 y0)]),(aI y1)]))))
theorem zHH (N:Nat)(c:Cur)  : zeb (cQ ziX zib zyh zgM) (zo []) N 12 107 [false,true,true] (zbt c) []=zih N c:=by kernel_rfl
def zhm (c:Cur)(s:Cur)(v0:Int):Prop:=(∃N,zih N c=some (AV.agg (zbt s) :: [aI v0]))/\(s.b=c.b/\0<=s.i)/\(0<=v0/\v0<=255)
def zce (c:Cur)  : Bool:=pc (∃s v0,zhm c s v0)
def zlj (c:Cur)  : Cur×Int:=Classical.epsilon fun r=>zhm c r.1 r.2
def zbC (c:Cur)  : Cur:=bif zce c then (zlj c).1 else ⟨[],0,0⟩
def zdA (c:Cur)  : Int:=(zlj c).2
theorem zgH {c:Cur}(h:zce c=true):zhm c (zbC c) (zdA c):=by
 obtain ⟨s,v0,h2⟩:=zC.1 h;have h3:zhm c (zlj c).1 (zlj c).2:=Classical.epsilon_spec (p:=fun r=>zhm c r.1 r.2) ⟨(s,v0),h2⟩;unfold zbC;rw[h,cT];exact h3
theorem ziE (c:Cur)  : 0<=(zbC c).i:=by
 unfold zbC;cases h:zce c with
 | false=>exact Int.le_refl 0
 | true =>
  have:=(zgH h).2.1.2;unfold zbC at this
  rwa [h] at this
theorem zJG (c:Cur)(h:∃N,Ends (fun a=>∃s v0,a=(AV.agg (zbt s) :: [aI v0])/\(s.b=c.b/\0<=s.i)/\(0<=v0/\v0<=255)) (zih N c)):zce c=true:=by
 obtain ⟨N,a,e,s,v0,rfl,h⟩:=h;exact zbF ⟨s,v0,⟨N,e⟩,h⟩
def zkH:List CV->List AV->Option (Bool×List CV×List AV)
 | [.s .u8 b,.i .i64 c,.i .i64 d],[]=>some ((zce (⟨b,c,d⟩:Cur)),zbt (zbC (⟨b,c,d⟩:Cur)),[aI (zdA (⟨b,c,d⟩:Cur))])
 | _,_=>none
theorem zE5 (c:Cur)(hb:zbu big (.agg (zbt c) :: []))(hc:zce c=true):∃N,zih N c=some (.agg (zbt (zbC c)) :: [aI (zdA c)]):=by
 exact (zgH hc).1
theorem zz3:zcx Tryz.prog 107 [false,true,true] zkH:=by
 refine zbv (zb3 zdG zbd zl zn) (zcX (by kernel_rfl)) ?_
 intro cs avs cs' rs hl hr h;have hb:=zbD hr;unfold zkH at h;split at h
 .obtain ⟨hc,rfl,rfl⟩:=zbR h;obtain ⟨N,hN⟩:=zE5 _ (by exact hb) hc
  exact ⟨rfl,_,N,12,(zHH N _ ).trans hN⟩
 .cases h
theorem zEn {x m:Int}(h0:0<=m)(h1:m<9223372036854775808):0<=wand .i64 x m/\wand .i64 x m<=m:=by
 have hm:(BitVec.ofInt 64 m).toNat=m.toNat:=by
  rw[BitVec.toNat_ofInt];omega
 have hle:(BitVec.ofInt 64 x &&& BitVec.ofInt 64 m).toNat<=m.toNat:=by
  rw[BitVec.toNat_and,hm];exact Nat.and_le_right
 unfold wand
 show 0<=IntKind.wrap .i64 ((BitVec.ofInt 64 x &&& BitVec.ofInt 64 m).toNat:Int)/\IntKind.wrap .i64 ((BitVec.ofInt 64 x &&& BitVec.ofInt 64 m).toNat:Int)<=m
 rw[zng (by omega) (by omega)]
 omega
@[simp] theorem zzq {c:Cur}(h:zyz c):zce c=true:=by
 refine zJG c ⟨0,?_⟩;unfold zih oN
 conv=>zeta
 refine zcz rfl (zcz rfl (zpa (fun h0=>zcz (qN ⟨h.1,qJ h0⟩) (zzv aI ?_ (zEn (by omega) (by omega)))) (fun _=>zzv aI h.1 (zEn (by omega) (by omega)))))
 have h1:c.i<ln c.b:=qJ h0;have h2:=h.2;have h3:=h.1;rw[zm1]at h2;unfold ln at h1;rw[zgK (by omega) (by omega)]
 omega
def zLB:zco:=[(107,([false,true,true],zkH))]++zyh
theorem zHR:zbJ zLB:=zcT zl (by
 intro x hx;simp only[qG,qU,or_false]at hx;rcases hx with rfl
 .exact zz3)
theorem zxq {b:List Int}{i h:Int}(h0:0<=i)(hb:b.length<=big):zyz ⟨b,i,h⟩:=⟨h0,hb⟩
theorem zDw {x n:Int}(h0:0<=x)(hn:0<n):0<=zkm x n/\zkm x n<n:=by
 unfold zkm;exact ⟨Int.tmod_nonneg _ h0,Int.tmod_lt_of_pos _ hn⟩
def zgS (N:Nat)(c:Cur)(a0:Int):OA:=
 let y2:=({ (zbC c) with b:=c.b }:Cur);let y0:=({ (zbC y2) with b:=c.b }:Cur);let y1:=({ (zbC y0) with b:=c.b }:Cur); (cond (ile a0 0) (some [(.agg [(.s .u8 c.b),(.i .i64 c.i),(.i .i64 c.h)]),(aI 0)]) (cond (ile a0 256) (oN (zce c) (oN (ine a0 0) (some [(.agg [(.s .u8 c.b),(.i .i64 (zbC c).i),(.i .i64 (zbC c).h)]),(aI (zkm (zdA c) a0))]))) (oN (zce c) (oN (zce y2) (oN (zce y0) (oN (zce y1) (oN (ine a0 0) (some [(.agg [(.s .u8 c.b),(.i .i64 (zbC y1).i),(.i .i64 (zbC y1).h)]),(aI (zkm (zB .i64 (zB .i64 (zB .i64 (zkl .i64 (zdA c) 16777216) (zkl .i64 (zdA y2) 65536)) (zkl .i64 (zdA y0) 256)) (zdA y1)) a0))]))))))))
theorem zFg (N:Nat)(c:Cur)(a0:Int):zeb (cQ ziX zib zLB zgM) (zo []) N 12 44 [false,true,true] (zbt c) [aI a0]=zgS N c a0:=by kernel_rfl
def zgw (c:Cur)(a0:Int)(s:Cur)(v0:Int):Prop:=(∃N,zgS N c a0=some (AV.agg (zbt s) :: [aI v0]))/\(s.b=c.b/\0<=s.i)/\((0<a0->0<=v0/\v0<a0))
def zL (c:Cur)(a0:Int):Bool:=pc (∃s v0,zgw c a0 s v0)
def zkc (c:Cur)(a0:Int):Cur×Int:=Classical.epsilon fun r=>zgw c a0 r.1 r.2
def zu (c:Cur)(a0:Int):Cur:=bif zL c a0 then (zkc c a0).1 else ⟨[],0,0⟩
def zV (c:Cur)(a0:Int):Int:=(zkc c a0).2
theorem zn2 {c:Cur}{a0:Int}(h:zL c a0=true):zgw c a0 (zu c a0) (zV c a0):=by
 obtain ⟨s,v0,h2⟩:=zC.1 h;have h3:zgw c a0 (zkc c a0).1 (zkc c a0).2:=Classical.epsilon_spec (p:=fun r=>zgw c a0 r.1 r.2) ⟨(s,v0),h2⟩;unfold zu;rw[h,cT];exact h3
theorem zH7 (c:Cur)(a0:Int):0<=(zu c a0).i:=by
 unfold zu;cases h:zL c a0 with
 | false=>exact Int.le_refl 0
 | true =>
  have:=(zn2 h).2.1.2;unfold zu at this
  rwa [h] at this
theorem zH6 (c:Cur)(a0:Int)(h:∃N,Ends (fun a=>∃s v0,a=(AV.agg (zbt s) :: [aI v0])/\(s.b=c.b/\0<=s.i)/\((0<a0->0<=v0/\v0<a0))) (zgS N c a0)):zL c a0=true:=by
 obtain ⟨N,a,e,s,v0,rfl,h⟩:=h;exact zbF ⟨s,v0,⟨N,e⟩,h⟩
def zjZ:List CV->List AV->Option (Bool×List CV×List AV)
 | [.s .u8 b,.i .i64 c,.i .i64 d],[.one (.i .i64 e)]=>some ((zL (⟨b,c,d⟩:Cur) e),zbt (zu (⟨b,c,d⟩:Cur) e),[aI (zV (⟨b,c,d⟩:Cur) e)])
 | _,_=>none
theorem zC3 (c:Cur)(a0:Int)(hb:zbu big (.agg (zbt c) :: [aI a0]))(hc:zL c a0=true):∃N,zgS N c a0=some (.agg (zbt (zu c a0)) :: [aI (zV c a0)]):=by
 exact (zn2 hc).1
theorem zxS:zcx Tryz.prog 44 [false,true,true] zjZ:=by
 refine zbv (zb3 zdG zbd zHR zn) (zcX (by kernel_rfl)) ?_
 intro cs avs cs' rs hl hr h;have hb:=zbD hr;unfold zjZ at h;split at h
 .obtain ⟨hc,rfl,rfl⟩:=zbR h;obtain ⟨N,hN⟩:=zC3 _ _ (by exact hb) hc
  exact ⟨rfl,_,N,12,(zFg N _ _ ).trans hN⟩
 .cases h
theorem zJ1 {c:Cur}(h:zyz c)(n:Int):zL c n=true:=by
 refine zH6 c n ⟨0,?_⟩;have k1:=zzq h;have k2:zce { zbC c with b:=c.b }=true:=zzq (zxq (ziE _) h.2);have k3:zce { zbC { zbC c with b:=c.b } with b:=c.b }=true:=zzq (zxq (ziE _) h.2);have k4:zce { zbC { zbC { zbC c with b:=c.b } with b:=c.b } with b:=c.b }=true:=zzq (zxq (ziE _) h.2);have b1:=(zgH k1).2.2;have b2:=(zgH k2).2.2;have b3:=(zgH k3).2.2;have b4:=(zgH k4).2.2;unfold zgS oN
 conv=>zeta
 refine zpa (fun h0=>zzv aI h.1 (fun hn=>absurd (qJ h0) (by omega))) (fun h0=>?_)
 have hn:¬ n<=0:=jZ h0;have hz:ine n 0=true:=by simp[ine];omega
 refine zpa (fun h1=>zcz k1 (zcz hz (zzv aI (ziE _) (fun hp=>zDw b1.1 hp)))) (fun h1=>?_);refine zcz k1 (zcz k2 (zcz k3 (zcz k4 (zcz hz (zzv aI (ziE _) (fun hp=>zDw ?_ hp))))));generalize zdA c=x1 at b1;generalize zdA _=x2 at b2;generalize zdA _=x3 at b3;generalize zdA _=x4 at b4;have w1:zkl .i64 x1 16777216=x1*16777216:=zng (by omega) (by omega)
 have w2:zkl .i64 x2 65536=x2*65536:=zng (by omega) (by omega)
 have w3:zkl .i64 x3 256=x3*256:=zng (by omega) (by omega)
 rw[w1,w2,w3,zgK (x:=x1*16777216) (by omega) (by omega),zgK (x:=x1*16777216+x2*65536) (by omega) (by omega),zgK (by omega) (by omega)]
 omega
def zFA:zco:=[(44,([false,true,true],zjZ))]++zLB
theorem zyi:zbJ zFA:=zcT zHR (by
 intro x hx;simp only[qG,qU,or_false]at hx;rcases hx with rfl
 .exact zxS)
def zo0 (N:Nat)(c:Cur)(a0:Int):OA:=
 (oN (zL c a0) (some [(.agg [(.s .u8 c.b),(.i .i64 (zu c a0).i),(.i .i64 (zu c a0).h)]),(aB (ieq (zV c a0) 0))]))
theorem zHI (N:Nat)(c:Cur)(a0:Int):zeb (cQ ziX zib zFA zgM) (zo []) N 12 47 [false,true,true] (zbt c) [aI a0]=zo0 N c a0:=by kernel_rfl
def zho (c:Cur)(a0:Int)(s:Cur)(v0:Bool):Prop:=(∃N,zo0 N c a0=some (AV.agg (zbt s) :: [aB v0]))/\(s.b=c.b/\0<=s.i)/\(True)
def zeB (c:Cur)(a0:Int):Bool:=pc (∃s v0,zho c a0 s v0)
def zlk (c:Cur)(a0:Int):Cur×Bool:=Classical.epsilon fun r=>zho c a0 r.1 r.2
def zb5 (c:Cur)(a0:Int):Cur:=bif zeB c a0 then (zlk c a0).1 else ⟨[],0,0⟩
def zhn (c:Cur)(a0:Int):Bool:=(zlk c a0).2
theorem zJH {c:Cur}{a0:Int}(h:zeB c a0=true):zho c a0 (zb5 c a0) (zhn c a0):=by
 obtain ⟨s,v0,h2⟩:=zC.1 h;have h3:zho c a0 (zlk c a0).1 (zlk c a0).2:=Classical.epsilon_spec (p:=fun r=>zho c a0 r.1 r.2) ⟨(s,v0),h2⟩;unfold zb5;rw[h,cT];exact h3
def zkI:List CV->List AV->Option (Bool×List CV×List AV)
 | [.s .u8 b,.i .i64 c,.i .i64 d],[.one (.i .i64 e)]=>some ((zeB (⟨b,c,d⟩:Cur) e),zbt (zb5 (⟨b,c,d⟩:Cur) e),[aB (zhn (⟨b,c,d⟩:Cur) e)])
 | _,_=>none
theorem zE6 (c:Cur)(a0:Int)(hb:zbu big (.agg (zbt c) :: [aI a0]))(hc:zeB c a0=true):∃N,zo0 N c a0=some (.agg (zbt (zb5 c a0)) :: [aB (zhn c a0)]):=by
 exact (zJH hc).1
theorem zz4:zcx Tryz.prog 47 [false,true,true] zkI:=by
 refine zbv (zb3 zdG zbd zyi zn) (zcX (by kernel_rfl)) ?_
 intro cs avs cs' rs hl hr h;have hb:=zbD hr;unfold zkI at h;split at h
 .obtain ⟨hc,rfl,rfl⟩:=zbR h;obtain ⟨N,hN⟩:=zE6 _ _ (by exact hb) hc
  exact ⟨rfl,_,N,12,(zHI N _ _ ).trans hN⟩
 .cases h
def zkp (N:Nat)(c:Cur)(a0:List Int):OA:=
 (oN (zL c (ln a0)) (oN (inb (zV c (ln a0)) (ln a0)) (some [(.agg [(.s .u8 c.b),(.i .i64 (zu c (ln a0)).i),(.i .i64 (zu c (ln a0)).h)]),(aI (ix a0 (zV c (ln a0)) 0))])))
theorem zAH (N:Nat)(c:Cur)(a0:List Int):zeb (cQ ziX zib zFA zgM) (zo []) N 12 110 [false,true,true] (zbt c) [aS .int a0]=zkp N c a0:=by kernel_rfl
def zfq (c:Cur)(a0:List Int)(s:Cur)(v0:Int):Prop:=(∃N,zkp N c a0=some (AV.agg (zbt s) :: [aI v0]))/\(s.b=c.b/\0<=s.i)/\((0<a0.length->v0∈a0))
def zct (c:Cur)(a0:List Int):Bool:=pc (∃s v0,zfq c a0 s v0)
def zh3 (c:Cur)(a0:List Int):Cur×Int:=Classical.epsilon fun r=>zfq c a0 r.1 r.2
def zbY (c:Cur)(a0:List Int):Cur:=bif zct c a0 then (zh3 c a0).1 else ⟨[],0,0⟩
def zc7 (c:Cur)(a0:List Int):Int:=(zh3 c a0).2
theorem zDj {c:Cur}{a0:List Int}(h:zct c a0=true):zfq c a0 (zbY c a0) (zc7 c a0):=by
 obtain ⟨s,v0,h2⟩:=zC.1 h;have h3:zfq c a0 (zh3 c a0).1 (zh3 c a0).2:=Classical.epsilon_spec (p:=fun r=>zfq c a0 r.1 r.2) ⟨(s,v0),h2⟩;unfold zbY;rw[h,cT];exact h3
def zid:List CV->List AV->Option (Bool×List CV×List AV)
 | [.s .u8 b,.i .i64 c,.i .i64 d],[.one (.s .int e)]=>some ((zct (⟨b,c,d⟩:Cur) e),zbt (zbY (⟨b,c,d⟩:Cur) e),[aI (zc7 (⟨b,c,d⟩:Cur) e)])
 | _,_=>none
theorem zyd (c:Cur)(a0:List Int)(hb:zbu big (.agg (zbt c) :: [aS .int a0]))(hc:zct c a0=true):∃N,zkp N c a0=some (.agg (zbt (zbY c a0)) :: [aI (zc7 c a0)]):=by
 exact (zDj hc).1
theorem ztz:zcx Tryz.prog 110 [false,true,true] zid:=by
 refine zbv (zb3 zdG zbd zyi zn) (zcX (by kernel_rfl)) ?_
 intro cs avs cs' rs hl hr h;have hb:=zbD hr;unfold zid at h;split at h
 .obtain ⟨hc,rfl,rfl⟩:=zbR h;obtain ⟨N,hN⟩:=zyd _ _ (by exact hb) hc
  exact ⟨rfl,_,N,12,(zAH N _ _ ).trans hN⟩
 .cases h
def zLC:zco:=[(47,([false,true,true],zkI)),(110,([false,true,true],zid))]++zFA
theorem zHS:zbJ zLC:=zcT zyi (by
 intro x hx;simp only[qG,qU,or_false]at hx;rcases hx with rfl|rfl
 .exact zz4
 .exact ztz)
theorem zN3 {c:Cur}(h:zyz c){n:Int}(hn:0<n):0<=zV c n/\zV c n<n:=(zn2 (zJ1 h n)).2.2 hn
def zqF (N:Nat)(c:Cur)  : OA :=
 let y1:=(zc7 c [1,2,3,3,3,4,4,4,5,6,8]);let y0:=({ (zbY c [1,2,3,3,3,4,4,4,5,6,8]) with b:=c.b }:Cur); (share (oN (zL y0 16) (some [(.agg [(.s .u8 c.b),(.i .i64 (zu y0 16).i),(.i .i64 (zu y0 16).h)]),(.agg [(.i .i64 y1),(.i .i64 (zV y0 16))])])) (fun t1=>(share (cond (ieq y1 8) (oN (zL y0 4) (some [(.agg [(.s .u8 c.b),(.i .i64 (zu y0 4).i),(.i .i64 (zu y0 4).h)]),(.agg [(.i .i64 y1),(.i .i64 (zV y0 4))])])) (oN (zL y0 100) (some [(.agg [(.s .u8 c.b),(.i .i64 (zu y0 100).i),(.i .i64 (zu y0 100).h)]),(.agg [(.i .i64 y1),(.i .i64 (zV y0 100))])]))) (fun t0=>(oN (zct c [1,2,3,3,3,4,4,4,5,6,8]) (cond (ieq y1 3) (cond (ieq y1 3) t1 t0) (cond (ieq y1 4) t1 t0)))))))
theorem zJu (N:Nat)(c:Cur)  : zeb (cQ ziX zib zLC zgM) (zo []) N 12 351 [false,true,true] (zbt c) []=zqF N c:=by kernel_rfl
def ziF (c:Cur)(s:Cur)(v0:Ins):Prop:=(∃N,zqF N c=some (AV.agg (zbt s) :: [aT .ins v0]))/\(s.b=c.b/\0<=s.i)/\(ziO v0=true)
def zke (c:Cur)  : Bool:=pc (∃s v0,ziF c s v0)
def zmP (c:Cur)  : Cur×Ins:=Classical.epsilon fun r=>ziF c r.1 r.2
def zh4 (c:Cur)  : Cur:=bif zke c then (zmP c).1 else ⟨[],0,0⟩
def zn3 (c:Cur)  : Ins:=(zmP c).2
theorem zLN {c:Cur}(h:zke c=true):ziF c (zh4 c) (zn3 c):=by
 obtain ⟨s,v0,h2⟩:=zC.1 h;have h3:ziF c (zmP c).1 (zmP c).2:=Classical.epsilon_spec (p:=fun r=>ziF c r.1 r.2) ⟨(s,v0),h2⟩;unfold zh4;rw[h,cT];exact h3
def zl5:List CV->List AV->Option (Bool×List CV×List AV)
 | [.s .u8 b,.i .i64 c,.i .i64 d],[]=>some ((zke (⟨b,c,d⟩:Cur)),zbt (zh4 (⟨b,c,d⟩:Cur)),[aT .ins (zn3 (⟨b,c,d⟩:Cur))])
 | _,_=>none
theorem zHu (c:Cur)(hb:zbu big (.agg (zbt c) :: []))(hc:zke c=true):∃N,zqF N c=some (.agg (zbt (zh4 c)) :: [aT .ins (zn3 c)]):=by
 exact (zLN hc).1
theorem zCu:zcx Tryz.prog 351 [false,true,true] zl5:=by
 refine zbv (zb3 zdG zbd zHS zn) (zcX (by kernel_rfl)) ?_
 intro cs avs cs' rs hl hr h;have hb:=zbD hr;unfold zl5 at h;split at h
 .obtain ⟨hc,rfl,rfl⟩:=zbR h;obtain ⟨N,hN⟩:=zHu _ (by exact hb) hc
  exact ⟨rfl,_,N,12,(zJu N _ ).trans hN⟩
 .cases h
def zLD:zco:=[(351,([false,true,true],zl5))]++zLC
theorem zHT:zbJ zLD:=zcT zHS (by
 intro x hx;simp only[qG,qU,or_false]at hx;rcases hx with rfl
 .exact zCu)
theorem zMY {α:Type}{l:List α}(h:ln l<=1000000):few (ln l)=true:=qN ⟨by unfold ln;omega,by omega⟩
theorem zQG {α:Type}(l:List α)(x:α):ln (ap l [x])=ln l+1:=by simp[ln,ap]
def zo1 (N:Nat)(c:Cur)  : OA :=
 (iter (σ:=(Int×(Int×(Int×(lI×((List Int)×Unit)))))) N (fun r2 s3=>let y3:=s3.2.2.2.1;let y2:=s3.2.2.2.2.1;let y1:=(⟨y2,s3.2.1,s3.2.2.1⟩:Cur);let y0:=({ (zu y1 7) with b:=y2 }:Cur); (oN (zL y1 7) (cond (ilt s3.1 (zB .i64 2 (zV y1 7))) (oN (zke y0) (oN (few (ln (ap y3 [(zn3 y0)]))) (r2 ((zB .i64 s3.1 1),((zh4 y0).i,((zh4 y0).h,((ap y3 [(zn3 y0)]),(y2,())))))))) (oN (zeB y0 3) (cond (zhn y0 3) (oN (few (ln (ap y3 [(⟨7,0⟩:Ins)]))) (some [(.agg [(.s .u8 y2),(.i .i64 (zb5 y0 3).i),(.i .i64 (zb5 y0 3).h)]),(aS .ins (ap y3 [(⟨7,0⟩:Ins)]))])) (oN (few (ln (ap y3 [(⟨8,0⟩:Ins)]))) (some [(.agg [(.s .u8 y2),(.i .i64 (zb5 y0 3).i),(.i .i64 (zb5 y0 3).h)]),(aS .ins (ap y3 [(⟨8,0⟩:Ins)]))]))))))) (0,(c.i,(c.h,([],(c.b,()))))))
def zFq:FuncId->Nat->Option Tmpl:=zo [(300,0,{ n:=29,tm:=[(0,.lp 0 0),(3,.sl 0 []),(4,ti)],lo:=[(0,[.sl 1 [],ti,ti])],ro:=[(0,.ins,true),(1,.u8,false)] })]
theorem zHJ (N:Nat)(c:Cur)  : zeb (cQ ziX zib zLD zgM) zFq N 12 300 [false,true,true] (zbt c) []=zo1 N c:=by kernel_rfl
def zhp (c:Cur)(s:Cur)(v0:List Ins):Prop:=(∃N,zo1 N c=some (AV.agg (zbt s) :: [aS .ins v0]))/\(s.b=c.b/\0<=s.i)/\(zeX v0=true)
def ziG (c:Cur)  : Bool:=pc (∃s v0,zhp c s v0)
def zll (c:Cur)  : Cur×List Ins:=Classical.epsilon fun r=>zhp c r.1 r.2
def zgJ (c:Cur)  : Cur:=bif ziG c then (zll c).1 else ⟨[],0,0⟩
def zlI (c:Cur)  : List Ins:=(zll c).2
theorem zJI {c:Cur}(h:ziG c=true):zhp c (zgJ c) (zlI c):=by
 obtain ⟨s,v0,h2⟩:=zC.1 h;have h3:zhp c (zll c).1 (zll c).2:=Classical.epsilon_spec (p:=fun r=>zhp c r.1 r.2) ⟨(s,v0),h2⟩;unfold zgJ;rw[h,cT];exact h3
def zkJ:List CV->List AV->Option (Bool×List CV×List AV)
 | [.s .u8 b,.i .i64 c,.i .i64 d],[]=>some ((ziG (⟨b,c,d⟩:Cur)),zbt (zgJ (⟨b,c,d⟩:Cur)),[aS .ins (zlI (⟨b,c,d⟩:Cur))])
 | _,_=>none
theorem zE9 (c:Cur)(hb:zbu big (.agg (zbt c) :: []))(hc:ziG c=true):∃N,zo1 N c=some (.agg (zbt (zgJ c)) :: [aS .ins (zlI c)]):=by
 exact (zJI hc).1
theorem zz7:zcx Tryz.prog 300 [false,true,true] zkJ:=by
 refine zbv (zb3 zdG zbd zHT zn) (zcX (by kernel_rfl)) ?_
 intro cs avs cs' rs hl hr h;have hb:=zbD hr;unfold zkJ at h;split at h
 .obtain ⟨hc,rfl,rfl⟩:=zbR h;obtain ⟨N,hN⟩:=zE9 _ (by exact hb) hc
  exact ⟨rfl,_,N,12,(zHJ N _ ).trans hN⟩
 .cases h
def zLE:zco:=[(300,([false,true,true],zkJ))]++zLD
theorem zHU:zbJ zLE:=zcT zHT (by
 intro x hx;simp only[qG,qU,or_false]at hx;rcases hx with rfl
 .exact zz7)
def znj (N:Nat)(c:Cur)  : OA :=
 (iter (σ:=(Int×(Int×(Int×(lP×((List Int)×Unit)))))) N (fun r2 s3=>let y2:=s3.2.2.2.2.1;let y1:=(⟨y2,s3.2.1,s3.2.2.1⟩:Cur);let y0:=({ (zu y1 2) with b:=y2 }:Cur); (oN (zL y1 2) (cond (ilt s3.1 (zB .i64 1 (zV y1 2))) (oN (ziG y0) (oN (few (ln (ap s3.2.2.2.1 [(zlI y0)]))) (r2 ((zB .i64 s3.1 1),((zgJ y0).i,((zgJ y0).h,((ap s3.2.2.2.1 [(zlI y0)]),(y2,())))))))) (some [(.agg [(.s .u8 y2),(.i .i64 (zu y1 2).i),(.i .i64 (zu y1 2).h)]),(aS (.sl .ins) s3.2.2.2.1)])))) (0,(c.i,(c.h,([],(c.b,()))))))
def zDt:FuncId->Nat->Option Tmpl:=zo [(191,0,{ n:=19,tm:=[(0,.lp 0 0),(3,.sl 0 []),(4,ti)],lo:=[(0,[.sl 1 [],ti,ti])],ro:=[(0,(.sl .ins),true),(1,.u8,false)] })]
theorem zFh (N:Nat)(c:Cur)  : zeb (cQ ziX zib zLE zgM) zDt N 12 191 [false,true,true] (zbt c) []=znj N c:=by kernel_rfl
def zgx (c:Cur)(s:Cur)(v0:List (List Ins)):Prop:=(∃N,znj N c=some (AV.agg (zbt s) :: [aS (.sl .ins) v0]))/\(s.b=c.b/\0<=s.i)/\(1<=v0.length/\v0.length<=2/\∀x∈v0,zeX x=true)
def zhr (c:Cur)  : Bool:=pc (∃s v0,zgx c s v0)
def zkh (c:Cur)  : Cur×List (List Ins):=Classical.epsilon fun r=>zgx c r.1 r.2
def zfU (c:Cur)  : Cur:=bif zhr c then (zkh c).1 else ⟨[],0,0⟩
def zkg (c:Cur)  : List (List Ins):=(zkh c).2
theorem zH8 {c:Cur}(h:zhr c=true):zgx c (zfU c) (zkg c):=by
 obtain ⟨s,v0,h2⟩:=zC.1 h;have h3:zgx c (zkh c).1 (zkh c).2:=Classical.epsilon_spec (p:=fun r=>zgx c r.1 r.2) ⟨(s,v0),h2⟩;unfold zfU;rw[h,cT];exact h3
def zj0:List CV->List AV->Option (Bool×List CV×List AV)
 | [.s .u8 b,.i .i64 c,.i .i64 d],[]=>some ((zhr (⟨b,c,d⟩:Cur)),zbt (zfU (⟨b,c,d⟩:Cur)),[aS (.sl .ins) (zkg (⟨b,c,d⟩:Cur))])
 | _,_=>none
theorem zC4 (c:Cur)(hb:zbu big (.agg (zbt c) :: []))(hc:zhr c=true):∃N,znj N c=some (.agg (zbt (zfU c)) :: [aS (.sl .ins) (zkg c)]):=by
 exact (zH8 hc).1
theorem zxT:zcx Tryz.prog 191 [false,true,true] zj0:=by
 refine zbv (zb3 zdG zbd zHU zn) (zcX (by kernel_rfl)) ?_
 intro cs avs cs' rs hl hr h;have hb:=zbD hr;unfold zj0 at h;split at h
 .obtain ⟨hc,rfl,rfl⟩:=zbR h;obtain ⟨N,hN⟩:=zC4 _ (by exact hb) hc
  exact ⟨rfl,_,N,12,(zFh N _ ).trans hN⟩
 .cases h
def zLF:zco:=[(191,([false,true,true],zj0))]++zLE
theorem zHV:zbJ zLF:=zcT zHU (by
 intro x hx;simp only[qG,qU,or_false]at hx;rcases hx with rfl
 .exact zxT)
def zqH (N:Nat)(c:Cur)  : OA :=
 (iter (σ:=(Int×(Int×(Int×(lQ×((List Int)×Unit)))))) N (fun r2 s3=>let y2:=s3.2.2.2.2.1;let y1:=(⟨y2,s3.2.1,s3.2.2.1⟩:Cur);let y0:=({ (zu y1 2) with b:=y2 }:Cur); (oN (zL y1 2) (cond (ilt s3.1 (zB .i64 1 (zV y1 2))) (oN (zhr y0) (oN (few (ln (ap s3.2.2.2.1 [(zkg y0)]))) (r2 ((zB .i64 s3.1 1),((zfU y0).i,((zfU y0).h,((ap s3.2.2.2.1 [(zkg y0)]),(y2,())))))))) (some [(.agg [(.s .u8 y2),(.i .i64 (zu y1 2).i),(.i .i64 (zu y1 2).h)]),(aS (.sl (.sl .ins)) s3.2.2.2.1)])))) (0,(c.i,(c.h,([],(c.b,()))))))
def zIG:FuncId->Nat->Option Tmpl:=zo [(81,0,{ n:=19,tm:=[(0,.lp 0 0),(3,.sl 0 []),(4,ti)],lo:=[(0,[.sl 1 [],ti,ti])],ro:=[(0,(.sl (.sl .ins)),true),(1,.u8,false)] })]
theorem zJw (N:Nat)(c:Cur)  : zeb (cQ ziX zib zLF zgM) zIG N 12 81 [false,true,true] (zbt c) []=zqH N c:=by kernel_rfl
def ziI (c:Cur)(s:Cur)(v0:List (List (List Ins))):Prop:=(∃N,zqH N c=some (AV.agg (zbt s) :: [aS (.sl (.sl .ins)) v0]))/\(s.b=c.b/\0<=s.i)/\(1<=v0.length/\v0.length<=2/\∀p∈v0,1<=p.length/\p.length<=2/\∀x∈p,zeX x=true)
def zmR (c:Cur)  : Bool:=pc (∃s v0,ziI c s v0)
def zmS (c:Cur)  : Cur×List (List (List Ins)):=Classical.epsilon fun r=>ziI c r.1 r.2
def zmT (c:Cur)  : Cur:=bif zmR c then (zmS c).1 else ⟨[],0,0⟩
def zyn (c:Cur)  : List (List (List Ins)):=(zmS c).2
theorem zLP {c:Cur}(h:zmR c=true):ziI c (zmT c) (zyn c):=by
 obtain ⟨s,v0,h2⟩:=zC.1 h;have h3:ziI c (zmS c).1 (zmS c).2:=Classical.epsilon_spec (p:=fun r=>ziI c r.1 r.2) ⟨(s,v0),h2⟩;unfold zmT;rw[h,cT];exact h3
def zl7:List CV->List AV->Option (Bool×List CV×List AV)
 | [.s .u8 b,.i .i64 c,.i .i64 d],[]=>some ((zmR (⟨b,c,d⟩:Cur)),zbt (zmT (⟨b,c,d⟩:Cur)),[aS (.sl (.sl .ins)) (zyn (⟨b,c,d⟩:Cur))])
 | _,_=>none
theorem zHw (c:Cur)(hb:zbu big (.agg (zbt c) :: []))(hc:zmR c=true):∃N,zqH N c=some (.agg (zbt (zmT c)) :: [aS (.sl (.sl .ins)) (zyn c)]):=by
 exact (zLP hc).1
theorem zCw:zcx Tryz.prog 81 [false,true,true] zl7:=by
 refine zbv (zb3 zdG zbd zHV zn) (zcX (by kernel_rfl)) ?_
 intro cs avs cs' rs hl hr h;have hb:=zbD hr;unfold zl7 at h;split at h
 .obtain ⟨hc,rfl,rfl⟩:=zbR h;obtain ⟨N,hN⟩:=zHw _ (by exact hb) hc
  exact ⟨rfl,_,N,12,(zJw N _ ).trans hN⟩
 .cases h
def zLG:zco:=[(81,([false,true,true],zl7))]++zLF
theorem zHW:zbJ zLG:=zcT zHV (by
 intro x hx;simp only[qG,qU,or_false]at hx;rcases hx with rfl
 .exact zCw)
def zqG (N:Nat)(c:Cur)  : OA :=
 let y5:=(zV c 4);let y0:=({ (zu c 4) with b:=c.b }:Cur);let y4:=(zhn y0 4);let y3:=(zb5 y0 4);let y1:=({ y3 with b:=c.b }:Cur);let y2:=({ (zb5 y1 2) with b:=c.b }:Cur); (oN (zL c 4) (oN (zeB y0 4) (cond (nB y4) (cond (ine y5 2) (oN (zeB y1 2) (cond (zhn y1 2) (oN (zL y2 256) (some [(.agg [(.s .u8 c.b),(.i .i64 (zu y2 256).i),(.i .i64 (zu y2 256).h)]),(.agg [(.i .i64 y5),(.i .i64 (zV y2 256)),(.b (nB y4))])])) (some [(.agg [(.s .u8 c.b),(.i .i64 (zb5 y1 2).i),(.i .i64 (zb5 y1 2).h)]),(.agg [(.i .i64 y5),(.i .i64 0),(.b (nB y4))])]))) (some [(.agg [(.s .u8 c.b),(.i .i64 y3.i),(.i .i64 y3.h)]),(.agg [(.i .i64 y5),(.i .i64 0),(.b (nB y4))])])) (some [(.agg [(.s .u8 c.b),(.i .i64 y3.i),(.i .i64 y3.h)]),(.agg [(.i .i64 y5),(.i .i64 0),(.b (nB y4))])]))))
theorem zJv (N:Nat)(c:Cur)  : zeb (cQ ziX zib zLG zgM) (zo []) N 12 233 [false,true,true] (zbt c) []=zqG N c:=by kernel_rfl
def ziH (c:Cur)(s:Cur)(v0:Ctl):Prop:=(∃N,zqG N c=some (AV.agg (zbt s) :: [.agg (zKP v0)]))/\(s.b=c.b/\0<=s.i)/\(True)
def zkf (c:Cur)  : Bool:=pc (∃s v0,ziH c s v0)
def zmQ (c:Cur)  : Cur×Ctl:=Classical.epsilon fun r=>ziH c r.1 r.2
def zfs (c:Cur)  : Cur:=bif zkf c then (zmQ c).1 else ⟨[],0,0⟩
def zhq (c:Cur)  : Ctl:=(zmQ c).2
theorem zLO {c:Cur}(h:zkf c=true):ziH c (zfs c) (zhq c):=by
 obtain ⟨s,v0,h2⟩:=zC.1 h;have h3:ziH c (zmQ c).1 (zmQ c).2:=Classical.epsilon_spec (p:=fun r=>ziH c r.1 r.2) ⟨(s,v0),h2⟩;unfold zfs;rw[h,cT];exact h3
def zl6:List CV->List AV->Option (Bool×List CV×List AV)
 | [.s .u8 b,.i .i64 c,.i .i64 d],[]=>some ((zkf (⟨b,c,d⟩:Cur)),zbt (zfs (⟨b,c,d⟩:Cur)),[.agg (zKP (zhq (⟨b,c,d⟩:Cur)))])
 | _,_=>none
theorem zHv (c:Cur)(hb:zbu big (.agg (zbt c) :: []))(hc:zkf c=true):∃N,zqG N c=some (.agg (zbt (zfs c)) :: [.agg (zKP (zhq c))]):=by
 exact (zLO hc).1
theorem zCv:zcx Tryz.prog 233 [false,true,true] zl6:=by
 refine zbv (zb3 zdG zbd zHW zn) (zcX (by kernel_rfl)) ?_
 intro cs avs cs' rs hl hr h;have hb:=zbD hr;unfold zl6 at h;split at h
 .obtain ⟨hc,rfl,rfl⟩:=zbR h;obtain ⟨N,hN⟩:=zHv _ (by exact hb) hc
  exact ⟨rfl,_,N,12,(zJv N _ ).trans hN⟩
 .cases h
def zLH:zco:=[(233,([false,true,true],zl6))]++zLG
theorem zyj:zbJ zLH:=zcT zHW (by
 intro x hx;simp only[qG,qU,or_false]at hx;rcases hx with rfl
 .exact zCv)
def zqJ (N:Nat)(c:Cur)  : OA :=
 let y13:=({ (zu c 2) with b:=c.b }:Cur);let y8:=(zV c 2);let y2:=(zV y13 2);let y1:=({ (zu y13 2) with b:=c.b }:Cur);let y10:=(zu y1 24);let y5:=(zV y1 24);let y0:=({ y10 with b:=c.b }:Cur);let y14:=(zu y0 8);let y12:=({ (zu y0 4) with b:=c.b }:Cur);let y11:=({ y14 with b:=c.b }:Cur);let y9:=({ (zu y0 16) with b:=c.b }:Cur);let y7:=({ (zbY y0 [16,17]) with b:=c.b }:Cur);let y6:=({ (zbY y0 [13,13,14,15]) with b:=c.b }:Cur);let y4:=({ (zu y11 4) with b:=c.b }:Cur);let y3:=({ (zu y12 8) with b:=c.b }:Cur); (share (oN (zct y0 [13,13,14,15]) (oN (zL y6 8) (some [(.agg [(.s .u8 c.b),(.i .i64 (zu y6 8).i),(.i .i64 (zu y6 8).h)]),(.agg [(.i .i64 (zc7 y0 [13,13,14,15])),(.i .i64 y8),(.i .i64 y2),(.i .i64 (zV y6 8)),(.i .i64 0),(.i .i64 0)])]))) (fun t5=>(share (cond (ieq y5 16) (oN (zct y0 [16,17]) (oN (zL y7 4) (some [(.agg [(.s .u8 c.b),(.i .i64 (zu y7 4).i),(.i .i64 (zu y7 4).h)]),(.agg [(.i .i64 (zc7 y0 [16,17])),(.i .i64 y8),(.i .i64 y2),(.i .i64 (zV y7 4)),(.i .i64 0),(.i .i64 0)])]))) (some [(.agg [(.s .u8 c.b),(.i .i64 y10.i),(.i .i64 y10.h)]),(.agg [(.i .i64 1),(.i .i64 y8),(.i .i64 y2),(.i .i64 0),(.i .i64 0),(.i .i64 0)])])) (fun t4=>(share (oN (zL y0 4) (oN (zL y12 8) (oN (zct y3 [3,3,1,2]) (some [(.agg [(.s .u8 c.b),(.i .i64 (zbY y3 [3,3,1,2]).i),(.i .i64 (zbY y3 [3,3,1,2]).h)]),(.agg [(.i .i64 2),(.i .i64 y8),(.i .i64 y2),(.i .i64 (zV y0 4)),(.i .i64 (zV y12 8)),(.i .i64 (zc7 y3 [3,3,1,2]))])])))) (fun t3=>(share (oN (zL y0 4) (some [(.agg [(.s .u8 c.b),(.i .i64 (zu y0 4).i),(.i .i64 (zu y0 4).h)]),(.agg [(.i .i64 3),(.i .i64 y8),(.i .i64 y2),(.i .i64 (zV y0 4)),(.i .i64 0),(.i .i64 0)])])) (fun t2=>(share (cond (ieq y5 7) (oN (zL y0 8) (some [(.agg [(.s .u8 c.b),(.i .i64 y14.i),(.i .i64 y14.h)]),(.agg [(.i .i64 6),(.i .i64 y8),(.i .i64 y2),(.i .i64 (zV y0 8)),(.i .i64 0),(.i .i64 0)])])) (cond (ieq y5 8) (oN (zkf y0) (cond ((zhq y0).Open) (some [(.agg [(.s .u8 c.b),(.i .i64 (zfs y0).i),(.i .i64 (zfs y0).h)]),(.agg [(.i .i64 7),(.i .i64 y8),(.i .i64 y2),(.i .i64 (zhq y0).Traps),(.i .i64 (zhq y0).Post),(.i .i64 1)])]) (some [(.agg [(.s .u8 c.b),(.i .i64 (zfs y0).i),(.i .i64 (zfs y0).h)]),(.agg [(.i .i64 7),(.i .i64 y8),(.i .i64 y2),(.i .i64 (zhq y0).Traps),(.i .i64 (zhq y0).Post),(.i .i64 0)])]))) (cond (ieq y5 9) (oN (zL y0 8) (oN (zL y11 4) (oN (zL y4 100) (some [(.agg [(.s .u8 c.b),(.i .i64 (zu y4 100).i),(.i .i64 (zu y4 100).h)]),(.agg [(.i .i64 8),(.i .i64 y8),(.i .i64 y2),(.i .i64 (zV y0 8)),(.i .i64 (zV y11 4)),(.i .i64 (zV y4 100))])])))) (cond (ieq y5 10) (oN (zL y0 8) (some [(.agg [(.s .u8 c.b),(.i .i64 y14.i),(.i .i64 y14.h)]),(.agg [(.i .i64 9),(.i .i64 y8),(.i .i64 y2),(.i .i64 (zV y0 8)),(.i .i64 0),(.i .i64 0)])])) (cond (ieq y5 11) (some [(.agg [(.s .u8 c.b),(.i .i64 y10.i),(.i .i64 y10.h)]),(.agg [(.i .i64 10),(.i .i64 y8),(.i .i64 y2),(.i .i64 0),(.i .i64 0),(.i .i64 0)])]) (cond (ieq y5 12) (oN (zL y0 16) (oN (zL y9 100) (some [(.agg [(.s .u8 c.b),(.i .i64 (zu y9 100).i),(.i .i64 (zu y9 100).h)]),(.agg [(.i .i64 11),(.i .i64 y8),(.i .i64 y2),(.i .i64 (zV y0 16)),(.i .i64 (zV y9 100)),(.i .i64 0)])]))) (cond (ieq y5 13) (oN (zL y0 16) (some [(.agg [(.s .u8 c.b),(.i .i64 (zu y0 16).i),(.i .i64 (zu y0 16).h)]),(.agg [(.i .i64 12),(.i .i64 y8),(.i .i64 y2),(.i .i64 (zV y0 16)),(.i .i64 0),(.i .i64 0)])])) (cond (ieq y5 14) (cond (ieq y5 14) t5 t4) (cond (ieq y5 15) t5 t4))))))))) (fun t0=>(share (cond (ieq y5 4) (oN (zL y0 100) (some [(.agg [(.s .u8 c.b),(.i .i64 (zu y0 100).i),(.i .i64 (zu y0 100).h)]),(.agg [(.i .i64 4),(.i .i64 y8),(.i .i64 y2),(.i .i64 (zV y0 100)),(.i .i64 0),(.i .i64 0)])])) (cond (ieq y5 5) (cond (ieq y5 5) (some [(.agg [(.s .u8 c.b),(.i .i64 y10.i),(.i .i64 y10.h)]),(.agg [(.i .i64 5),(.i .i64 y8),(.i .i64 y2),(.i .i64 0),(.i .i64 0),(.i .i64 0)])]) t0) (cond (ieq y5 6) (some [(.agg [(.s .u8 c.b),(.i .i64 y10.i),(.i .i64 y10.h)]),(.agg [(.i .i64 5),(.i .i64 y8),(.i .i64 y2),(.i .i64 0),(.i .i64 0),(.i .i64 0)])]) t0))) (fun t1=>(share (cond (ieq y5 2) (cond (ieq y5 2) t2 t1) (cond (ieq y5 3) t2 t1)) (fun t6=>(oN (zL c 2) (oN (zL y13 2) (oN (zL y1 24) (cond (ieq y5 0) (cond (ieq y5 0) t3 t6) (cond (ieq y5 1) t3 t6)))))))))))))))))))
theorem zJy (N:Nat)(c:Cur)  : zeb (cQ ziX zib zLH zgM) (zo []) N 12 108 [false,true,true] (zbt c) []=zqJ N c:=by kernel_rfl
def ziJ (c:Cur)(s:Cur)(v0:GAct):Prop:=(∃N,zqJ N c=some (AV.agg (zbt s) :: [aT .act v0]))/\(s.b=c.b/\0<=s.i)/\(True)
def zgk (c:Cur)  : Bool:=pc (∃s v0,ziJ c s v0)
def zmV (c:Cur)  : Cur×GAct:=Classical.epsilon fun r=>ziJ c r.1 r.2
def zey (c:Cur)  : Cur:=bif zgk c then (zmV c).1 else ⟨[],0,0⟩
def zkS (c:Cur)  : GAct:=(zmV c).2
theorem zLQ {c:Cur}(h:zgk c=true):ziJ c (zey c) (zkS c):=by
 obtain ⟨s,v0,h2⟩:=zC.1 h;have h3:ziJ c (zmV c).1 (zmV c).2:=Classical.epsilon_spec (p:=fun r=>ziJ c r.1 r.2) ⟨(s,v0),h2⟩;unfold zey;rw[h,cT];exact h3
def zl8:List CV->List AV->Option (Bool×List CV×List AV)
 | [.s .u8 b,.i .i64 c,.i .i64 d],[]=>some ((zgk (⟨b,c,d⟩:Cur)),zbt (zey (⟨b,c,d⟩:Cur)),[aT .act (zkS (⟨b,c,d⟩:Cur))])
 | _,_=>none
theorem zHz (c:Cur)(hb:zbu big (.agg (zbt c) :: []))(hc:zgk c=true):∃N,zqJ N c=some (.agg (zbt (zey c)) :: [aT .act (zkS c)]):=by
 exact (zLQ hc).1
theorem zCz:zcx Tryz.prog 108 [false,true,true] zl8:=by
 refine zbv (zb3 zdG zbd zyj zn) (zcX (by kernel_rfl)) ?_
 intro cs avs cs' rs hl hr h;have hb:=zbD hr;unfold zl8 at h;split at h
 .obtain ⟨hc,rfl,rfl⟩:=zbR h;obtain ⟨N,hN⟩:=zHz _ (by exact hb) hc
  exact ⟨rfl,_,N,12,(zJy N _ ).trans hN⟩
 .cases h
def zs8 (N:Nat)  : OA :=
 (iter (σ:=(Int×(lA×Unit))) N (fun r1 s2=>(cond (ilt s2.1 2) (iter (σ:=(Int×(Int×(lA×Unit)))) N (fun r3 s4=>(cond (ilt s4.2.1 2) (iter (σ:=(Int×(Int×(Int×(lA×Unit))))) N (fun r5 s6=>let y0:=(ap s6.2.2.2.1 [(⟨2,s6.1,s6.2.1,s6.2.2.1,(zB .i64 s6.2.2.1 (zkl .i64 3 s6.2.1)),3⟩:GAct),(⟨3,s6.1,s6.2.1,s6.2.2.1,0,0⟩:GAct)]); (cond (ilt s6.2.2.1 3) (oN (few (ln y0)) (r5 (s6.1,(s6.2.1,((zB .i64 s6.2.2.1 1),(y0,())))))) (r3 (s6.1,((zB .i64 s6.2.1 1),(s6.2.2.2.1,())))))) (s4.1,(s4.2.1,(0,(s4.2.2.1,()))))) (r1 ((zB .i64 s4.1 1),(s4.2.2.1,()))))) (s2.1,(0,(s2.2.1,())))) (some [(aS .act s2.2.1)]))) (0,([],())))
def zDu:FuncId->Nat->Option Tmpl:=zo [(192,0,{ n:=34,tm:=[(1,.sl 0 []),(2,ti)],lo:=[],ro:=[(0,.act,true)] }),(192,2,{ n:=34,tm:=[(1,.sl 0 []),(2,ti),(3,ti)],lo:=[],ro:=[(0,.act,true)] }),(192,4,{ n:=34,tm:=[(1,.sl 0 []),(2,ti),(3,ti),(4,ti)],lo:=[],ro:=[(0,.act,true)] })]
def zgy  (v0:List GAct):Prop:=(∃N,zs8 N=some [aS .act v0])/\(v0.length<=45)
def zkj  : Bool:=pc (∃v0,zgy v0)
def zuN  : List GAct:=Classical.epsilon fun r=>zgy r
def zmZ  : List GAct:=(zuN)
theorem zH9  (h:zkj=true):zgy zmZ:=by
 obtain ⟨v0,h2⟩:=zC.1 h;have h3:zgy (zuN):=Classical.epsilon_spec (p:=fun r=>zgy r) ⟨v0,h2⟩;exact h3
def zqv:Run:=rF0 (zkj,[aS .act zmZ])
theorem zC5  (hc:zkj=true):∃N,zs8 N  = some [aS .act zmZ]:=by
 exact (zH9 hc).1
theorem zxU:uV 192 zqv:=kF0 zdG zbd zyj zn zDu zC5
def zLI:zco:=[(108,([false,true,true],zl8))]++zLH
theorem zHX:zbJ zLI:=zcT zyj (by
 intro x hx;simp only[qG,qU,or_false]at hx;rcases hx with rfl
 .exact zCz)
def zMh:zK:=[(192,zqv)]++ziX
theorem zMi:zx zMh:=zh zxU zdG
def zo5 (N:Nat)(c:Cur)(a0:Int):OA:=
 (oN (zeB c 5) (cond (nB (zhn c 5)) (oN zkj (iter (σ:=(Int×(Int×(Int×(Int×(lA×((List Int)×Unit))))))) N (fun r3 s4=>let y6:=s4.2.2.2.2.2.1;let y4:=(zB .i64 s4.1 1);let y2:=(⟨y6,s4.2.2.1,s4.2.2.2.1⟩:Cur);let y0:=({ (zu y2 y4) with b:=y6 }:Cur);let y8:=(ap s4.2.2.2.2.1 [(zkS y0)]); (oN (zL y2 y4) (cond (ilt s4.2.1 (zV y2 y4)) (oN (zgk y0) (oN (few (ln y8)) (r3 (s4.1,((zB .i64 s4.2.1 1),((zey y0).i,((zey y0).h,(y8,(y6,()))))))))) (some [(.agg [(.s .u8 y6),(.i .i64 (zu y2 y4).i),(.i .i64 (zu y2 y4).h)]),(aS .act s4.2.2.2.2.1)])))) (a0,(0,((zb5 c 5).i,((zb5 c 5).h,(zmZ,(c.b,())))))))) (iter (σ:=(Int×(Int×(Int×(Int×(lA×((List Int)×Unit))))))) N (fun r3 s4=>let y7:=s4.2.2.2.2.2.1;let y5:=(zB .i64 s4.1 1);let y3:=(⟨y7,s4.2.2.1,s4.2.2.2.1⟩:Cur);let y1:=({ (zu y3 y5) with b:=y7 }:Cur);let y9:=(ap s4.2.2.2.2.1 [(zkS y1)]); (oN (zL y3 y5) (cond (ilt s4.2.1 (zV y3 y5)) (oN (zgk y1) (oN (few (ln y9)) (r3 (s4.1,((zB .i64 s4.2.1 1),((zey y1).i,((zey y1).h,(y9,(y7,()))))))))) (some [(.agg [(.s .u8 y7),(.i .i64 (zu y3 y5).i),(.i .i64 (zu y3 y5).h)]),(aS .act s4.2.2.2.2.1)])))) (a0,(0,((zb5 c 5).i,((zb5 c 5).h,([],(c.b,())))))))))
def zFs:FuncId->Nat->Option Tmpl:=zo [(82,0,{ n:=26,tm:=[(0,.lp 0 0),(1,ti),(5,.sl 0 []),(6,ti)],lo:=[(0,[.sl 1 [],ti,ti])],ro:=[(0,.act,true),(1,.u8,false)] })]
theorem zHN (N:Nat)(c:Cur)(a0:Int):zeb (cQ zMh zib zLI zgM) zFs N 12 82 [false,true,true] (zbt c) [aI a0]=zo5 N c a0:=by kernel_rfl
def zhs (c:Cur)(a0:Int)(s:Cur)(v0:List GAct):Prop:=(∃N,zo5 N c a0=some (AV.agg (zbt s) :: [aS .act v0]))/\(s.b=c.b/\0<=s.i)/\(ln v0<=45+a0)
def zlm (c:Cur)(a0:Int):Bool:=pc (∃s v0,zhs c a0 s v0)
def zln (c:Cur)(a0:Int):Cur×List GAct:=Classical.epsilon fun r=>zhs c a0 r.1 r.2
def zlo (c:Cur)(a0:Int):Cur:=bif zlm c a0 then (zln c a0).1 else ⟨[],0,0⟩
def zuM (c:Cur)(a0:Int):List GAct:=(zln c a0).2
theorem zJJ {c:Cur}{a0:Int}(h:zlm c a0=true):zhs c a0 (zlo c a0) (zuM c a0):=by
 obtain ⟨s,v0,h2⟩:=zC.1 h;have h3:zhs c a0 (zln c a0).1 (zln c a0).2:=Classical.epsilon_spec (p:=fun r=>zhs c a0 r.1 r.2) ⟨(s,v0),h2⟩;unfold zlo;rw[h,cT];exact h3
def zkK:List CV->List AV->Option (Bool×List CV×List AV)
 | [.s .u8 b,.i .i64 c,.i .i64 d],[.one (.i .i64 e)]=>some ((zlm (⟨b,c,d⟩:Cur) e),zbt (zlo (⟨b,c,d⟩:Cur) e),[aS .act (zuM (⟨b,c,d⟩:Cur) e)])
 | _,_=>none
theorem zFf (c:Cur)(a0:Int)(hb:zbu big (.agg (zbt c) :: [aI a0]))(hc:zlm c a0=true):∃N,zo5 N c a0=some (.agg (zbt (zlo c a0)) :: [aS .act (zuM c a0)]):=by
 exact (zJJ hc).1
theorem zAd:zcx Tryz.prog 82 [false,true,true] zkK:=by
 refine zbv (zb3 zMi zbd zHX zn) (zcX (by kernel_rfl)) ?_
 intro cs avs cs' rs hl hr h;have hb:=zbD hr;unfold zkK at h;split at h
 .obtain ⟨hc,rfl,rfl⟩:=zbR h;obtain ⟨N,hN⟩:=zFf _ _ (by exact hb) hc
  exact ⟨rfl,_,N,12,(zHN N _ _ ).trans hN⟩
 .cases h
def zQH:zco:=[(82,([false,true,true],zkK))]++zLI
theorem zO6:zbJ zQH:=zcT zHX (by
 intro x hx;simp only[qG,qU,or_false]at hx;rcases hx with rfl
 .exact zAd)
def zFB:zco:=zQH
theorem zru:zbJ zFB:=zO6
def zMj:zK:=zGa
theorem zMk:zx zMj:=zIW
def zzt:zK:=zMj
theorem zls:zx zzt:=zMk
def zFU (l:List Int):Prop:=l.length=12/\∀i:Int,0<=i->i<12->0<=ix l i 0/\ix l i 0<10000
def zs6 (N:Nat)(c:Cur)  : OA :=
 let y0:=(zbY c [0,0,0,1,1,2,(-1),9223372036854775807]); (oN (zct c [0,0,0,1,1,2,(-1),9223372036854775807]) (some [(.agg [(.s .u8 c.b),(.i .i64 y0.i),(.i .i64 y0.h)]),(aI (zc7 c [0,0,0,1,1,2,(-1),9223372036854775807]))]))
theorem zLt (N:Nat)(c:Cur)  : zeb (cQ zzt zib zFB zgM) (zo []) N 12 109 [false,true,true] (zbt c) []=zs6 N c:=by kernel_rfl
def zki (c:Cur)(s:Cur)(v0:Int):Prop:=(∃N,zs6 N c=some (AV.agg (zbt s) :: [aI v0]))/\(s.b=c.b/\0<=s.i)/\(True)
def zlJ (c:Cur)  : Bool:=pc (∃s v0,zki c s v0)
def zoU (c:Cur)  : Cur×Int:=Classical.epsilon fun r=>zki c r.1 r.2
def zjx (c:Cur)  : Cur:=bif zlJ c then (zoU c).1 else ⟨[],0,0⟩
def zvo (c:Cur)  : Int:=(zoU c).2
theorem zNJ {c:Cur}(h:zlJ c=true):zki c (zjx c) (zvo c):=by
 obtain ⟨s,v0,h2⟩:=zC.1 h;have h3:zki c (zoU c).1 (zoU c).2:=Classical.epsilon_spec (p:=fun r=>zki c r.1 r.2) ⟨(s,v0),h2⟩;unfold zjx;rw[h,cT];exact h3
def znN:List CV->List AV->Option (Bool×List CV×List AV)
 | [.s .u8 b,.i .i64 c,.i .i64 d],[]=>some ((zlJ (⟨b,c,d⟩:Cur)),zbt (zjx (⟨b,c,d⟩:Cur)),[aI (zvo (⟨b,c,d⟩:Cur))])
 | _,_=>none
theorem zJs (c:Cur)(hb:zbu big (.agg (zbt c) :: []))(hc:zlJ c=true):∃N,zs6 N c=some (.agg (zbt (zjx c)) :: [aI (zvo c)]):=by
 exact (zNJ hc).1
theorem zEH:zcx Tryz.prog 109 [false,true,true] znN:=by
 refine zbv (zb3 zls zbd zru zn) (zcX (by kernel_rfl)) ?_
 intro cs avs cs' rs hl hr h;have hb:=zbD hr;unfold znN at h;split at h
 .obtain ⟨hc,rfl,rfl⟩:=zbR h;obtain ⟨N,hN⟩:=zJs _ (by exact hb) hc
  exact ⟨rfl,_,N,12,(zLt N _ ).trans hN⟩
 .cases h
def zLJ:zco:=[(109,([false,true,true],znN))]++zFB
theorem zHY:zbJ zLJ:=zcT zru (by
 intro x hx;simp only[qG,qU,or_false]at hx;rcases hx with rfl
 .exact zEH)
def zqK (N:Nat)(c:Cur)  : OA :=
 let y2:=(zkS c);let y1:=({ (zey c) with b:=c.b }:Cur);let y4:=(zV y1 10);let y0:=({ (zu y1 10) with b:=c.b }:Cur);let y3:=(zbY y0 [(-1),4,8,16,100,9223372036854775807]); (oN (zgk c) (oN (zL y1 10) (cond (ieq y4 0) (oN (zL y0 20) (some [(.agg [(.s .u8 c.b),(.i .i64 (zu y0 20).i),(.i .i64 (zu y0 20).h)]),(.agg [(.i .i64 (wsub .i64 (zV y0 20) 1)),(.i .i64 y2.M),(.i .i64 y2.G),(.i .i64 y2.X),(.i .i64 y2.Y),(.i .i64 y2.Z)])])) (cond (ieq y4 1) (oN (zlJ y0) (some [(.agg [(.s .u8 c.b),(.i .i64 (zjx y0).i),(.i .i64 (zjx y0).h)]),(.agg [(.i .i64 y2.Kind),(.i .i64 (zvo y0)),(.i .i64 y2.G),(.i .i64 y2.X),(.i .i64 y2.Y),(.i .i64 y2.Z)])])) (cond (ieq y4 2) (oN (zct y0 [(-1),4,8,16,100,9223372036854775807]) (some [(.agg [(.s .u8 c.b),(.i .i64 y3.i),(.i .i64 y3.h)]),(.agg [(.i .i64 y2.Kind),(.i .i64 y2.M),(.i .i64 y2.G),(.i .i64 (zc7 y0 [(-1),4,8,16,100,9223372036854775807])),(.i .i64 y2.Y),(.i .i64 y2.Z)])])) (cond (ieq y4 3) (oN (zct y0 [(-1),0,1,4]) (some [(.agg [(.s .u8 c.b),(.i .i64 (zbY y0 [(-1),0,1,4]).i),(.i .i64 (zbY y0 [(-1),0,1,4]).h)]),(.agg [(.i .i64 y2.Kind),(.i .i64 y2.M),(.i .i64 y2.G),(.i .i64 y2.X),(.i .i64 y2.Y),(.i .i64 (zc7 y0 [(-1),0,1,4]))])])) (some [(.agg [(.s .u8 c.b),(.i .i64 (zu y1 10).i),(.i .i64 (zu y1 10).h)]),(.agg [(.i .i64 y2.Kind),(.i .i64 y2.M),(.i .i64 y2.G),(.i .i64 y2.X),(.i .i64 y2.Y),(.i .i64 y2.Z)])])))))))
theorem zJz (N:Nat)(c:Cur)  : zeb (cQ zzt zib zLJ zgM) (zo []) N 12 45 [false,true,true] (zbt c) []=zqK N c:=by kernel_rfl
def ziK (c:Cur)(s:Cur)(v0:GAct):Prop:=(∃N,zqK N c=some (AV.agg (zbt s) :: [aT .act v0]))/\(s.b=c.b/\0<=s.i)/\(True)
def zmW (c:Cur)  : Bool:=pc (∃s v0,ziK c s v0)
def zmX (c:Cur)  : Cur×GAct:=Classical.epsilon fun r=>ziK c r.1 r.2
def zmY (c:Cur)  : Cur:=bif zmW c then (zmX c).1 else ⟨[],0,0⟩
def zyq (c:Cur)  : GAct:=(zmX c).2
theorem zLR {c:Cur}(h:zmW c=true):ziK c (zmY c) (zyq c):=by
 obtain ⟨s,v0,h2⟩:=zC.1 h;have h3:ziK c (zmX c).1 (zmX c).2:=Classical.epsilon_spec (p:=fun r=>ziK c r.1 r.2) ⟨(s,v0),h2⟩;unfold zmY;rw[h,cT];exact h3
def zl9:List CV->List AV->Option (Bool×List CV×List AV)
 | [.s .u8 b,.i .i64 c,.i .i64 d],[]=>some ((zmW (⟨b,c,d⟩:Cur)),zbt (zmY (⟨b,c,d⟩:Cur)),[aT .act (zyq (⟨b,c,d⟩:Cur))])
 | _,_=>none
theorem zHA (c:Cur)(hb:zbu big (.agg (zbt c) :: []))(hc:zmW c=true):∃N,zqK N c=some (.agg (zbt (zmY c)) :: [aT .act (zyq c)]):=by
 exact (zLR hc).1
theorem zCA:zcx Tryz.prog 45 [false,true,true] zl9:=by
 refine zbv (zb3 zls zbd zHY zn) (zcX (by kernel_rfl)) ?_
 intro cs avs cs' rs hl hr h;have hb:=zbD hr;unfold zl9 at h;split at h
 .obtain ⟨hc,rfl,rfl⟩:=zbR h;obtain ⟨N,hN⟩:=zHA _ (by exact hb) hc
  exact ⟨rfl,_,N,12,(zJz N _ ).trans hN⟩
 .cases h
def zSW:zco:=[(45,([false,true,true],zl9))]++zLJ
theorem zO7:zbJ zSW:=zcT zHY (by
 intro x hx;simp only[qG,qU,or_false]at hx;rcases hx with rfl
 .exact zCA)
def zhD (N:Nat)(a0:List Int):OA:=
 (iter (σ:=(Int×(Int×((List Int)×((List Int)×Unit))))) N (fun r2 s3=>let y4:=s3.2.2.1; (cond (ilt s3.2.1 (ln y4)) (cond (ilt s3.2.1 4000) (oN (inb s3.2.1 (ln y4)) (r2 ((wand .i64 (zB .i64 (zB .i64 (zkl .i64 s3.1 131) (wcv .i64 (ix y4 s3.2.1 0))) 7) 1073741823),((zB .i64 s3.2.1 1),(y4,(s3.2.2.2.1,())))))) (iter (σ:=(Int×(Int×(Int×((List Int)×((List Int)×Unit)))))) N (fun r4 s5=>let y0:=(⟨s5.2.2.2.2.1,s5.2.1,s5.2.2.1⟩:Cur);let y2:=(ap s5.2.2.2.1 [(zV y0 10000)]); (cond (ilt s5.1 12) (oN (zL y0 10000) (oN (few (ln y2)) (r4 ((zB .i64 s5.1 1),((zu y0 10000).i,((zu y0 10000).h,(y2,(s5.2.2.2.2.1,())))))))) (some [(aS .int s5.2.2.2.1)]))) (0,(0,(s3.1,([],(y4,()))))))) (iter (σ:=(Int×(Int×(Int×((List Int)×((List Int)×Unit)))))) N (fun r4 s5=>let y1:=(⟨s5.2.2.2.2.1,s5.2.1,s5.2.2.1⟩:Cur);let y3:=(ap s5.2.2.2.1 [(zV y1 10000)]); (cond (ilt s5.1 12) (oN (zL y1 10000) (oN (few (ln y3)) (r4 ((zB .i64 s5.1 1),((zu y1 10000).i,((zu y1 10000).h,(y3,(s5.2.2.2.2.1,())))))))) (some [(aS .int s5.2.2.2.1)]))) (0,(0,(s3.1,([],(y4,())))))))) ((zB .i64 94701 (ln a0)),(0,(a0,([],())))))
def zyx:FuncId->Nat->Option Tmpl:=zo [(43,0,{ n:=32,tm:=[(0,.sl 0 []),(3,ti),(4,ti)],lo:=[],ro:=[(0,.u8,false),(1,.int,true)],sk:=[(0,2,0,.sl 1 [])] }),(24,0,{ n:=19,tm:=[(3,.lp 0 0),(4,.sl 0 []),(5,ti)],lo:=[(0,[.sl 1 [],ti,ti])],ro:=[(0,.int,true),(1,.u8,false)] })]
def zfn (a0:List Int)(v0:List Int):Prop:=(∃N,zhD N a0=some [aS .int v0])/\(zFU v0)
def zeJ (a0:List Int):Bool:=pc (∃v0,zfn a0 v0)
def zqy (a0:List Int):List Int:=Classical.epsilon fun r=>zfn a0 r
def zfR (a0:List Int):List Int:=(zqy a0)
theorem zqx {a0:List Int}(h:zeJ a0=true):zfn a0 (zfR a0):=by
 obtain ⟨v0,h2⟩:=zC.1 h;have h3:zfn a0 (zqy a0):=Classical.epsilon_spec (p:=fun r=>zfn a0 r) ⟨v0,h2⟩;exact h3
theorem zDi (a0:List Int)(h:∃N,Ends (fun a=>∃v0,a=[aS .int v0]/\(zFU v0)) (zhD N a0)):zeJ a0=true:=by
 obtain ⟨N,a,e,v0,rfl,h⟩:=h;exact zbF ⟨v0,⟨N,e⟩,h⟩
def znS:Run:=rF1 (dS .u8) fun b=>(zeJ b,[aS .int (zfR b)])
theorem zyb (a0:List Int)(hc:zeJ a0=true):∃N,zhD N a0=some [aS .int (zfR a0)]:=by
 exact (zqx hc).1
theorem ztx:uV 24 znS:=kF1 zls zbd zO7 zn zyx zyb
theorem zH1 {a0:List Int}(h:a0.length<=big):zeJ a0=true:=by
 refine zDi a0 (zbN fun N hNN=>?_);unfold zhD oN
 conv=>zeta
 have h12:12<N:=hNN (by rw[zm1];omega)
 refine ztk (fun n s=>∃(t:Int) (i:Nat),s=(t,(i:Int),a0,[],())/\i+n=a0.length) ?_ N a0.length _ ⟨_,0,rfl,by omega⟩ (hNN h)
 rintro n s rec ⟨t,i,rfl,hi⟩ hrec
 dsimp only
 refine zpa (fun h1=>zpa (fun h2=>?_) (fun _=>?_)) (fun _=>?_)
 .have hlt:(i:Int)<ln a0:=qJ h1;unfold ln at hlt;refine zcz (qN ⟨by omega,by unfold ln;omega⟩) (hrec (n-1) _ (by omega) (by rw[zQ (show i<a0.length by omega) h];exact ⟨_,i+1,rfl,by omega⟩))
 all_goals
  refine ztk (fun n s=>∃(k:Nat) (i x:Int) (l:List Int),s=((k:Int),i,x,l,a0,())/\k+n=12/\0<=i/\l.length=k/\∀y∈l,0<=y/\y<10000) ?_ N 12 _ ⟨0,0,t,[],rfl,rfl,Int.le_refl 0,rfl,by simp⟩ h12
  rintro n' s rec' ⟨k,i',x,l,rfl,hk,hi0,hlk,hl⟩ hrec'
  dsimp only
  have hcur:zyz ⟨a0,i',x⟩:=⟨hi0,h⟩;have hx:=zN3 hcur (n:=10000) (by omega)
  refine zpa (fun h3=>?_) (fun h3=>⟨_,rfl,l,rfl,?_⟩)
  .have h3':(k:Int)<12:=qJ h3;have hnew:∀y∈ap l [zV ⟨a0,i',x⟩ 10000],0<=y/\y<10000:=by
    intro y hy;rcases jL.1 hy with hy|hy
    .exact hl y hy
    .rw [qE.1 hy];exact hx
   exact zcz (zJ1 hcur _) (zcz (zMY (by rw[zQG];unfold ln;omega)) (hrec' (n'-1) _ (by omega) (by rw[zgK (show -9223372036854775808<=(k:Int)+1 by omega) (by omega)];exact ⟨k+1,_,_,_,rfl,by omega,zH7 _ _,by simp[ap,hlk],hnew⟩)))
  .have h3':¬ (k:Int)<12:=jZ h3;exact ⟨by omega,fun j h0 h1=>hl _ (zb7 (qN ⟨h0,by unfold ln;omega⟩) 0)⟩
theorem zHD {α β:Type}{f:α->β}{l:List α}{x:β}{xs:List β}(h:l.map f=x :: xs):∃a r,l=a :: r/\f a=x/\r.map f=xs:=by
 cases l with
 | nil=>cases h
 | cons a r =>
  simp only[jG,List.cons.injEq]at h;exact ⟨a,r,rfl,h.1,h.2⟩
theorem zSB {a:AV}{ct:CTy}(h:some a.sh=some (false,[ct])):∃c,a = .one c/\c.ty=ct:=by
 cases a with
 | one c =>
  simp only[AV.sh,qC,jJ,List.cons.injEq,and_true,true_and]at h;exact ⟨c,rfl,h⟩
 | agg l=>simp[AV.sh]at h
theorem zTo {a:AV}{t:Ty}(h:some a.sh=some (false,[.s t])):∃l:List t.den,a = .one (.s t l):=by
 obtain ⟨c,rfl,hc⟩:=zSB h;obtain ⟨l,rfl⟩:=zhG hc;exact ⟨l,rfl⟩
section
open Go Go.ChangeShapes Go.WideShapes Go.ChangeAt
abbrev zCG (_:List Int):Bool:=true
abbrev zAh (l:List Int):Bool:=igt (ln l) 1048576
def zEh:Run:=rF1 (dS .u8) fun b=>(zCG b,[aB (zAh b)])
def zJY (N:Nat)(a0:List Int):OA:=
 (some [(aB (igt (ln a0) 1048576))])
theorem zNi (a0:List Int)(hc:zCG a0=true):∃N,zJY N a0=some [aB (zAh a0)]:=by
 refine ⟨0,?_⟩;unfold zJY
 first|rfl|(simp only [*,zAh,cT,cF]<;>rfl)|simp_all[Ty.cells,zAh]
theorem zJa:uV 6 zEh:=kF1 zls zbd zru zn (zo []) zNi
def zQp:zK:=[(6,zEh),(24,znS),(25,zmd),(34,zoB),(35,zjb),(36,zsr)]++zzt
theorem zOB:zx zQp:=zh zJa (zh ztx (zh zou (zh zvz (zh zlx (zh zzY zls)))))
def zrz:List Ins:=[⟨6,1⟩,⟨8,0⟩]
def zoR (n:Nat):List Ins:=List.replicate n ⟨2,1⟩
def zSu (u:Int×Host):Int×Host:=(cond (zcZ (zcE u.2) 0 0 0) (zB .i64 u.1 1) u.1,zeI (zcE u.2) 0 0 0)
def zeo (n:Nat):Nat->Int×Host
 | 0=>(0,zoS [[zrz,zoR n],[zrz]])
 | j+1=>zSu (zeo n j)
def sOk (n:Nat):Bool:=ieq (gAt (zbl (zeo n (n+1)).2 0) 1).A (n:Int)&&((gAt (zbl (zeo n (n+1)).2 0) 1).Halted&&(igt (zeo n (n+1)).1 0 && !(gAt (zbl (zeo n (n+1)).2 0) 0).Halted))
theorem zSX:((List.range 5).all fun m=>sOk (m+1))=true:=by kernel_rfl
theorem zTn {n:Nat}(h0:1<=n)(h1:n<=5):sOk n=true:=by
 have:=qS.1 zSX (n-1) (kB.2 (by omega))
 rwa [show n-1+1=n by omega] at this
theorem zL0 {h:Host}{m g v:Int}(hs:SmH h):SmH (zeI h m g v):=zPh hs (fun h0=>zAX _ _ (zn5 hs (zgc.1 h0).2))
theorem zSx {n:Nat}(h:n<=5):zKI [[zrz,zoR n],[zrz]]:=⟨by simp,by
 intro p hp;simp only[qG,qU,or_false]at hp;rcases hp with rfl|rfl
 .refine ⟨by simp,fun q hq=>?_⟩
  simp only[qG,qU,or_false]at hq;rcases hq with rfl|rfl
  .simp [zrz]
  .simp only [zoR,uF];omega
 .refine ⟨by simp,fun q hq=>?_⟩
  simp only[qG,qU,or_false]at hq;subst hq;simp[zrz]⟩
theorem zSy {n:Nat}(h:n<=5):∀j,SmH (zeo n j).2
 | 0=>zRL (zSx h)
 | j+1=>zL0 (zAV (zSy h j)).sm
theorem zSC {h:Host}(s:SmH h)(m:Int):SmB (zbl h m):=by
 cases hb:hasB m (ln h.Mons) with
 | true=>exact zn5 s hb
 | false =>
  unfold zbl;rw[hb];exact ⟨⟨by simp,by simp⟩,⟨by simp,by simp⟩,by simp⟩
def zhC (N:Nat)(a0:List Int):OA:=
 (oN (zCG a0) (cond (zAh a0) oT (oN (zeJ a0) (oN (inb 0 (ln (zfR a0))) (oN (ine 5 0) (iter (σ:=(Int×(Int×(lI×(lI×Unit))))) N (fun r2 s3=>let y3:=(ap s3.2.2.2.1 [(⟨2,1⟩:Ins)]);let y2:=(zoS [[s3.2.2.1,s3.2.2.2.1],[s3.2.2.1]]); (cond (ilt s3.2.1 s3.1) (oN (few (ln y3)) (r2 (s3.1,((zB .i64 s3.2.1 1),(s3.2.2.1,(y3,())))))) (oN (zpq [[s3.2.2.1,s3.2.2.2.1],[s3.2.2.1]]) (iter (σ:=(Int×(Int×(Int×(lM×(lN×(lE×(lE×Unit)))))))) N (fun r4 s5=>let y0:=(⟨s5.2.2.2.1,s5.2.2.2.2.1,s5.2.2.2.2.2.1,s5.2.2.2.2.2.2.1⟩:Host);let y1:=(zeI (zcE y0) 0 0 0); (cond (ilt s5.2.2.1 (zB .i64 s5.1 1)) (oN (zlZ y0) (oN (zkz (zcE y0) 0 0 0) (cond (zcZ (zcE y0) 0 0 0) (r4 (s5.1,((zB .i64 s5.2.1 1),((zB .i64 s5.2.2.1 1),(y1.Memory,(y1.Mons,(y1.Buffer,(y1.IoBuffer,())))))))) (r4 (s5.1,(s5.2.1,((zB .i64 s5.2.2.1 1),(y1.Memory,(y1.Mons,(y1.Buffer,(y1.IoBuffer,()))))))))))) (oN (zlb y0 0 1) (cond (ieq (zlC y0 0 1).A s5.1) (cond ((zlC y0 0 1).Halted) (cond (igt s5.2.1 0) (oN (zlb y0 0 0) (some [(aB (nB ((zlC y0 0 0).Halted)))])) oF) oF) oF)))) (s3.1,(0,(0,(y2.Memory,(y2.Mons,(y2.Buffer,(y2.IoBuffer,()))))))))))) ((zB .i64 1 (zkm (ix (zfR a0) 0 0) 5)),(0,([(⟨6,1⟩:Ins),(⟨8,0⟩:Ins)],([],()))))))))))
def zn7:FuncId->Nat->Option Tmpl:=zo [(5,0,{ n:=81,tm:=[(4,ti),(5,.sl 0 []),(6,.sl 1 []),(7,ti)],lo:=[],ro:=[(0,.ins,true),(1,.ins,true)] }),(5,2,{ n:=81,tm:=[(4,ti),(8,.lp 0 0),(9,ti),(10,ti)],lo:=[(0,[.sl 0 [],.sl 1 [],.sl 2 [],.sl 3 []])],ro:=[(0,(.sl .int),true),(1,.mon,true),(2,.entry,true),(3,.entry,true)] })]
theorem zAG (N:Nat)(a0:List Int):evalFn (cQ zQp zib zFB zgM) zn7 N 12 5 [aS .u8 a0]=zhC N a0:=by kernel_rfl
theorem zvx (N:Nat)(a0:List Int)(hl:a0.length<=big)(hN:80<N):Ends (fun a=>a=[.one (.b true)]) (zhC N a0):=by
 unfold zhC oN nB
 conv=>zeta
 refine zcz rfl (zpa (fun _=>zMX rfl) (fun _=>zcz (zH1 hl) ?_));obtain ⟨hp1,hp2⟩:=(zqx (zH1 hl)).2;generalize zfR a0=p at hp1 hp2;have hlp:ln p=12:=by unfold ln;omega
 have mk:=zDw (hp2 0 (by omega) (by omega)).1 (show (0:Int)<5 by omega)
 generalize zkm (ix p 0 0) 5=v at mk;obtain ⟨c,rfl⟩:=Int.eq_ofNat_of_zero_le mk.1;have hw:zB .i64 1 (c:Int)=((c+1:Nat):Int):=by rw[zgK (by omega) (by omega)];omega
 rw[hw];have hn1:1<=c+1:=by omega
 have hn5:c+1<=5:=by omega
 generalize c+1=n at hn1 hn5;refine zcz (zA (zg5.2 (by omega))) (zcz rfl ?_)
 refine ztk (fun k s=>∃j:Nat,s=((n:Int),(j:Int),zrz,zoR j,())/\j+k=n) ?_ N n _ ⟨0,rfl,by omega⟩ (by omega)
 rintro k s rec ⟨j,rfl,hj⟩ hrec
 dsimp only
 refine zpa (fun h1=>?_) (fun h1=>?_)
 .have hlt:(j:Int)<(n:Int):=qJ h1;refine zcz (zMY (by rw[zQG];unfold ln;simp only[zoR,uF];omega)) (hrec (k-1) _ (by omega) ⟨j+1,?_,by omega⟩)
  have e1:zB .i64 (j:Int) 1=((j+1:Nat):Int):=by rw[zgK (by omega) (by omega)];rfl
  have e2:ap (zoR j) [(⟨2,1⟩:Ins)]=zoR (j+1):=by simp[ap,zoR,List.replicate_succ']
  rw[e1,e2]
 .have hge:¬ (j:Int)<(n:Int):=jZ h1;have hjn:j=n:=by omega
  subst hjn;refine zcz (zbF (zSx hn5)) ?_;have sm:∀{h:Host},SmH h->zcQ h:=fun h=>(zbI _).2 h;refine ztk (fun q s=>∃i:Nat,s=((j:Int),(zeo j i).1,(i:Int),(zeo j i).2.Memory,(zeo j i).2.Mons,(zeo j i).2.Buffer,(zeo j i).2.IoBuffer,())/\i+q=j+1) ?_ N (j+1) _ ⟨0,rfl,by omega⟩ (by omega)
  rintro q s rec2 ⟨i,rfl,hi⟩ hrec2
  dsimp only
  have hw2:zB .i64 (j:Int) 1=((j+1:Nat):Int):=by rw[zgK (by omega) (by omega)];rfl
  rw[hw2];have s0:=zSy hn5 i;refine zpa (fun h2=>?_) (fun h2=>?_)
  .have hlt2:(i:Int)<((j+1:Nat):Int):=qJ h2;have e1:zB .i64 (i:Int) 1=((i+1:Nat):Int):=by rw[zgK (by omega) (by omega)];rfl
   rw[e1];refine zcz (zbF (sm s0)) (zcz (zbF (sm (zAV s0).sm)) (zpa (fun hT=>?_) (fun hF=>?_)))
   .refine hrec2 (q-1) _ (by omega) ⟨i+1,?_,by omega⟩
    have e3:(zeo j (i+1)).1=zB .i64 (zeo j i).1 1:=by
     show (cond (zcZ (zcE (zeo j i).2) 0 0 0) (zB .i64 (zeo j i).1 1) ((zeo j i).1))=_
     rw[show zcZ (zcE (zeo j i).2) 0 0 0=true from hT];rfl
    rw[e3];rfl
   .refine hrec2 (q-1) _ (by omega) ⟨i+1,?_,by omega⟩
    have e3:(zeo j (i+1)).1=(zeo j i).1:=by
     show (cond (zcZ (zcE (zeo j i).2) 0 0 0) (zB .i64 (zeo j i).1 1) ((zeo j i).1))=_
     rw[show zcZ (zcE (zeo j i).2) 0 0 0=false from hF];rfl
    rw[e3];rfl
  .have hge2:¬ (i:Int)<((j+1:Nat):Int):=jZ h2;have hij:i=j+1:=by omega
   subst hij;have hok:=zTn hn1 hn5;unfold sOk at hok;simp only[qD,qZ]at hok;obtain ⟨k1,k2,k3,k4⟩:=hok;have hg0:SmB (zbl (zeo j (j+1)).2 0):=zSC s0 0;refine zcz (zbF ⟨sm s0,hg0⟩) (zcz k1 (zcz k2 (zcz k3 (zcz (zbF ⟨sm s0,hg0⟩) (zMX ?_)))))
   show [AV.one (CV.b (cond ((gAt (zbl (zeo j (j+1)).2 0) 0).Halted) false true))]=_
   rw[k4];rfl
theorem zxc (a0:List Int)(ho:∀c∈zk [aS .u8 a0],CVOk c):∃N,zhC N a0=some [.one (.b true)]:=by
 have hb:zbu big [aS .u8 a0]:=fun c hc=>CVB.of_ok (ho c hc);have hl:=(len0 hb);exact ⟨81,zRj (G:=fun a=>a=[.one (.b true)]) (zvx 81 a0 hl (by decide))⟩
theorem zuP:Tryz.f5.params.toList.map (zbA Tryz.prog 4)=[some (false,[.s .u8])]:=by kernel_rfl
theorem zqL:zJU 5 Tryz.f5.params.toList:=by
 refine zIS zOB zbd zru zn (zcX (by kernel_rfl)) ?_
 intro avs hg;obtain ⟨h1,h2⟩:=hg;rw[zuP]at h1;obtain ⟨v0,r0,rfl,e0,h1⟩:=zHD h1;cases List.map_eq_nil_iff.1 h1;obtain ⟨a0,rfl⟩:=zTo e0;obtain ⟨N,hN⟩:=zxc a0 h2;exact ⟨zn7,N,12,(zAG N a0).trans hN⟩
theorem zvU (H:Type)(ds:List (DataW H))(h:ds.length=Tryz.f5.params.toList.length):Rows.fnSiblingsSpec.fn H ds={ results:=[.lit (.bool true)],args:=ds }:=by
 have hl:ds.length=1:=h.trans (by kernel_rfl)
 match ds,hl with
 | [d],_=>rfl
set_option maxRecDepth 100000 in
theorem zsH (os:Os)(started:os.Started)(H:Type)(enc:TypeId×Value->H) :
 ReturnsInHanded {} Tryz.checked os 5 .any (Rows.fnSiblingsSpec.pre6 enc Tryz.prog Tryz.f5 Rows.fnSiblingsRow.domain false) (Rows.fnSiblingsSpec.post enc Tryz.prog Tryz.f5 false true false false):=by
 refine returnsInHanded_of_change_shaped (C:=Tryz.checked) own started (by kernel_rfl) Tryz.func5
  (ChangeSpec.witness6 (enc:=enc) (C:=Tryz.checked) false ⟨#[],#[.slice none 0 0],[]⟩ 8 (by kernel_rfl) (by kernel_rfl) (by kernel_rfl) (by kernel_rfl)) ?_
 intro W base args ds gs before hval hW _ hsz _ _;exact zAi (P:=Tryz.prog) zN7 zOT rfl zvU (by kernel_rfl) (B:=4) (by kernel_rfl) (by kernel_rfl) zqL W base args ds gs before hval hW hsz
end
section
open Go Go.ChangeShapes Go.WideShapes Go.ChangeAt
abbrev PP:=Tryz.pinned.checked.prog
abbrev cc:=Rows.fnSiblingsRow
abbrev ss:=Rows.fnSiblingsSpec
theorem jf1:cc.wf (OpenSpec.ofChange ss)=true:=by kernel_rfl
theorem jf2:laidOutB PP=true:=by kernel_rfl
theorem jf3:mapsRowed PP=true:=by kernel_rfl
theorem jf4:Tryz.f5.params.all (PP.readableRec ·)=true:=by kernel_rfl
theorem jf5:namedTie PP cc.named ss.vars=true:=by kernel_rfl
theorem jf6:(cc.inPlace==PP.inPlace 5)=true:=by kernel_rfl
theorem jf7:(cc.unfollowed==PP.unfollowed 5)=true:=by kernel_rfl
theorem jf8:(cc.recurses==PP.recurses 5)=true:=by kernel_rfl
theorem jf9:(cc.named==PP.varsNamed 5)=true:=by kernel_rfl
theorem zTh:(cc.lifted==PP.liftsFinal)=true:=by kernel_rfl
theorem zTi:PP.stopsHeard=true:=by kernel_rfl
theorem zTj:PP.mayEnter=true:=by kernel_rfl
theorem zTk:(cc.plainKeys==PP.plainKeys)=true:=by kernel_rfl
theorem zTl:(PP.make==some cc.make)=true:=by kernel_rfl
theorem zGH:joinedFacts PP 5 Tryz.f5 ss cc=true:=by
 unfold joinedFacts;simp only[qD]
 repeat' apply And.intro
 all_goals first|with_reducible exact jf1|with_reducible exact jf2|with_reducible exact jf3|with_reducible exact jf4|with_reducible exact jf5|with_reducible exact jf6|with_reducible exact jf7|with_reducible exact jf8|with_reducible exact jf9|with_reducible exact zTh|with_reducible exact zTi|with_reducible exact zTj|with_reducible exact zTk|with_reducible exact zTl|kernel_rfl
theorem said_fnSiblings:Rows.FnSiblingsSaid :=
 OpenClaim.holds_of_wide 5 Tryz.f5 rfl rfl rfl rfl rfl rfl rfl ⟨rfl,rfl,rfl,rfl,rfl⟩ rfl rfl rfl rfl rfl (by kernel_rfl) Tryz.func5 zGH
  (qJ (by kernel_rfl)) (by unfold Func.isWrapper;first|(rw [if_pos (by decide +kernel)];kernel_rfl)|(rw [if_neg (by decide +kernel)];exact ⟨rfl,rfl⟩))
  (fun os started H enc _=>zsH os started H enc)
end
end
end Go.Proofs.YtnnmbkjhakbicaaGreat.E
