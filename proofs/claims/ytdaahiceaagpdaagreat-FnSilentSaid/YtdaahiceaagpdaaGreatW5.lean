/- What is proved here: a part of the proof that the statement of this claim holds (several texts of wip/, laid together). -/
import Derived.Test.YtdaahiceaagpdaaGreatW4
namespace Go.Proofs.YtdaahiceaagpdaaGreat.E
open Go
set_option linter.unusedVariables false
set_option maxRecDepth 100000
set_option linter.unusedSimpArgs false
set_option linter.unusedSectionVars false
noncomputable section
def cz (l:List Slot):Nat:=l.countP fun s=>ieq s.Page 0
def zH:List Mon->Nat
 | []=>0
 | m :: l=>cz m.Outer+zH l
def bit (u:List Bool):Nat:=bif ix u 0 false then 1 else 0
theorem zxb (s:Slot)(l:List Slot):cz (s :: l)=cz l+bif ieq s.Page 0 then 1 else 0:=by
 unfold cz;rw[vD];cases ieq s.Page 0<;>rfl
theorem z9G {u:List Bool}{p:Int}(hp:0<=p)(hlt:p.toNat<u.length)(x:Bool):ix (up u p x) 0 false=bif ieq p 0 then x else ix u 0 false:=by
 unfold ix up;cases h:ieq p 0
 .have:p≠0:=by simpa [ieq] using h
  have hne:p.toNat≠0:=by omega
  simp[List.getD,jE,hne]
 .have:p=0:=by simpa [ieq] using h
  subst this;have hlt:0<u.length:=hlt;simp[List.getD,jE,hlt]
theorem zD6:∀(l:List Slot) (u u':List Bool),(∀s∈l,s.Page<12)->u.length=12->zgw l u=some u'->cz l+bit u=bit u'
 | [],u,u',_,_,h=>by cases h;simp[cz]
 | s :: l,u,u',hs,hu,h=>by
  simp only[zgw]at h;rw[zxb];cases h1:ilt s.Page 0
  .have h1:=jT h1;rw[show ilt s.Page 0=false from qG (by omega)]at h
   simp only[cF]at h;cases h2:ix u s.Page false
   .rw [h2]at h;simp only[cF]at h;have hlt:s.Page.toNat<u.length:=by have:=hs s (by simp);omega
    have ih:=zD6 l _ u' (fun t ht=>hs t (by simp[ht])) (by simpa using hu) h
    have e:bit (up u s.Page true)=bif ieq s.Page 0 then 1 else bit u:=by
     unfold bit;rw[z9G (by omega) hlt]
     cases ieq s.Page 0<;>rfl
    rw[e] at ih;cases h3:ieq s.Page 0
    .rw [h3] at ih;simp only[cF] at ih ⊢;omega
    .have h4:s.Page=0:=by simpa [ieq] using h3
     rw[h4]at h2;have:bit u=0:=by unfold bit;rw[h2];rfl
     rw[h3] at ih;simp only[cT] at ih ⊢;omega
   .rw [h2]at h;cases h
  .have h1':=qE h1;rw[h1]at h;simp only[cT]at h;have ih:=zD6 l u u' (fun t ht=>hs t (by simp[ht])) hu h
   have:ieq s.Page 0=false:=by simp[ieq];omega
   rw[this];simpa using ih
theorem zTZ:∀(l:List Mon) (u:List Bool),u.length=12->zin l u=true->zH l+bit u<=1
 | [],u,_,_=>by unfold zH bit;cases ix u 0 false<;>simp
 | m :: l,u,hu,h=>by
  simp only[zin]at h;cases h1:zdW m
  .rw [h1]at h;cases h
  .rw [h1]at h;simp only[cT]at h;cases h2:zgw m.Outer u with
   | none=>rw[h2]at h;cases h
   | some u' =>
    rw[h2]at h;have e:=zD6 _ _ _ (zEA (zmt h1)) hu h2;have ih:=zTZ l u' ((zpg _ _ _ h2).trans hu) h;simp only[zH];omega
theorem z1N:∀(l:List Slot) (b:Nat) (s:Slot),l[b]?=some s->s.Page=0->cz (l.set b noSlot)+1=cz l
 | [],b,s,h,_=>by simp at h
 | t :: l,0,s,h,hs=>by
  simp only[qH,qC]at h;subst h;rw[List.set_cons_zero,zxb,zxb];have:ieq t.Page 0=true:=by simp[ieq,hs]
  rw[this];rfl
 | t :: l,b+1,s,h,hs=>by
  rw[List.set_cons_succ,zxb,zxb];have:=z1N l b s (by simpa using h) hs
  omega
theorem zWD:∀(l:List Mon) (a:Nat) (x y:Mon),l[a]?=some x->zH (l.set a y)+cz x.Outer=zH l+cz y.Outer
 | [],a,x,y,h=>by simp at h
 | m :: l,0,x,y,h=>by
  simp only[qH,qC]at h;subst h;rw[List.set_cons_zero];simp only[zH];omega
 | m :: l,a+1,x,y,h=>by
  rw[List.set_cons_succ];have:=zWD l a x y (by simpa using h)
  simp only[zH];omega
theorem zZH {l:List Slot}(h:cz l=0):zn7 l 0=none:=by
 unfold zn7;rw[List.findIdx?_eq_none_iff];intro s hs;have:=(u2.1 h) s hs;simpa using this
theorem zL5:∀(l:List Mon) (i:Nat),zH l=0->zhL 0 l i=(-1,-1)
 | [],_,_=>rfl
 | m :: l,i,h=>by
  simp only[zH]at h;simp only[zhL];rw[zZH (by omega)]
  exact zL5 l (i+1) (by omega)
theorem zZI {l:List Slot}{k:Nat}(h:zn7 l 0=some k):∃s,l[k]?=some s/\s.Page=0:=by
 unfold zn7 at h;rw[uW]at h;obtain ⟨hlt,h1,_⟩:=h;exact ⟨l[k],qB hlt,by simpa [ieq] using h1⟩
theorem zGu:∀(l:List Mon) (i:Nat),zhL 0 l i=(-1,-1)\/∃a b x s,zhL 0 l i=(((i+a:Nat):Int),((b:Nat):Int))/\l[a]?=some x/\x.Outer[b]?=some s/\s.Page=0
 | [],_=>.inl rfl
 | m :: l,i=>by
  simp only[zhL];cases h:zn7 m.Outer 0 with
  | none =>
   rcases zGu l (i+1) with h1|⟨a,b,x,s,h1,h2,h3,h4⟩
   .exact .inl h1
   .refine .inr ⟨a+1,b,x,s,?_,by simpa using h2,h3,h4⟩
    have e:i+1+a=i+(a+1):=by omega
    rw[h1,e]
  | some k =>
   obtain ⟨s,h1,h2⟩:=zZI h;exact .inr ⟨0,k,m,s,rfl,rfl,h1,h2⟩
def Fit (h:Host):Prop:=Shape h/\0<h.Memory.length/\zH h.Mons<=1
theorem zGn {h:Host}(hm:0<h.Memory.length)(ho:ilt (zbw h 0).1 0=true):inb 0 (ln (zb3 h))=true:=by
 unfold zb3;obtain ⟨n,hn⟩:∃n,h.Memory.length=n+1:=⟨h.Memory.length-1,by omega⟩
 rw[hn];simp only[zwp];rw[show ilt (zbw h ((0:Nat):Int)).1 0=true from ho]
 exact qJ (by simp only[cT,ln,qW];omega)
theorem zZN {h:Host}(hm:0<h.Memory.length)(h0:ieq (ln (zb3 h)) 0=true):ilt (zbw h 0).1 0=false:=by
 cases ho:ilt (zbw h 0).1 0
 .rfl
 .have h1:=qE (zGn hm ho);have h2:ln (zb3 h)=0:=by simpa [ieq] using h0
  omega
def zcX (h:Host):Host:=bif ieq (ln (zb3 h)) 0 then zdk h (zbw h 0).1 (zbw h 0).2 else h
structure Room (h r:Host):Prop where
 shape:Shape r
 free:inb 0 (ln (zb3 r))=true
 len:r.Mons.length=h.Mons.length
 outer:∀m,(ix r.Mons m mZ).Outer.length=8\/True
theorem z2I {h:Host}(hf:Fit h)(h0:ieq (ln (zb3 h)) 0=true):∃(a b:Nat) (x:Mon) (s:Slot),zbw h 0=((a:Int),(b:Int))/\h.Mons[a]?=some x/\x.Outer[b]?=some s/\s.Page=0:=by
 have h1:=zZN hf.2.1 h0;have e:zbw h 0=zhL 0 h.Mons 0:=rfl;rcases zGu h.Mons 0 with h2|⟨a,b,x,s,h2,h3⟩
 .rw [e,h2]at h1;cases h1
 .exact ⟨a,b,x,s,by rw[e,h2,jZ],h3⟩
theorem zEt {h:Host}(hf:Fit h)(h0:ieq (ln (zb3 h)) 0=true):hasB (zbw h 0).1 (ln h.Mons)=true/\hasB (zbw h 0).2 8=true:=by
 obtain ⟨a,b,x,s,h1,h2,h3,h4⟩:=z2I hf h0;rw[h1];have ha:=(qA.1 h2).1;have hb:=(qA.1 h3).1;have hx:=hf.1.2 x (qL h2);refine ⟨qJ (by simp only[ln];omega),qJ ?_⟩
 have:=hx.1
 show 0<=(b:Int)/\(b:Int)<8
 omega
theorem room {h:Host}(hf:Fit h):Room h (zcX h):=by
 unfold zcX;cases h0:ieq (ln (zb3 h)) 0
 .refine ⟨hf.1,qJ ?_,rfl,fun _=>.inr trivial⟩;have:ln (zb3 h)≠0:=by simpa [ieq] using h0
  show 0<=(0:Int)/\(0:Int)<ln (zb3 h)
  simp only[ln] at *;omega
 .obtain ⟨hm,hp⟩:=zEt hf h0;obtain ⟨a,b,x,s,h1,h2,h3,h4⟩:=z2I hf h0;simp only[cT];rw[h1]at hm hp ⊢;have ha:=(qA.1 h2).1;have hb:=(qA.1 h3).1;have hxa:ix h.Mons (a:Int) mZ=x:=by rw[zbg ha];exact (qA.1 h2).2
  have hmons:=(zf9 (zeA h (a:Int) (b:Int)) (a:Int) (b:Int) noSlot).1;have ex:ix (zeA h (a:Int) (b:Int)).Mons (a:Int) mZ={ x with Out:=up x.Out (b:Int) (zcd h.Memory (ix x.Outer (b:Int) sZ).Page) }:=by
   unfold zeA;rw[zdN ha,hxa]
  obtain ⟨y,hM,hy⟩:∃y,(zdk h (a:Int) (b:Int)).Mons=h.Mons.set a y/\y.Outer=x.Outer.set b noSlot:=by
   unfold zdk;rw[hmons,ex];unfold zeA;rw[zv8];exact ⟨_,by simp[up];rfl,by simp[up]⟩
  have hz:zH (zdk h (a:Int) (b:Int)).Mons=0:=by
   have e1:=zWD h.Mons a x y h2;have e2:=z1N x.Outer b s h3 h4;have e3:=hf.2.2;rw[hM];rw[hy] at e1;omega
  have hmem:(zdk h (a:Int) (b:Int)).Memory=h.Memory:=(zf9 (zeA h (a:Int) (b:Int)) (a:Int) (b:Int) noSlot).2;refine ⟨zMt hf.1 hm,zGn (by rw[hmem];exact hf.2.1) ?_,by rw[hM];simp,fun _=>.inr trivial⟩
  have e:zbw (zdk h (a:Int) (b:Int)) 0=zhL 0 (zdk h (a:Int) (b:Int)).Mons 0:=rfl;rw[e,zL5 _ _ hz];rfl
theorem zVY {m:List (List Int)}{p:Int}{c:List Int}(h:SmM m)(hc:c.length<=1048576):SmM (zhl m p c):=by
 unfold zhl;cases hasB p (ln m)
 .exact h
 .cases zca c
  .exact h
  .exact zMB h hc
def landing (r:Host)(m p to:Int):Host:={ r with Memory:=zhl r.Memory to (ix (ix r.Mons m mZ).Out p []),Mons:=up r.Mons m { ix r.Mons m mZ with Out:=up (ix r.Mons m mZ).Out p [] } }
def zeJ (r:Host)(m p to:Int):Host:=zcb (landing r m p to) m p ⟨to,3⟩
def fetched (h:Host)(m p:Int):Host:=zeJ (zcX h) m p (ix (zb3 (zcX h)) 0 0)
theorem zV1 {r:Host}{m p:Int}(hr:Shape r)(hm:hasB m (ln r.Mons)=true)(hp:hasB p 8=true):(ix (ix r.Mons m mZ).Out p []).length<=1048576:=by
 obtain ⟨g1,g2⟩:=zcg hr hm;exact g1.2.1.2 _ (zbu (zdj g2.2.1 hp) _)
theorem zsi {r:Host}{m p to:Int}(hr:Shape r)(hm:hasB m (ln r.Mons)=true)(hp:hasB p 8=true):Shape (landing r m p to):=by
 obtain ⟨g1,g2⟩:=zcg hr hm;exact zQW (h:={ r with Mons:=up r.Mons m { ix r.Mons m mZ with Out:=up (ix r.Mons m mZ).Out p [] } }) (zib (x:={ ix r.Mons m mZ with Out:=up (ix r.Mons m mZ).Out p [] }) hr ⟨g1.1,zMB g1.2.1 (by simp),g1.2.2⟩ ⟨g2.1,by simpa using g2.2.1,g2.2.2⟩) (zVY hr.1.1 (zV1 hr hm hp))
theorem zSu {r:Host}{m p to:Int}(hr:Shape r)(hm:hasB m (ln r.Mons)=true)(hp:hasB p 8=true):Shape (zeJ r m p to):=zsj (zeh hm) (zsi hr hm hp)
theorem zpL {h:Host}(hf:Fit h){m:Int}(hm:hasB m (ln h.Mons)=true):hasB m (ln (zcX h).Mons)=true:=by
 rw[ln,(room hf).len];exact hm
theorem zjF {h:Host}{m p:Int}(hf:Fit h)(hm:hasB m (ln h.Mons)=true)(hp:hasB p 8=true):Shape (fetched h m p)/\hasB m (ln (fetched h m p).Mons)=true :=
 ⟨zSu (room hf).shape (zpL hf hm) hp,zGo (zeh (zpL hf hm))⟩
@[simp] abbrev zv2 (h:Host)(m p:Int):Bool:=pc (Fit h/\hasB m (ln h.Mons)=true/\hasB p 8=true)
@[simp] abbrev zyf (h:Host)(m p:Int):Host:=fetched h m p
def zwy:List AV->Option (Bool×List AV)
 | [.agg [.s (.sl .int) b,.s .mon c,.s .entry d,.s .entry e],.one (.i .i64 f),.one (.i .i64 g)]=>some ((zv2 (⟨b,c,d,e⟩:Host) f g),[aH (zyf (⟨b,c,d,e⟩:Host) f g)])
 | _=>none
def zBK (N:Nat)(a0:Host)(a1 a2:Int):OA:=
 let y6:=(ix (ze3 a0) 0 0);let y2:=(ix a0.Mons a1 zf);let y0:=(zzv a0 (zgl a0 0) (zhO a0 0));let y5:=(ix (ze3 y0) 0 0);let y1:=(ix y0.Mons a1 zf); (oN (zlF a0) (cond (ieq (ln (ze3 a0)) 0) (oN (zkb a0 0) (oN (zsZ a0 (zgl a0 0) (zhO a0 0)) (oN (zlF y0) (oN (inb 0 (ln (ze3 y0))) (oN (inb a1 (ln y0.Mons)) (oN (inb a2 (ln y1.Out)) (oN (zkN y0.Memory y5 (ix y1.Out a2 [])) (oN (inb a1 (ln y0.Mons)) (oN (inb a2 (ln y1.Out)) (share (up y0.Mons a1 ({ y1 with Out:=(up y1.Out a2 []) }:Mon)) (fun x4=>let y3:=({ y0 with Memory:=(zjj y0.Memory y5 (ix y1.Out a2 [])),Mons:=x4 }:Host); (oN (zeU y3 a1 a2 (⟨y5,3⟩:Slot)) (some [(aH (zgN y3 a1 a2 (⟨y5,3⟩:Slot)))]))))))))))))) (oN (zlF a0) (oN (inb 0 (ln (ze3 a0))) (oN (inb a1 (ln a0.Mons)) (oN (inb a2 (ln y2.Out)) (oN (zkN a0.Memory y6 (ix y2.Out a2 [])) (oN (inb a1 (ln a0.Mons)) (oN (inb a2 (ln y2.Out)) (share (up a0.Mons a1 ({ y2 with Out:=(up y2.Out a2 []) }:Mon)) (fun x4=>let y4:=({ a0 with Memory:=(zjj a0.Memory y6 (ix y2.Out a2 [])),Mons:=x4 }:Host); (oN (zeU y4 a1 a2 (⟨y6,3⟩:Slot)) (some [(aH (zgN y4 a1 a2 (⟨y6,3⟩:Slot)))])))))))))))))
theorem z0d (N:Nat)(a0:Host)(a1 a2:Int):zEh (cQ zqi zow z0k z0W) (zq []) N 12 159 [true,true,true,true,false,false] 1 1 [[0],[1],[2],[4],[7]] .mon [aH a0,aI a1,aI a2]=zBK N a0 a1 a2:=by kernel_rfl
theorem zXp (a0:Host)(a1 a2:Int)(hb:zbN big [aH a0,aI a1,aI a2])(hc:zv2 a0 a1 a2=true):∃N,zBK N a0 a1 a2=some [aH (zyf a0 a1 a2)]:=by
 obtain ⟨hf,hm,hp⟩:=zF.1 hc;have tail:∀r,Shape r->inb 0 (ln (zb3 r))=true->hasB a1 (ln r.Mons)=true->(cond (zlF r) (cond (inb 0 (ln (ze3 r))) (cond (inb a1 (ln r.Mons)) (cond (inb a2 (ln (ix r.Mons a1 zf).Out)) (cond (zkN r.Memory (ix (ze3 r) 0 0) (ix (ix r.Mons a1 zf).Out a2 [])) (cond (inb a1 (ln r.Mons)) (cond (inb a2 (ln (ix r.Mons a1 zf).Out)) (share (up r.Mons a1 ({ (ix r.Mons a1 zf) with Out:=(up (ix r.Mons a1 zf).Out a2 []) }:Mon)) (fun x4=>(cond (zeU ({ r with Memory:=(zjj r.Memory (ix (ze3 r) 0 0) (ix (ix r.Mons a1 zf).Out a2 [])),Mons:=x4 }:Host) a1 a2 (⟨(ix (ze3 r) 0 0),3⟩:Slot)) (some [(AV.agg (zbc (zgN ({ r with Memory:=(zjj r.Memory (ix (ze3 r) 0 0) (ix (ix r.Mons a1 zf).Out a2 [])),Mons:=x4 }:Host) a1 a2 (⟨(ix (ze3 r) 0 0),3⟩:Slot))))]) none))) none) none) none) none) none) none) none)=some [AV.agg (zbc (zeJ r a1 a2 (ix (zb3 r) 0 0)))]:=by
  intro r hr hfree hrm;obtain ⟨g1,g2⟩:=zcg hr hrm;have hL:=zsi (to:=ix (zb3 r) 0 0) hr hrm hp;obtain ⟨k,rfl,hk⟩:=zdH (n:=r.Mons.length) hrm;refine must (zbe hr.1.1.1) (must hfree (must (zx hrm) (must (zx (zdj g2.2.1 hp)) (must (zbe ⟨hr.1.1,zV1 hr hrm hp⟩) (must (zx hrm) (must (zx (zdj g2.2.1 hp)) (shr (must (zbe ⟨(zK _).2 hL.1,zeh hrm,?_,?_⟩) rfl))))))))
  .simp only [zdN hk];exact zdj g2.1 hp
  .simp only [zdN hk];exact vH g2.2.2.2
 have hR:=room hf;have hrm:=zpL hf hm;refine ⟨0,?_⟩;unfold zBK zyf fetched oN
 conv=>zeta
 refine must (zbe hf.1.1.1.1) ?_;cases h0:ieq (ln (ze3 a0)) 0
 .have er:zcX a0=a0:=by unfold zcX;rw[show ieq (ln (zb3 a0)) 0=false from h0];rfl
  rw[er]at hR hrm ⊢;exact tail a0 hR.shape hR.free hrm
 .obtain ⟨o1,o2⟩:=zEt hf h0;have er:zcX a0=zdk a0 (zbw a0 0).1 (zbw a0 0).2:=by unfold zcX;rw[show ieq (ln (zb3 a0)) 0=true from h0];rfl
  rw[er]at hR hrm ⊢;exact must rfl (must rfl (must (zbe ⟨hf.1,o1,o2⟩) (tail _ hR.shape hR.free hrm)))
theorem zRv:zdY Tryz.prog 159 [true,true,true,true,false,false] (some (1,1,[[0],[1],[2],[4],[7]])) zwy:=by
 refine zli (kt:=.mon) (zc7 zg6 zk zPe zPm) (zem (by kernel_rfl)) (by kernel_rfl) ?_
 intro avs rs hl hr h;have hb:=zih hr;unfold zwy at h;split at h
 .obtain ⟨hc,rfl⟩:=zdQ h;obtain ⟨N,hN⟩:=zXp _ _ _ (by exact hb) hc
  exact ⟨⟨_,rfl⟩,rfl,_,N,12,(z0d N _ _ _ ).trans hN⟩
 .cases h
@[simp] abbrev zrT (h:Host):Bool:=pc (Shape h/\hasB (zbw h 0).1 (ln h.Mons)=true/\hasB (zbw h 0).2 8=true)
@[simp] abbrev zrU (h:Host):Host:=zdk h (zbw h 0).1 (zbw h 0).2
def zne:List CV->List AV->Option (Bool×List CV×List AV)
 | [.s (.sl .int) b,.s .mon c,.s .entry d,.s .entry e],[]=>some ((zrT (⟨b,c,d,e⟩:Host)),zbc (zrU (⟨b,c,d,e⟩:Host)),[])
 | _,_=>none
def zrJ (N:Nat)(c:Host)  : OA :=
 (oN (zj7 c 0) (oN (zIi c (zgj c 0) (zhH c 0)) (some [(aH (zIj c (zgj c 0) (zhH c 0)))])))
theorem zO9 (N:Nat)(c:Host)  : zgz (cQ zqi zow z0k z0W) (zq []) N 12 207 [true,true,true,true] (zbc c) []=zrJ N c:=by kernel_rfl
theorem zLG (c:Host)(hb:zbN big (.agg (zbc c) :: []))(hc:zrT c=true):∃N,zrJ N c=some (.agg (zbc (zrU c)) :: []):=by
 have hs:=zF.1 hc;refine ⟨0,?_⟩;unfold zrJ oN;exact must rfl (must (zbe hs) rfl)
theorem zEN:zdJ Tryz.prog 207 [true,true,true,true] zne:=by
 refine zb5 (zc7 zg6 zk zPe zPm) (zem (by kernel_rfl)) ?_
 intro cs avs cs' rs hl hr h;have hb:=zcu hr;unfold zne at h;split at h
 .obtain ⟨hc,rfl,rfl⟩:=zcT h;obtain ⟨N,hN⟩:=zLG _ (by exact hb) hc
  exact ⟨rfl,_,N,12,(zO9 N _ ).trans hN⟩
 .cases h
def z4Y:zdw:=[(207,([true,true,true,true],zne))]++z0k
theorem zYG:zct z4Y:=zel zPe (by
 intro x hx;simp only[qI,qX,or_false]at hx;rcases hx with rfl
 .exact zEN)
def zV9:zeX:=[(159,([true,true,true,true,false,false],(some (1,1,[[0],[1],[2],[4],[7]])),zwy))]++z0W
theorem zED:zdZ zV9:=zp9 zPm (by
 intro x hx;simp only[qI,qX,or_false]at hx;rcases hx with rfl
 .exact zRv)
@[simp] abbrev zCp (h:Host)(m p:Int):Bool:=pc (Fit h/\hasB m (ln h.Mons)=true/\hasB p 8=true)
@[simp] abbrev zvb (h:Host)(m p:Int):Host:=fetched h m p
theorem zZh {r:Host}{m p to:Int}(hr:Shape r)(hm:hasB m (ln r.Mons)=true):zy3 { landing r m p to with Mons:=up (landing r m p to).Mons m { ix (landing r m p to).Mons m mZ with Outer:=up (ix (landing r m p to).Mons m mZ).Outer p ⟨to,3⟩ } } m p (ix (ix (landing r m p to).Mons m mZ).Outer p sZ)=zeJ r m p to:=by
 obtain ⟨g1,g2⟩:=zcg hr hm;obtain ⟨k,rfl,hk⟩:=zdH (n:=r.Mons.length) hm;refine zzx (h:=landing r (k:Int) p to) (by simpa [landing] using hk) ?_
 unfold landing;simp only[zdN hk];exact g2.2.2.2
theorem zXX {r:Host}{m p to:Int}(hr:Shape r)(hm:hasB m (ln r.Mons)=true)(hp:hasB p 8=true):Shape { landing r m p to with Mons:=up (landing r m p to).Mons m { ix (landing r m p to).Mons m mZ with Outer:=up (ix (landing r m p to).Mons m mZ).Outer p ⟨to,3⟩ } }:=by
 have hL:=zsi (to:=to) hr hm hp;obtain ⟨q1,q2⟩:=zcg hL (zeh hm);exact zib hL ⟨by simpa using q1.1,q1.2⟩ ⟨by simpa using q2.1,q2.2⟩
def zt1:List CV->List AV->Option (Bool×List CV×List AV)
 | [.s (.sl .int) b,.s .mon c,.s .entry d,.s .entry e],[.one (.i .i64 f),.one (.i .i64 g)]=>some ((zCp (⟨b,c,d,e⟩:Host) f g),zbc (zvb (⟨b,c,d,e⟩:Host) f g),[])
 | _,_=>none
def zBp (N:Nat)(c:Host)(a0 a1:Int):OA:=
 let y8:=(ix (zfE c) 0 0);let y6:=(zrU c);let y7:=(ix (zfE y6) 0 0);let y1:=(ix c.Mons a0 zf);let y0:=(ix y6.Mons a0 zf); (oN (zlj c) (cond (ieq (ln (zfE c)) 0) (oN (zrT c) (oN (inb a0 (ln y6.Mons)) (oN (zlj y6) (oN (inb 0 (ln (zfE y6))) (oN (inb a1 (ln y0.Out)) (oN (zkx y6.Memory y7 (ix y0.Out a1 [])) (oN (inb a1 (ln y0.Out)) (share (up y6.Mons a0 ({ y0 with Out:=(up y0.Out a1 []) }:Mon)) (fun x4=>let y2:=(ix x4 a0 zf);let y9:=(ix y2.Outer a1 zN); (oN (inb a1 (ln y2.Outer)) (oN (inb a1 (ln y2.Outer)) (share (up x4 a0 ({ y2 with Outer:=(up y2.Outer a1 (⟨y7,3⟩:Slot)) }:Mon)) (fun x5=>let y4:=({ y6 with Memory:=(zi9 y6.Memory y7 (ix y0.Out a1 [])),Mons:=x5 }:Host); (oN (zeb y4 a0 a1 y9) (some [(aH (zec y4 a0 a1 y9))]))))))))))))))) (oN (inb a0 (ln c.Mons)) (oN (zlj c) (oN (inb 0 (ln (zfE c))) (oN (inb a1 (ln y1.Out)) (oN (zkx c.Memory y8 (ix y1.Out a1 [])) (oN (inb a1 (ln y1.Out)) (share (up c.Mons a0 ({ y1 with Out:=(up y1.Out a1 []) }:Mon)) (fun x4=>let y3:=(ix x4 a0 zf);let y10:=(ix y3.Outer a1 zN); (oN (inb a1 (ln y3.Outer)) (oN (inb a1 (ln y3.Outer)) (share (up x4 a0 ({ y3 with Outer:=(up y3.Outer a1 (⟨y8,3⟩:Slot)) }:Mon)) (fun x5=>let y5:=({ c with Memory:=(zi9 c.Memory y8 (ix y1.Out a1 [])),Mons:=x5 }:Host); (oN (zeb y5 a0 a1 y10) (some [(aH (zec y5 a0 a1 y10))]))))))))))))))))
theorem z0c (N:Nat)(c:Host)(a0 a1:Int):zgz (cQ zqi zow z4Y zV9) (zq []) N 12 150 [true,true,true,true] (zbc c) [aI a0,aI a1]=zBp N c a0 a1:=by kernel_rfl
theorem zXa (c:Host)(a0 a1:Int)(hb:zbN big (.agg (zbc c) :: [aI a0,aI a1]))(hc:zCp c a0 a1=true):∃N,zBp N c a0 a1=some (.agg (zbc (zvb c a0 a1)) :: []):=by
 obtain ⟨hf,hm,hp⟩:=zF.1 hc;have tail:∀r,Shape r->inb 0 (ln (zb3 r))=true->hasB a0 (ln r.Mons)=true->(cond (inb a0 (ln r.Mons)) (cond (zlj r) (cond (inb 0 (ln (zfE r))) (cond (inb a1 (ln (ix r.Mons a0 zf).Out)) (cond (zkx r.Memory (ix (zfE r) 0 0) (ix (ix r.Mons a0 zf).Out a1 [])) (cond (inb a1 (ln (ix r.Mons a0 zf).Out)) (share (up r.Mons a0 ({ (ix r.Mons a0 zf) with Out:=(up (ix r.Mons a0 zf).Out a1 []) }:Mon)) (fun x4=>(cond (inb a1 (ln (ix x4 a0 zf).Outer)) (cond (inb a1 (ln (ix x4 a0 zf).Outer)) (share (up x4 a0 ({ (ix x4 a0 zf) with Outer:=(up (ix x4 a0 zf).Outer a1 (⟨(ix (zfE r) 0 0),3⟩:Slot)) }:Mon)) (fun x5=>(cond (zeb ({ r with Memory:=(zi9 r.Memory (ix (zfE r) 0 0) (ix (ix r.Mons a0 zf).Out a1 [])),Mons:=x5 }:Host) a0 a1 (ix (ix x4 a0 zf).Outer a1 zN)) (some [(AV.agg (zbc (zec ({ r with Memory:=(zi9 r.Memory (ix (zfE r) 0 0) (ix (ix r.Mons a0 zf).Out a1 [])),Mons:=x5 }:Host) a0 a1 (ix (ix x4 a0 zf).Outer a1 zN))))]) none))) none) none))) none) none) none) none) none) none)=some [AV.agg (zbc (zeJ r a0 a1 (ix (zb3 r) 0 0)))]:=by
  intro r hr hfree hrm;obtain ⟨g1,g2⟩:=zcg hr hrm;have hL:=zXX (to:=ix (zb3 r) 0 0) hr hrm hp;have hE:=zZh (p:=a1) (to:=ix (zb3 r) 0 0) hr hrm;obtain ⟨k,rfl,hk⟩:=zdH (n:=r.Mons.length) hrm;have hh:∀(x y:Mon),hasB (k:Int) (ln (up (up r.Mons (k:Int) x) (k:Int) y))=true:=fun x y=>by simpa [ln] using hrm
  have hi:inb a1 (ln (ix (up r.Mons (k:Int) { ix r.Mons (k:Int) mZ with Out:=up (ix r.Mons (k:Int) mZ).Out a1 [] }) (k:Int) mZ).Outer)=true:=by
   rw[zdN hk];exact zx (zdj g2.1 hp)
  refine must (zx hrm) (must (zbe hr.1.1.1) (must hfree (must (zx (zdj g2.2.1 hp)) (must (zbe ⟨hr.1.1,zV1 hr hrm hp⟩) (must (zx (zdj g2.2.1 hp)) (shr (must hi (must hi (shr (must (zbe ⟨hL,hh _ _⟩) ?_))))))))));exact congrArg (fun x=>some [AV.agg (zbc x)]) hE
 have hR:=room hf;have hrm:=zpL hf hm;refine ⟨0,?_⟩;unfold zBp zvb fetched oN
 conv=>zeta
 refine must (zbe hf.1.1.1.1) ?_;cases h0:ieq (ln (zfE c)) 0
 .have er:zcX c=c:=by unfold zcX;rw[show ieq (ln (zb3 c)) 0=false from h0];rfl
  rw[er]at hR hrm ⊢;exact tail c hR.shape hR.free hrm
 .obtain ⟨o1,o2⟩:=zEt hf h0;have er:zcX c=zdk c (zbw c 0).1 (zbw c 0).2:=by unfold zcX;rw[show ieq (ln (zb3 c)) 0=true from h0];rfl
  rw[er]at hR hrm ⊢;exact must rfl (must (zbe ⟨hf.1,o1,o2⟩) (tail _ hR.shape hR.free hrm))
theorem zRh:zdJ Tryz.prog 150 [true,true,true,true] zt1:=by
 refine zb5 (zc7 zg6 zk zYG zED) (zem (by kernel_rfl)) ?_
 intro cs avs cs' rs hl hr h;have hb:=zcu hr;unfold zt1 at h;split at h
 .obtain ⟨hc,rfl,rfl⟩:=zcT h;obtain ⟨N,hN⟩:=zXa _ _ _ (by exact hb) hc
  exact ⟨rfl,_,N,12,(z0c N _ _ _ ).trans hN⟩
 .cases h
def z0l:zdw:=[(150,([true,true,true,true],zt1))]++z4Y
theorem zPf:zct z0l:=zel zYG (by
 intro x hx;simp only[qI,qX,or_false]at hx;rcases hx with rfl
 .exact zRh)
def zbt (h:Host)(m p:Int):Host:={ h with Mons:=up h.Mons m { ix h.Mons m mZ with Dirty:=up (ix h.Mons m mZ).Dirty p true } }
def opened (h:Host)(m p:Int):Host:=bif ieq (wand .i64 (ix (ix h.Mons m mZ).Outer p sZ).Rights 2) 0 then zcb h m p ⟨(ix (ix h.Mons m mZ).Outer p sZ).Page,3⟩ else h
def zjb (h:Host)(m p n:Int):Host:=bif ieq (wand .i64 n 2) 0 then h else opened (zbt h m p) m p
def mended (h:Host)(m p n:Int):Host:=bif ieq (ix (ix h.Mons m mZ).Outer p sZ).Page (-1) then zjb (fetched h m p) m p n else zjb h m p n
theorem z8g {r:Int}(h0:0<=r)(h3:r<=3):enough r 2 = !ieq (wand .i64 r 2) 0:=by
 have:r=0\/r=1\/r=2\/r=3:=by omega
 rcases this with rfl|rfl|rfl|rfl<;>rfl
structure SlotFit (s:Slot):Prop where
 no:zcI s noSlot=ieq s.Page (-1)
 lo:0<=s.Rights
 hi:s.Rights<=3
theorem z0P {s:Slot}{n:Int}(h:zdC s n=true):SlotFit s:=by
 refine ⟨zQY h,?_,?_⟩<;>unfold zdC at h<;>cases h1:zcI s noSlot
 .rw [h1]at h;simp only[cF,zc1]at h;have:=(zfh.1 h.2.2).1;omega
 .unfold zcI at h1;rw[qD]at h1;have:s.Rights=0:=qE h1.2;omega
 .rw [h1]at h;simp only[cF,zc1]at h;have:=(zfh.1 h.2.2).2;omega
 .unfold zcI at h1;rw[qD]at h1;have:s.Rights=0:=qE h1.2;omega
theorem zmX {h:Host}{m p:Int}(hs:Shape h)(hm:hasB m (ln h.Mons)=true):Shape (zbt h m p):=by
 obtain ⟨g1,g2⟩:=zcg hs hm;exact zib hs ⟨g1.1,g1.2.1,by simpa using g1.2.2.1,g1.2.2.2⟩ ⟨g2.1,g2.2.1,by simpa using g2.2.2.1,g2.2.2.2⟩
theorem zVR {h:Host}{m p:Int}(hs:Shape h)(hm:hasB m (ln h.Mons)=true):Shape (opened h m p)/\hasB m (ln (opened h m p).Mons)=true:=by
 unfold opened;cases ieq (wand .i64 (ix (ix h.Mons m mZ).Outer p sZ).Rights 2) 0
 .exact ⟨hs,hm⟩
 .exact ⟨zsj hm hs,zGo hm⟩
theorem zG0 {h:Host}{m p n:Int}(hs:Shape h)(hm:hasB m (ln h.Mons)=true):Shape (zjb h m p n)/\hasB m (ln (zjb h m p n).Mons)=true:=by
 unfold zjb;cases ieq (wand .i64 n 2) 0
 .exact zVR (zmX hs hm) (zeh hm)
 .exact ⟨hs,hm⟩
theorem zuz {h:Host}{m p n:Int}(hf:Fit h)(hm:hasB m (ln h.Mons)=true)(hp:hasB p 8=true):Shape (mended h m p n)/\hasB m (ln (mended h m p n).Mons)=true:=by
 unfold mended;cases ieq (ix (ix h.Mons m mZ).Outer p sZ).Page (-1)
 .exact zG0 hf.1 hm
 .obtain ⟨h1,h2⟩:=zjF hf hm hp;exact zG0 h1 h2
theorem zTG {h:Host}{m p:Int}(hf:Fit h)(hm:hasB m (ln h.Mons)=true)(hp:hasB p 8=true):(ix (ix (fetched h m p).Mons m mZ).Outer p sZ).Rights=3:=by
 have hR:=room hf;have hrm:=zpL hf hm;obtain ⟨g1,g2⟩:=zcg hR.shape hrm;obtain ⟨k,rfl,hk⟩:=zdH (n:=(zcX h).Mons.length) hrm;obtain ⟨q,rfl,hq⟩:=zdH (n:=8) hp;unfold fetched zeJ;rw[(zf9 _ _ _ _).1];have hk':k<(landing (zcX h) (k:Int) (q:Int) (ix (zb3 (zcX h)) 0 0)).Mons.length:=by simpa [landing] using hk
 rw[zdN hk'];have ho:q<(ix (landing (zcX h) (k:Int) (q:Int) (ix (zb3 (zcX h)) 0 0)).Mons (k:Int) mZ).Outer.length:=by
  unfold landing;rw[zdN hk]
  show q<(ix (zcX h).Mons (k:Int) mZ).Outer.length
  rw[g2.1];exact hq
 show (ix (up (ix (landing (zcX h) (k:Int) (q:Int) (ix (zb3 (zcX h)) 0 0)).Mons (k:Int) mZ).Outer (q:Int) ⟨_,3⟩) (q:Int) sZ).Rights=3
 rw[zdN ho]
def zS9 (h:Host)(m p n:Int):Prop:=Fit h/\hasB m (ln h.Mons)=true/\hasB p 8=true/\(n=1\/n=2)/\SlotFit (ix (ix h.Mons m mZ).Outer p sZ)
@[simp] abbrev zmJ (h:Host)(m p n:Int):Bool:=pc (zS9 h m p n)
@[simp] abbrev znO (h:Host)(m p n:Int):Host:=mended h m p n
def zr6:List AV->Option (Bool×List AV)
 | [.agg [.s (.sl .int) b,.s .mon c,.s .entry d,.s .entry e],.one (.i .i64 f),.one (.i .i64 g),.one (.i .i64 h)]=>some ((zmJ (⟨b,c,d,e⟩:Host) f g h),[aH (znO (⟨b,c,d,e⟩:Host) f g h)])
 | _=>none
def zv9 (N:Nat)(a0:Host)(a1 a2 a3:Int):OA:=
 let y3:=(zyf a0 a1 a2);let y6:=(ix y3.Mons a1 zf);let y0:=(ix a0.Mons a1 zf);let y7:=(ix y0.Outer a2 zN); (oN (inb a1 (ln a0.Mons)) (oN (inb a2 (ln y0.Outer)) (oN zcq (cond (cond (ieq y7.Page zbs.Page) (ieq y7.Rights zbs.Rights) false) (oN (zv2 a0 a1 a2) (cond (ieq (wand .i64 a3 2) 0) (some [(aH y3)]) (oN (inb a1 (ln y3.Mons)) (oN (inb a2 (ln y6.Dirty)) (share (up y3.Mons a1 ({ y6 with Dirty:=(up y6.Dirty a2 true) }:Mon)) (fun x5=>let y8:=(ix x5 a1 zf).Outer;let y4:=({ y3 with Mons:=x5 }:Host);let y1:=(ix y8 a2 zN);let y9:=({ y1 with Rights:=3 }:Slot); (oN (inb a1 (ln x5)) (oN (inb a2 (ln y8)) (cond (ieq (wand .i64 y1.Rights 2) 0) (oN (zeU y4 a1 a2 y9) (some [(aH (zgN y4 a1 a2 y9))])) (some [(aH y4)])))))))))) (cond (ieq (wand .i64 a3 2) 0) (some [(aH a0)]) (oN (inb a1 (ln a0.Mons)) (oN (inb a2 (ln y0.Dirty)) (share (up a0.Mons a1 ({ y0 with Dirty:=(up y0.Dirty a2 true) }:Mon)) (fun x5=>let y10:=(ix x5 a1 zf).Outer;let y5:=({ a0 with Mons:=x5 }:Host);let y2:=(ix y10 a2 zN);let y11:=({ y2 with Rights:=3 }:Slot); (oN (inb a1 (ln x5)) (oN (inb a2 (ln y10)) (cond (ieq (wand .i64 y2.Rights 2) 0) (oN (zeU y5 a1 a2 y11) (some [(aH (zgN y5 a1 a2 y11))])) (some [(aH y5)])))))))))))))
theorem zVm (N:Nat)(a0:Host)(a1 a2 a3:Int):zEh (cQ zqi zow z0l zV9) (zq []) N 12 102 [true,true,true,true,false,false,false] 1 1 [[0],[1],[2],[4],[7]] .mon [aH a0,aI a1,aI a2,aI a3]=zv9 N a0 a1 a2 a3:=by kernel_rfl
theorem zSk (a0:Host)(a1 a2 a3:Int)(hb:zbN big [aH a0,aI a1,aI a2,aI a3])(hc:zmJ a0 a1 a2 a3=true):∃N,zv9 N a0 a1 a2 a3=some [aH (znO a0 a1 a2 a3)]:=by
 obtain ⟨hf,hm,hp,hn,hs⟩:=zF.1 hc;obtain ⟨g1,g2⟩:=zcg hf.1 hm;have tail:∀r,Shape r->hasB a1 (ln r.Mons)=true->(cond (ieq (wand .i64 a3 2) 0) (some [(AV.agg (zbc r))]) (cond (inb a1 (ln r.Mons)) (cond (inb a2 (ln (ix r.Mons a1 zf).Dirty)) (share (up r.Mons a1 ({ (ix r.Mons a1 zf) with Dirty:=(up (ix r.Mons a1 zf).Dirty a2 true) }:Mon)) (fun x5=>(cond (inb a1 (ln x5)) (cond (inb a2 (ln (ix x5 a1 zf).Outer)) (cond (ieq (wand .i64 (ix (ix x5 a1 zf).Outer a2 zN).Rights 2) 0) (cond (zeU ({ r with Mons:=x5 }:Host) a1 a2 ({ (ix (ix x5 a1 zf).Outer a2 zN) with Rights:=3 }:Slot)) (some [(AV.agg (zbc (zgN ({ r with Mons:=x5 }:Host) a1 a2 ({ (ix (ix x5 a1 zf).Outer a2 zN) with Rights:=3 }:Slot))))]) none) (some [(AV.agg (zbc ({ r with Mons:=x5 }:Host)))])) none) none))) none) none))=some [AV.agg (zbc (zjb r a1 a2 a3))]:=by
  intro r hr hrm;obtain ⟨q1,q2⟩:=zcg hr hrm;have hD:=zmX (p:=a2) hr hrm;unfold zjb;cases h0:ieq (wand .i64 a3 2) 0
  .obtain ⟨k,rfl,hk⟩:=zdH (n:=r.Mons.length) hrm;have ex:ix (zbt r (k:Int) a2).Mons (k:Int) mZ={ ix r.Mons (k:Int) mZ with Dirty:=up (ix r.Mons (k:Int) mZ).Dirty a2 true }:=zdN hk _ _;refine zcB rfl (must (zx hrm) (must (zx (zdj q2.2.2.1 hp)) (shr (must (zx (zeh hrm)) (must ?_ ?_)))))
   .rw [zdN hk];exact zx (zdj q2.1 hp)
   .unfold opened
    show (cond (ieq (wand .i64 (ix (ix (zbt r (k:Int) a2).Mons (k:Int) mZ).Outer a2 sZ).Rights 2) 0) _ _)=_
    cases h1:ieq (wand .i64 (ix (ix (zbt r (k:Int) a2).Mons (k:Int) mZ).Outer a2 sZ).Rights 2) 0
    .rfl
    .refine must rfl (must (zbe ⟨(zK _).2 hD.1,zeh hrm,?_,?_⟩) rfl)
     .show hasB a2 (ln (ix (zbt r (k:Int) a2).Mons (k:Int) mZ).Outer)=true
      rw[ex];exact zdj q2.1 hp
     .show (ix (zbt r (k:Int) a2).Mons (k:Int) mZ).Tables.length<=(ix (zbt r (k:Int) a2).Mons (k:Int) mZ).Guests.length
      rw[ex];exact vH q2.2.2.2
  .rfl
 refine ⟨0,?_⟩;unfold zv9 znO mended oN
 conv=>zeta
 refine must (zx hm) (must (zx (zdj g2.1 hp)) (must rfl ?_));have e:(cond (ieq (ix (ix a0.Mons a1 mZ).Outer a2 sZ).Page zbs.Page) (ieq (ix (ix a0.Mons a1 mZ).Outer a2 sZ).Rights zbs.Rights) false)=ieq (ix (ix a0.Mons a1 mZ).Outer a2 sZ).Page (-1):=by
  rw[<- hs.no];unfold zcI zbs;cases ieq (ix (ix a0.Mons a1 mZ).Outer a2 sZ).Page noSlot.Page<;>rfl
 rw[e];cases h0:ieq (ix (ix a0.Mons a1 mZ).Outer a2 sZ).Page (-1)
 .exact tail a0 hf.1 hm
 .obtain ⟨h1,h2⟩:=zjF (p:=a2) hf hm hp;exact must rfl (must (zbe ⟨hf,hm,hp⟩) (tail _ h1 h2))
theorem zLk:zdY Tryz.prog 102 [true,true,true,true,false,false,false] (some (1,1,[[0],[1],[2],[4],[7]])) zr6:=by
 refine zli (kt:=.mon) (zc7 zg6 zk zPf zED) (zem (by kernel_rfl)) (by kernel_rfl) ?_
 intro avs rs hl hr h;have hb:=zih hr;unfold zr6 at h;split at h
 .obtain ⟨hc,rfl⟩:=zdQ h;obtain ⟨N,hN⟩:=zSk _ _ _ _ (by exact hb) hc
  exact ⟨⟨_,rfl⟩,rfl,_,N,12,(zVm N _ _ _ _ ).trans hN⟩
 .cases h
@[simp] abbrev zIh (h:Host)(m p n:Int):Bool:=pc (zS9 h m p n)
@[simp] abbrev ztS (h:Host)(m p n:Int):Host:=mended h m p n
def zwt:List CV->List AV->Option (Bool×List CV×List AV)
 | [.s (.sl .int) b,.s .mon c,.s .entry d,.s .entry e],[.one (.i .i64 f),.one (.i .i64 g),.one (.i .i64 h)]=>some ((zIh (⟨b,c,d,e⟩:Host) f g h),zbc (ztS (⟨b,c,d,e⟩:Host) f g h),[])
 | _,_=>none
def zHb (N:Nat)(c:Host)(a0 a1 a2:Int):OA:=
 let y3:=(zvb c a0 a1);let y6:=(ix y3.Mons a0 zf);let y2:=(ix c.Mons a0 zf); (oN (inb a0 (ln c.Mons)) (oN (inb a1 (ln y2.Outer)) (cond (ieq (ix y2.Outer a1 zN).Page (-1)) (oN (zCp c a0 a1) (oN (zdr a2 2) (cond (nB (zdR a2 2)) (some [(aH y3)]) (oN (inb a0 (ln y3.Mons)) (oN (inb a1 (ln y6.Dirty)) (share (up y3.Mons a0 ({ y6 with Dirty:=(up y6.Dirty a1 true) }:Mon)) (fun x5=>let y4:=(ix x5 a0 zf);let y0:=(ix y4.Outer a1 zN); (oN (inb a1 (ln y4.Outer)) (oN (zdr y0.Rights 2) (cond (nB (zdR y0.Rights 2)) (oN (inb a1 (ln y4.Outer)) (share (up x5 a0 ({ y4 with Outer:=(up y4.Outer a1 ({ y0 with Rights:=3 }:Slot)) }:Mon)) (fun x6=>let y7:=({ y3 with Mons:=x6 }:Host); (oN (zeb y7 a0 a1 y0) (some [(aH (zec y7 a0 a1 y0))]))))) (some [(aH ({ y3 with Mons:=x5 }:Host))]))))))))))) (oN (zdr a2 2) (cond (nB (zdR a2 2)) (some [(aH c)]) (oN (inb a0 (ln c.Mons)) (oN (inb a1 (ln y2.Dirty)) (share (up c.Mons a0 ({ y2 with Dirty:=(up y2.Dirty a1 true) }:Mon)) (fun x5=>let y5:=(ix x5 a0 zf);let y1:=(ix y5.Outer a1 zN); (oN (inb a1 (ln y5.Outer)) (oN (zdr y1.Rights 2) (cond (nB (zdR y1.Rights 2)) (oN (inb a1 (ln y5.Outer)) (share (up x5 a0 ({ y5 with Outer:=(up y5.Outer a1 ({ y1 with Rights:=3 }:Slot)) }:Mon)) (fun x6=>let y8:=({ c with Mons:=x6 }:Host); (oN (zeb y8 a0 a1 y1) (some [(aH (zec y8 a0 a1 y1))]))))) (some [(aH ({ c with Mons:=x5 }:Host))])))))))))))))
theorem z2B (N:Nat)(c:Host)(a0 a1 a2:Int):zgz (cQ zqi zow z0l zV9) (zq []) N 12 92 [true,true,true,true] (zbc c) [aI a0,aI a1,aI a2]=zHb N c a0 a1 a2:=by kernel_rfl
theorem zZ5 (c:Host)(a0 a1 a2:Int)(hb:zbN big (.agg (zbc c) :: [aI a0,aI a1,aI a2]))(hc:zIh c a0 a1 a2=true):∃N,zHb N c a0 a1 a2=some (.agg (zbc (ztS c a0 a1 a2)) :: []):=by
 obtain ⟨hf,hm,hp,hn,hs⟩:=zF.1 hc;obtain ⟨g1,g2⟩:=zcg hf.1 hm;have en:enough a2 2 = !ieq (wand .i64 a2 2) 0:=by rcases hn with rfl|rfl<;>rfl
 have tail:∀r,Shape r->hasB a0 (ln r.Mons)=true->enough (ix (ix r.Mons a0 mZ).Outer a1 sZ).Rights 2=(!ieq (wand .i64 (ix (ix r.Mons a0 mZ).Outer a1 sZ).Rights 2) 0)->(cond (zdr a2 2) (cond (cond (zdR a2 2) false true) (some [(AV.agg (zbc r))]) (cond (inb a0 (ln r.Mons)) (cond (inb a1 (ln (ix r.Mons a0 zf).Dirty)) (share (up r.Mons a0 ({ (ix r.Mons a0 zf) with Dirty:=(up (ix r.Mons a0 zf).Dirty a1 true) }:Mon)) (fun x5=>(cond (inb a1 (ln (ix x5 a0 zf).Outer)) (cond (zdr (ix (ix x5 a0 zf).Outer a1 zN).Rights 2) (cond (cond (zdR (ix (ix x5 a0 zf).Outer a1 zN).Rights 2) false true) (cond (inb a1 (ln (ix x5 a0 zf).Outer)) (share (up x5 a0 ({ (ix x5 a0 zf) with Outer:=(up (ix x5 a0 zf).Outer a1 ({ (ix (ix x5 a0 zf).Outer a1 zN) with Rights:=3 }:Slot)) }:Mon)) (fun x6=>(cond (zeb ({ r with Mons:=x6 }:Host) a0 a1 (ix (ix x5 a0 zf).Outer a1 zN)) (some [(AV.agg (zbc (zec ({ r with Mons:=x6 }:Host) a0 a1 (ix (ix x5 a0 zf).Outer a1 zN))))]) none))) none) (some [(AV.agg (zbc ({ r with Mons:=x5 }:Host)))])) none) none))) none) none)) none)=some [AV.agg (zbc (zjb r a0 a1 a2))]:=by
  intro r hr hrm her;obtain ⟨q1,q2⟩:=zcg hr hrm;have hD:=zmX (p:=a1) hr hrm;unfold zjb;simp only[zdr,zdR,en,cT];cases h0:ieq (wand .i64 a2 2) 0
  .obtain ⟨k,rfl,hk⟩:=zdH (n:=r.Mons.length) hrm;have ex:ix (zbt r (k:Int) a1).Mons (k:Int) mZ={ ix r.Mons (k:Int) mZ with Dirty:=up (ix r.Mons (k:Int) mZ).Dirty a1 true }:=zdN hk _ _;have hk':k<(zbt r (k:Int) a1).Mons.length:=by simpa [zbt] using hk
   have hi:inb a1 (ln (ix (zbt r (k:Int) a1).Mons (k:Int) mZ).Outer)=true:=by
    rw[ex];exact zx (zdj q2.1 hp)
   refine zcB rfl (must (zx hrm) (must (zx (zdj q2.2.2.1 hp)) (shr (must hi ?_))));unfold opened
   show (cond (cond (enough (ix (ix (zbt r (k:Int) a1).Mons (k:Int) mZ).Outer a1 sZ).Rights 2) false true) _ _)=_
   have e2:(cond (enough (ix (ix (zbt r (k:Int) a1).Mons (k:Int) mZ).Outer a1 sZ).Rights 2) false true)=ieq (wand .i64 (ix (ix (zbt r (k:Int) a1).Mons (k:Int) mZ).Outer a1 sZ).Rights 2) 0:=by
    rw[ex]
    show (cond (enough (ix (ix r.Mons (k:Int) mZ).Outer a1 sZ).Rights 2) false true)=ieq (wand .i64 (ix (ix r.Mons (k:Int) mZ).Outer a1 sZ).Rights 2) 0
    rw[her];cases ieq (wand .i64 (ix (ix r.Mons (k:Int) mZ).Outer a1 sZ).Rights 2) 0<;>rfl
   rw[e2];cases h1:ieq (wand .i64 (ix (ix (zbt r (k:Int) a1).Mons (k:Int) mZ).Outer a1 sZ).Rights 2) 0
   .rfl
   .have hX:Shape { zbt r (k:Int) a1 with Mons:=up (zbt r (k:Int) a1).Mons (k:Int) { ix (zbt r (k:Int) a1).Mons (k:Int) mZ with Outer:=up (ix (zbt r (k:Int) a1).Mons (k:Int) mZ).Outer a1 ⟨(ix (ix (zbt r (k:Int) a1).Mons (k:Int) mZ).Outer a1 sZ).Page,3⟩ } }:=by
     obtain ⟨w1,w2⟩:=zcg hD (zeh hrm);exact zib hD ⟨by simpa using w1.1,w1.2⟩ ⟨by simpa using w2.1,w2.2⟩
    have hh:∀(x y:Mon),hasB (k:Int) (ln (up (up r.Mons (k:Int) x) (k:Int) y))=true:=fun x y=>by simpa [ln] using hrm
    refine must rfl (must hi (shr (must (zbe ⟨hX,hh _ _⟩) ?_)));exact congrArg (fun x=>some [AV.agg (zbc x)]) (zzx (h:=zbt r (k:Int) a1) (p:=a1) (s:=⟨(ix (ix (zbt r (k:Int) a1).Mons (k:Int) mZ).Outer a1 sZ).Page,3⟩) hk' (by rw[ex];exact q2.2.2.2))
  .rfl
 refine ⟨0,?_⟩;unfold zHb ztS mended oN nB
 conv=>zeta
 refine must (zx hm) (must (zx (zdj g2.1 hp)) ?_);cases h0:ieq (ix (ix c.Mons a0 mZ).Outer a1 sZ).Page (-1)
 .exact tail c hf.1 hm (z8g hs.lo hs.hi)
 .obtain ⟨h1,h2⟩:=zjF (p:=a1) hf hm hp;exact must rfl (must (zbe ⟨hf,hm,hp⟩) (tail _ h1 h2 (by rw[zTG hf hm hp];rfl)))
theorem zTU:zdJ Tryz.prog 92 [true,true,true,true] zwt:=by
 refine zb5 (zc7 zg6 zk zPf zED) (zem (by kernel_rfl)) ?_
 intro cs avs cs' rs hl hr h;have hb:=zcu hr;unfold zwt at h;split at h
 .obtain ⟨hc,rfl,rfl⟩:=zcT h;obtain ⟨N,hN⟩:=zZ5 _ _ _ _ (by exact hb) hc
  exact ⟨rfl,_,N,12,(z2B N _ _ _ _ ).trans hN⟩
 .cases h
def z0w:zdw:=[(92,([true,true,true,true],zwt))]++z0l
theorem zbT:zct z0w:=zel zPf (by
 intro x hx;simp only[qI,qX,or_false]at hx;rcases hx with rfl
 .exact zTU)
def z0X:zeX:=[(102,([true,true,true,true,false,false,false],(some (1,1,[[0],[1],[2],[4],[7]])),zr6))]++zV9
theorem zyk:zdZ z0X:=zp9 zED (by
 intro x hx;simp only[qI,qX,or_false]at hx;rcases hx with rfl
 .exact zLk)
theorem zZV {h:Host}(hh:zbQ h=true):h.Memory.length=12:=by
 unfold zbQ at hh;simp only[zc1]at hh;have h1:=hh.1;unfold zho at h1;simp only[zc1]at h1;have:ln h.Memory=12:=qE h1.2;simp only[ln] at this;omega
theorem zgH {h:Host}(hh:zbQ h=true):∀x∈h.Mons,zdW x=true:=by
 unfold zbQ at hh;simp only[zc1]at hh;exact zyJ _ _ hh.2.2.2.2
theorem zIF {x:Mon}(hk:zdW x=true):ShM x:=by
 have ho:=zrB (zmt hk);unfold zdW at hk;simp only[zc1]at hk;have e1:ln x.Tables=ln x.Guests:=qE hk.2.1;have e2:ln x.Out=8:=qE hk.2.2.2.1;have e3:ln x.Dirty=8:=qE hk.2.2.2.2.1;simp only[ln] at *;exact ⟨by omega,by omega,by omega,by omega⟩
theorem zeZ {h:Host}(hs:SmH h)(hh:zbQ h=true):Fit h:=by
 refine ⟨⟨hs,fun x hx=>zIF (zgH hh x hx)⟩,by rw[zZV hh];decide,?_⟩
 unfold zbQ at hh;simp only[zc1]at hh;have:=zTZ _ _ rfl hh.2.2.2.2;omega
theorem zsH {x:Mon}(hk:zdW x=true){p:Int}(hp:hasB p 8=true):SlotFit (ix x.Outer p sZ):=by
 have ht:=zmt hk;unfold zcF at ht;simp only[zc1]at ht;exact z0P (qM.1 ht.1 _ (zbu (zdj (zIF hk).1 hp) _))
theorem zWS {h:Host}{m p:Int}(hf:Fit h)(hm:hasB m (ln h.Mons)=true):Fit (zbt h m p):=by
 refine ⟨zmX hf.1 hm,hf.2.1,?_⟩;obtain ⟨k,rfl,hk⟩:=zdH (n:=h.Mons.length) hm;have:=zWD h.Mons k (ix h.Mons (k:Int) mZ) { ix h.Mons (k:Int) mZ with Dirty:=up (ix h.Mons (k:Int) mZ).Dirty p true } (by rw[zbg hk];exact qB hk)
 have h3:=hf.2.2;unfold zbt;simp only[up,kV]
 dsimp only at this
 simp only[up] at this;omega
abbrev gZ:Guest:=Ty.dflt .guest
@[simp] abbrev znC (h:Host)(m:Int):Bool:=pc (zb2 h)
@[simp] abbrev zb7 (h:Host)(m:Int):Mon:=bif hasB m (ln h.Mons) then ix h.Mons m mZ else mZ
@[simp] abbrev zks (h:Host)(m:Int):Bool:=hasB m (ln h.Mons)
def zwx:Run:=rF2 dH dI fun b c=>(znC b c,[aT .mon (zb7 b c),aB (zks b c)])
def zPM (N:Nat)(a0:Host)(a1:Int):OA:=
 let y0:=(ix a0.Mons a1 zf); (oN (zcm a1 (ln a0.Mons)) (cond (nB (zcO a1 (ln a0.Mons))) (some [(aT .mon (⟨[],[],[],[],[],0,0,[],0⟩:Mon)),(aB false)]) (oN (inb a1 (ln a0.Mons)) (oN (zjM y0) (some [(aT .mon (zkz y0)),(aB true)])))))
theorem zW5 (a0:Host)(a1:Int)(hc:znC a0 a1=true):∃N,zPM N a0 a1=some [aT .mon (zb7 a0 a1),aB (zks a0 a1)]:=by
 have hs:=(zK a0).1 (zF.1 hc);refine ⟨0,?_⟩;unfold zPM zb7 zks oN nB
 conv=>zeta
 refine must rfl ?_;rw[show zcO a1 (ln a0.Mons)=hasB a1 (ln a0.Mons) from rfl]
 cases hh:hasB a1 (ln a0.Mons)
 .rfl
 .exact zcB rfl (must (zx hh) (must (zbe (hs.2.1.2 _ (zbu hh _))) rfl))
theorem zz5:vJ 51 zwx:=kF2 zg6 zk zbT zyk (zq []) zW5
def zbE (h:Host)(m g:Int):Bool:=bif zbQ h then (cond (hasB m (ln h.Mons)) (hasB g (ln (ix h.Mons m mZ).Guests)) false) else false
@[simp] abbrev zgP (h:Host)(m g:Int):Bool:=pc (zb2 h)
@[simp] abbrev ziG (h:Host)(m g:Int):Bool:=zbE h m g
def zGV:Run:=rF3 dH dI dI fun b c d=>(zgP b c d,[aB (ziG b c d)])
def zP6 (N:Nat)(a0:Host)(a1 a2:Int):OA:=
 let y0:=(wsub .i64 (ln (ix a0.Mons a1 zf).Guests) 1); (oN (ze5 a0) (cond (ze4 a0) (oN (zJ a1 0 (wsub .i64 (ln a0.Mons) 1)) (cond (zL a1 0 (wsub .i64 (ln a0.Mons) 1)) (oN (inb a1 (ln a0.Mons)) (oN (zJ a2 0 y0) (some [(aB (zL a2 0 y0))]))) oF)) oF))
theorem zXr (a0:Host)(a1 a2:Int)(hc:zgP a0 a1 a2=true):∃N,zP6 N a0 a1 a2=some [aB (ziG a0 a1 a2)]:=by
 have hs:=(zK a0).1 (zF.1 hc);refine ⟨0,?_⟩;unfold zP6 ziG zbE oN
 conv=>zeta
 refine must rfl ?_;rw[show ze4 a0=zbQ a0 from rfl]
 cases hh:zbQ a0
 .rfl
 .rw [show zL a1 0 (wsub .i64 (ln a0.Mons) 1)=hasB a1 (ln a0.Mons) from zqc hs.2.1.1 a1]
  refine must rfl (must rfl ?_);cases h1:hasB a1 (ln a0.Mons)
  .rfl
  .have hg:(ix a0.Mons a1 mZ).Guests.length<=1048576:=(hs.2.1.2 _ (zbu h1 _)).2.2.2.1.1;rw[show zL a2 0 (wsub .i64 (ln (ix a0.Mons a1 zf).Guests) 1)=hasB a2 (ln (ix a0.Mons a1 mZ).Guests) from zqc hg a2]
   exact must rfl (must (zx h1) (must rfl rfl))
theorem zRx:vJ 251 zGV:=kF3 zg6 zk zbT zyk (zq []) zXr
def zch (h:Host)(m:Int):Nat->Nat->List (List Int)
 | 0,_=>[]
 | n+1,i=>zb9 h m (i:Int) :: zch h m n (i+1)
theorem zze (h:Host)(m:Int):∀(n i:Nat),(zch h m n i).length=n
 | 0,_=>rfl
 | n+1,i=>by simp[zch,zze h m n]
def zy (h:Host)(m:Int):Bare:=bif hasB m (ln h.Mons) then ⟨zch h m 8 0,(ix h.Mons m mZ).Guests,(ix h.Mons m mZ).Outs,(ix h.Mons m mZ).Pending⟩ else ⟨[],[],[],0⟩
theorem zB8 {ρ:Type}(h:Host)(m:Int)(K:List (List Int)->Option ρ):∀(n i:Nat) (acc:List (List Int)),acc.length+n<=2147483648 ->
 goN (fun i acc κ=>bif few (ln (ap acc [zb9 h m (i:Int)])) then κ (ap acc [zb9 h m (i:Int)]) else none) K n i acc=K (acc++zch h m n i)
 | 0,_,acc,_=>by simp[goN,zch]
 | n+1,i,acc,hl=>by
  simp only[goN,zch];rw[zgt (by simp[ap];omega),cT,zB8 h m K n (i+1) _ (by simp[ap];omega)]
  simp[ap]
@[simp] abbrev zyV (h:Host)(m:Int):Bool:=pc (zb2 h)
@[simp] abbrev zpz (h:Host)(m:Int):Bare:=zy h m
def z6G:zO:=[(51,zwx),(251,zGV)]++zqi
theorem zTx:zG z6G:=zh zz5 (zh zRx zg6)
def zC3:Run:=rF2 dH dI fun b c=>(zyV b c,[aT .bare (zpz b c)])
def zJn (N:Nat)(a0:Host)(a1:Int):OA:=
 (oN (znC a0 a1) (cond (nB (zks a0 a1)) (some [(aT .bare (⟨[],[],[],0⟩:Bare))]) (iter (σ:=(Int×(Int×(Int×(Int×(lM×(lN×(lE×(lE×(lM×(lG×((List Int)×(lM×(lG×((List Int)×Unit))))))))))))))) N (fun r3 s4=>let y3:=s4.2.2.2.2.2.2.2.2.2.2.2.2.1;let y2:=s4.2.2.2.2.2.2.2.2.2.2.2.2.2.1;let y0:=(⟨s4.2.2.2.2.1,s4.2.2.2.2.2.1,s4.2.2.2.2.2.2.1,s4.2.2.2.2.2.2.2.1⟩:Host);let y1:=(ap s4.2.2.2.2.2.2.2.2.2.2.2.1 [(zyR y0 s4.1 s4.2.1)]); (cond (ilt s4.2.1 8) (oN (zyS y0 s4.1 s4.2.1) (oN (few (ln y1)) (r3 (s4.1,((zI .i64 s4.2.1 1),(s4.2.2.1,(s4.2.2.2.1,(s4.2.2.2.2.1,(s4.2.2.2.2.2.1,(s4.2.2.2.2.2.2.1,(s4.2.2.2.2.2.2.2.1,(s4.2.2.2.2.2.2.2.2.1,(s4.2.2.2.2.2.2.2.2.2.1,(s4.2.2.2.2.2.2.2.2.2.2.1,(y1,(y3,(y2,()))))))))))))))))) (some [(aT .bare (⟨s4.2.2.2.2.2.2.2.2.2.2.2.1,y3,y2,s4.2.2.2.1⟩:Bare))]))) (a1,(0,(0,((zb7 a0 a1).Pending,(a0.Memory,(a0.Mons,(a0.Buffer,(a0.IoBuffer,([],([],([],([],((zb7 a0 a1).Guests,((zb7 a0 a1).Outs,())))))))))))))))))
def zWg:FuncId->Nat->Option Tmpl:=zq [(65,0,{ n:=39,tm:=[(1,ti),(2,.lp 0 0),(4,.lp 1 0),(7,.lp 2 0),(8,ti)],lo:=[(0,[.sl 0 [],.sl 1 [],.sl 2 [],.sl 3 []]),(1,[.sl 4 [],.sl 5 [],.sl 6 [],ti]),(2,[.sl 7 [],.sl 8 [],.sl 9 [],ti])],ro:=[(0,(.sl .int),false),(1,.mon,false),(2,.entry,false),(3,.entry,false),(4,(.sl .int),true),(5,.guest,true),(6,.int,true),(7,(.sl .int),true),(8,.guest,true),(9,.int,true)] })]
theorem zUo (a0:Host)(a1:Int)(hc:zyV a0 a1=true):∃N,zJn N a0 a1=some [aT .bare (zpz a0 a1)]:=by
 have hs:=zF.1 hc;refine zce fun N hNN=>?_;unfold zJn zpz zy oN nB
 conv=>zeta
 refine must (zbe hs) ?_;rw[show zks a0 a1=hasB a1 (ln a0.Mons) from rfl]
 cases hh:hasB a1 (ln a0.Mons)
 .rfl
 .refine zcB rfl ?_;refine (ztU 8 (fun i (t:lM)=>(a1,(i:Int),0,(zb7 a0 a1).Pending,a0.Memory,a0.Mons,a0.Buffer,a0.IoBuffer,[],[],[],t,(zb7 a0 a1).Guests,(zb7 a0 a1).Outs,())) _ (fun i (acc:List (List Int)) κ=>bif few (ln (ap acc [zb9 a0 a1 (i:Int)])) then κ (ap acc [zb9 a0 a1 (i:Int)]) else none) (fun (t:lM)=>(some [(.agg (Ty.cells .bare (⟨t,(zb7 a0 a1).Guests,(zb7 a0 a1).Outs,(zb7 a0 a1).Pending⟩:Bare)))])) (fun i hi t rec=>?_) (fun t rec=>?_) _ ([]) (hNN (by decide))).trans ?_
  .simp only [show ilt (i:Int) 8=true from qJ (by omega),zZ hi (show 8<=big by decide),cT]
   exact must (zbe hs) rfl
  .simp only [show ilt (((8:Nat)):Int) 8=false from qG (by omega),cF]
  rw[zB8 a0 a1 _ 8 0 [] (by decide)]
  simp only[zb7,hh,cT,jN]
theorem zNx:vJ 65 zC3:=kF2 zTx zk zbT zyk zWg zUo
theorem zXF:zca zzF=true:=by decide
theorem zYd {p:Nat->Bool}:∀{n i q:Nat},zn1 p n i=true->i<=q->q<i+n->p q=true
 | 0,i,q,_,h1,h2=>by omega
 | n+1,i,q,h,h1,h2=>by
  simp only[zn1,qD]at h
  by_cases he:i=q
  .subst he;exact h.1
  .exact zYd h.2 (by omega) (by omega)
theorem z2L {h:Host}{m:Int}(hh:zbQ h=true)(hm:hasB m (ln h.Mons)=true){p:Int}(hp:hasB p 8=true):zca (zb9 h m p)=true:=by
 have hk:=zgH hh _ (zbu hm mZ);have hsh:=zIF hk;have hmem:h.Memory.all zca=true:=by
  unfold zbQ at hh;simp only[zc1]at hh;have h1:=hh.1;unfold zho at h1;simp only[zc1]at h1;exact h1.1
 unfold zb9;rw[hm,hp];simp only[cT];have hsl:zbk (ix h.Mons m mZ).Outer p=ix (ix h.Mons m mZ).Outer p sZ:=by
  unfold zbk;rw[zdj hsh.1 hp];rfl
 rw[hsl];have hAt:∀(mm:List (List Int)) (q:Int),(hasB q (ln mm)=true->zca (ix mm q [])=true)->zca (zcd mm q)=true:=by
  intro mm q hq;unfold zcd;cases h1:hasB q (ln mm)
  .exact zXF
  .exact hq h1
 cases hpg:ine (ix (ix h.Mons m mZ).Outer p sZ).Page (-1)
 .refine hAt _ _ (fun hq=>?_);obtain ⟨q,rfl,hq8⟩:=zdH (n:=8) hp;have hfit:fits (ix h.Mons m mZ) q=true:=by
   unfold zdW at hk;simp only[zc1]at hk;exact zYd hk.2.2.2.2.2.2.2.2.2.2 (by omega) (by omega)
  unfold fits zlw at hfit;have hno:zcI (ix (ix h.Mons m mZ).Outer (q:Int) sZ) noSlot=true:=by
   rw[(zsH (zgH hh _ (zbu hm mZ)) hp).no];rw[zlo]at hpg;cases h1:ieq (ix (ix h.Mons m mZ).Outer (q:Int) sZ).Page (-1)
   .rw [h1]at hpg;cases hpg
   .rfl
  rw[hno]at hfit;exact hfit
 .exact hAt _ _ (fun hq=>qM.1 hmem _ (zbu hq _))
theorem zQJ {h:Host}{m:Int}(hh:zbQ h=true)(hm:hasB m (ln h.Mons)=true):∀(n i:Nat),i+n<=8->(zch h m n i).all zca=true
 | 0,_,_=>rfl
 | n+1,i,hi=>by
  simp only[zch,uI,qD];exact ⟨z2L hh hm (qJ (by omega)),zQJ hh hm n (i+1) (by omega)⟩
theorem zwd {h:Host}{m:Int}(hh:zbQ h=true)(hm:hasB m (ln h.Mons)=true):zbC (zy h m)=true:=by
 have hk:=zgH hh _ (zbu hm mZ);unfold zdW at hk;simp only[zc1]at hk;unfold zy zbC zho;rw[hm];simp only[cT,hk.2.2.2.2.2.2.2.2.2.1,zQJ hh hm 8 0 (by decide),ln,zze]
 simp only[ln]at hk;rw[hk.1,hk.2.2.2.2.2.1,hk.2.2.2.2.2.2.1];rfl
def zmL:zO:=[(65,zC3)]++z6G
theorem zg7:zG zmL:=zh zNx zTx
def zd0 (l:List Mon):List (List Guest):=l.map fun x=>x.Guests
theorem zyI {l:List Mon}{m:Int}{x:Mon}(hm:hasB m (ln l)=true)(hx:x.Guests=(ix l m mZ).Guests):zd0 (up l m x)=zd0 l:=by
 obtain ⟨k,rfl,hk⟩:=zdH (n:=l.length) hm;unfold zd0 up;rw[List.map_set,kV,hx,zbg hk];have:=@uX _ (l.map fun x=>x.Guests) k (by simpa using hk)
 simpa using this
theorem zKA {l l':List Mon}(h:zd0 l'=zd0 l)(m:Int):(ix l' m mZ).Guests=(ix l m mZ).Guests:=by
 unfold zd0 at h;have h2:(l'.map fun x=>x.Guests)[m.toNat]?=(l.map fun x=>x.Guests)[m.toNat]?:=by rw[h]
 rw[qN,qN]at h2;unfold ix;simp only[j7];cases h3:l'[m.toNat]? <;> cases h4:l[m.toNat]? <;> rw [h3,h4]at h2<;>simp at h2 ⊢;exact h2
theorem zyH {h:Host}{m p:Int}{s:Slot}(hm:hasB m (ln h.Mons)=true):zd0 (zcb h m p s).Mons=zd0 h.Mons:=by
 rw[(zf9 h m p s).1];exact zyI hm rfl
theorem z8n {h:Host}{m p:Int}(hm:hasB m (ln h.Mons)=true):zd0 (zdk h m p).Mons=zd0 h.Mons:=(zyH (h:=zeA h m p) (zeh hm)).trans (zyI hm rfl)
theorem z8m {h:Host}(hf:Fit h):zd0 (zcX h).Mons=zd0 h.Mons:=by
 unfold zcX;cases h0:ieq (ln (zb3 h)) 0
 .rfl
 .exact z8n (zEt hf h0).1
theorem zZS {h:Host}{m p:Int}(hf:Fit h)(hm:hasB m (ln h.Mons)=true):zd0 (fetched h m p).Mons=zd0 h.Mons:=by
 have hr:=zpL hf hm;exact ((zyH (h:=landing (zcX h) m p (ix (zb3 (zcX h)) 0 0)) (zeh hr)).trans (zyI hr rfl)).trans (z8m hf)
theorem zTP {h:Host}{m p n:Int}(hm:hasB m (ln h.Mons)=true):zd0 (zjb h m p n).Mons=zd0 h.Mons:=by
 have hd:zd0 (zbt h m p).Mons=zd0 h.Mons:=zyI hm rfl;unfold zjb;cases ieq (wand .i64 n 2) 0
 .unfold opened;cases ieq (wand .i64 (ix (ix (zbt h m p).Mons m mZ).Outer p sZ).Rights 2) 0
  .exact hd
  .exact (zyH (h:=zbt h m p) (zeh hm)).trans hd
 .rfl
theorem z19 {h:Host}{m p n:Int}(hf:Fit h)(hm:hasB m (ln h.Mons)=true)(hp:hasB p 8=true):zd0 (mended h m p n).Mons=zd0 h.Mons:=by
 unfold mended;cases ieq (ix (ix h.Mons m mZ).Outer p sZ).Page (-1)
 .exact zTP hm
 .exact (zTP (zjF hf hm hp).2).trans (zZS hf hm)
theorem z9B {l l':List Mon}(h:zd0 l'=zd0 l):l'.length=l.length:=by
 have:=congrArg List.length h;simpa [zd0] using this
abbrev kZ:Kept:=Ty.dflt .kept
theorem zbat {x:Guest}(hk:zcV x=true){p n:Int}(hw:zdU x.Live p n=true):hasB (zbY x.Live p n) 8=true:=by
 have ht:zcF x.Live 4 8=true:=by
  unfold zcV at hk;simp only[qD]at hk;exact hk.2.2.2.2.1
 unfold zbY;rw[hw];simp only[cT];unfold zdU at hw;cases h1:ieq (zbk x.Live p).Page (-1)
 .unfold zbk at h1 ⊢;cases h2:hasB p (ln x.Live)
  .rw [h2]at h1;cases h1
  .rw [h2]at h1;simp only[cT]at h1 ⊢;unfold zcF at ht;simp only[zc1]at ht;have hs:=qM.1 ht.1 _ (zbu h2 sZ);unfold zdC at hs;cases h3:zcI (ix x.Live p sZ) noSlot
   .rw [h3]at hs;simp only[cF,zc1]at hs;have:=zfh.1 hs.2.1;rw[show wsub .i64 8 1=7 from rfl] at this
    show hasB (ix x.Live p sZ).Page 8=true
    exact qJ (by omega)
   .unfold zcI at h3;rw[qD]at h3;have:(ix x.Live p sZ).Page = -1:=qE h3.1;rw[show ieq (ix x.Live p zN).Page (-1)=true from qJ this]at h1
    cases h1
 .rw [h1]at hw;cases hw
def zb8 (h:Host)(m g:Int):List Slot:=(ix (ix h.Mons m mZ).Guests g gZ).Live
def zbP (h:Host)(m g:Int):Kept:=ix (ix h.Mons m mZ).Tables g kZ
def zsx (h:Host)(io:Bool):List Entry:=bif io then h.IoBuffer else h.Buffer
def zrd (b:List Entry)(m g page:Int):Option Entry:=zsy b (zdF m g) page
def zht (b:List Entry)(m g page need:Int):Bool:=bif (zrd b m g page).isSome then enough ((zrd b m g page).getD ⟨0,0,0,0⟩).Rights need else false
def zd3 (h:Host)(m g page need:Int):Bool:=bif zit (zbP h m g) page then (cond (ieq (zdy (zbP h m g) page).Page (-1)) true (!enough (zdy (zbP h m g) page).Rights need)) else true
def zcc (h:Host)(m g page:Int):Host:={ h with Mons:=up h.Mons m { ix h.Mons m mZ with Tables:=up (ix h.Mons m mZ).Tables g (filled (zbP h m g) (zb8 h m g) (ix h.Mons m mZ).Outer page) } }
def zSJ (h:Host)(m g page:Int):Entry:=⟨zdF m g,page,(zdy (zbP h m g) page).Page,(zdy (zbP h m g) page).Rights⟩
def zve (h:Host)(m g page:Int)(io:Bool):Host:=bif io then { h with IoBuffer:=zpJ h.IoBuffer (zSJ h m g page) } else { h with Buffer:=zpJ h.Buffer (zSJ h m g page) }
def zed (h:Host)(m g page:Int)(io:Bool):Host×Int×Bool:=(zve h m g page io,(zdy (zbP h m g) page).Page,true)
def zfQ (h:Host)(b:List Entry)(m g page need q:Int)(io:Bool):Host×Int×Bool :=
 bif zht b m g page need then (h,((zrd b m g page).getD ⟨0,0,0,0⟩).Host,true)
 else (cond (zd3 h m g page need) (zed (zcc (mended h m q need) m g page) m g page io) (zed h m g page io))
def zfw (need:Int):Bool:=bif ieq need 1 then true else ieq need 2
def zbJ (h:Host)(m g page need:Int):Bool:=bif zbE h m g then (cond (zfw need) (zdU (zb8 h m g) page need) false) else false
def lookOf (h:Host)(b:List Entry)(m g page need:Int)(io:Bool):Host×Int×Bool :=
 bif zbJ h m g page need then zfQ (cond (ieq need 2) (zbt h m (zbY (zb8 h m g) page need)) h) b m g page need (zbY (zb8 h m g) page need) io else (h,-1,false)
structure Kp (h r:Host):Prop where
 shape:Shape r
 gs:zd0 r.Mons=zd0 h.Mons
theorem Kp.has {h r:Host}(k:Kp h r){m:Int}(hm:hasB m (ln h.Mons)=true):hasB m (ln r.Mons)=true:=by
 rw[ln,z9B k.gs];exact hm
theorem z0M {h:Host}{m g page:Int}(hs:Shape h)(hm:hasB m (ln h.Mons)=true)(hg:hasB g (ln (ix h.Mons m mZ).Guests)=true):Shape (zcc h m g page):=by
 obtain ⟨g1,g2⟩:=zcg hs hm;have ht:hasB g (ln (ix h.Mons m mZ).Tables)=true:=by rw[ln,g2.2.2.2];exact hg
 exact zib hs ⟨g1.1,g1.2.1,g1.2.2.1,g1.2.2.2.1,g1.2.2.2.2.1,zyh g1.2.2.2.2.2 (z0R (g1.2.2.2.2.2.2 _ (zbu ht _)))⟩ ⟨g2.1,g2.2.1,g2.2.2.1,by simpa using g2.2.2.2⟩
theorem z2i {h r:Host}{m g page:Int}{io:Bool}(k:Kp h r):Kp h (zve r m g page io):=by
 obtain ⟨⟨h1,h2,h3,h4⟩,h5⟩:=k.shape;unfold zve;cases io
 .exact ⟨⟨⟨h1,h2,(zzh _ h3).1,h4⟩,h5⟩,k.gs⟩
 .exact ⟨⟨⟨h1,h2,h3,(zzh _ h4).1⟩,h5⟩,k.gs⟩
structure LookAt (h:Host) (m g q need:Int):Prop where
 fit:Fit h
 hm:hasB m (ln h.Mons)=true
 hg:hasB g (ln (ix h.Mons m mZ).Guests)=true
 hq:hasB q 8=true
 hn:need=1\/need=2
 hs:SlotFit (ix (ix h.Mons m mZ).Outer q sZ)
theorem LookAt.mend {h:Host}{m g q need:Int}(A:LookAt h m g q need):zS9 h m q need:=⟨A.fit,A.hm,A.hq,A.hn,A.hs⟩
theorem LookAt.kp {h:Host}{m g q need:Int}(A:LookAt h m g q need):Kp h (mended h m q need):=⟨(zuz A.fit A.hm A.hq).1,z19 A.fit A.hm A.hq⟩
theorem LookAt.fill {h:Host}{m g q need:Int}(A:LookAt h m g q need)(page:Int):Kp h (zcc (mended h m q need) m g page):=by
 have k:=A.kp;have hg:hasB g (ln (ix (mended h m q need).Mons m mZ).Guests)=true:=by rw[zKA k.gs];exact A.hg
 have e:zd0 (zcc (mended h m q need) m g page).Mons=zd0 (mended h m q need).Mons:=zyI (k.has A.hm) rfl;exact ⟨z0M k.shape (k.has A.hm) hg,e.trans k.gs⟩
theorem zT5 {h:Host}{b:List Entry}{m g page need q:Int}{io:Bool}(A:LookAt h m g q need):Kp h (zfQ h b m g page need q io).1:=by
 unfold zfQ;cases zht b m g page need
 .cases zd3 h m g page need
  .exact z2i ⟨A.fit.1,rfl⟩
  .exact z2i (A.fill page)
 .exact ⟨A.fit.1,rfl⟩
theorem zcH {h:Host}{m g:Int}(hh:zbE h m g=true):zbQ h=true/\hasB m (ln h.Mons)=true/\hasB g (ln (ix h.Mons m mZ).Guests)=true:=by
 unfold zbE at hh;simp only[zc1]at hh;exact hh
theorem zZT {h:Host}{m g:Int}(hh:zbE h m g=true):zcV (ix (ix h.Mons m mZ).Guests g gZ)=true:=by
 obtain ⟨h1,h2,h3⟩:=zcH hh;have hk:=zgH h1 _ (zbu h2 mZ);unfold zdW at hk;simp only[zc1]at hk;exact qM.1 hk.2.2.2.2.2.2.2.2.2.1 _ (zbu h3 _)
theorem zLX {n:Int}(h:zfw n=true):n=1\/n=2:=by
 unfold zfw at h;cases h1:ieq n 1
 .rw [h1]at h;exact .inr (qE h)
 .exact .inl (qE h1)
theorem zCA {h:Host}{m g page need:Int}(hs:SmH h)(hh:zbJ h m g page need=true) :
 LookAt h m g (zbY (zb8 h m g) page need) need/\LookAt (zbt h m (zbY (zb8 h m g) page need)) m g (zbY (zb8 h m g) page need) need:=by
 unfold zbJ at hh;simp only[zc1]at hh;obtain ⟨h1,h2,h3⟩:=hh;obtain ⟨g1,g2,g3⟩:=zcH h1;have hq:hasB (zbY (zb8 h m g) page need) 8=true:=zbat (zZT h1) h3;have hsl:=zsH (zgH g1 _ (zbu g2 mZ)) hq;have hf:=zeZ hs g1;refine ⟨⟨hf,g2,g3,hq,zLX h2,hsl⟩,⟨zWS hf g2,zeh g2,?_,hq,zLX h2,?_⟩⟩
 .have e:zd0 (zbt h m (zbY (zb8 h m g) page need)).Mons=zd0 h.Mons:=zyI g2 rfl;rw[zKA e];exact g3
 .obtain ⟨k,rfl,hk⟩:=zdH (n:=h.Mons.length) g2;unfold zbt;rw[zdN hk];exact hsl
theorem ztf {h:Host}{b:List Entry}{m g page need:Int}{io:Bool}(hs:SmH h)(hh:zbE h m g=true):Kp h (lookOf h b m g page need io).1:=by
 have hf:=zeZ hs (zcH hh).1;unfold lookOf;cases h1:zbJ h m g page need
 .exact ⟨hf.1,rfl⟩
 .obtain ⟨A,B⟩:=zCA hs h1;simp only[cT];cases ieq need 2
  .exact zT5 A
  .have k:=zT5 (b:=b) (page:=page) (io:=io) B;have e:zd0 (zbt h m (zbY (zb8 h m g) page need)).Mons=zd0 h.Mons:=zyI A.hm rfl;exact ⟨k.shape,k.gs.trans e⟩
def zje (x:Host×Int×Bool):List AV:=[.agg (zbc x.1),.one (.i .i64 x.2.1),.one (.b x.2.2)]
theorem zgX {h:Host}{b:List Entry}{m g page need:Int}{io:Bool}(hh:zbJ h m g page need=false):lookOf h b m g page need io=(h,-1,false):=by
 unfold lookOf;rw[hh];rfl
theorem znI {h:Host}{m g page need:Int}(hh:zbE h m g=false):zbJ h m g page need=false:=by
 unfold zbJ;rw[hh];rfl
theorem zM9 {h:Host}{m g:Int}(hh:zbQ h=false):zbE h m g=false:=by
 unfold zbE;rw[hh];rfl
theorem zNa {h:Host}{m g:Int}(hh:hasB m (ln h.Mons)=false):zbE h m g=false:=by
 unfold zbE;rw[hh];cases zbQ h<;>rfl
theorem zNb {h:Host}{m g:Int}(hh:hasB g (ln (ix h.Mons m mZ).Guests)=false):zbE h m g=false:=by
 unfold zbE;rw[hh];cases zbQ h<;>cases hasB m (ln h.Mons)<;>rfl
theorem zNc {h:Host}{m g:Int}(h1:zbQ h=true)(h2:hasB m (ln h.Mons)=true)(h3:hasB g (ln (ix h.Mons m mZ).Guests)=true):zbE h m g=true:=by
 unfold zbE;rw[h1,h2,h3];rfl
structure LookF (r:Host) (m g:Int):Prop where
 hm:hasB m (ln r.Mons)=true
 hg:hasB g (ln (ix r.Mons m mZ).Guests)=true
 ht:hasB g (ln (ix r.Mons m mZ).Tables)=true
 hk:SmK (zbP r m g)
 hb:r.Buffer.length<=1048576
 hi:r.IoBuffer.length<=1048576
theorem zlt {h r:Host}{m g:Int}(k:Kp h r)(hm:hasB m (ln h.Mons)=true)(hg:hasB g (ln (ix h.Mons m mZ).Guests)=true):LookF r m g:=by
 obtain ⟨g1,g2⟩:=zcg k.shape (k.has hm);have hg':hasB g (ln (ix r.Mons m mZ).Guests)=true:=by rw[zKA k.gs];exact hg
 have ht:hasB g (ln (ix r.Mons m mZ).Tables)=true:=by rw[ln,g2.2.2.2];exact hg'
 exact ⟨k.has hm,hg',ht,g1.2.2.2.2.2.2 _ (zbu ht _),k.shape.1.2.2.1,k.shape.1.2.2.2⟩
@[simp] abbrev zj2 (h:Host)(b:List Entry)(m g page need:Int)(io:Bool):Bool:=pc (zb2 h)
@[simp] abbrev zeV (h:Host)(b:List Entry)(m g page need:Int)(io:Bool):Host:=(lookOf h b m g page need io).1
@[simp] abbrev zj1 (h:Host)(b:List Entry)(m g page need:Int)(io:Bool):Int:=(lookOf h b m g page need io).2.1
@[simp] abbrev zgO (h:Host)(b:List Entry)(m g page need:Int)(io:Bool):Bool:=(lookOf h b m g page need io).2.2
def zr8:List AV->Option (Bool×List AV)
 | [.agg [.s (.sl .int) c,.s .mon d,.s .entry e,.s .entry f],.one (.s .entry g),.one (.i .i64 h),.one (.i .i64 j),.one (.i .i64 k),.one (.i .i64 l),.one (.b m)]=>some ((zj2 (⟨c,d,e,f⟩:Host) g h j k l m),[aH (zeV (⟨c,d,e,f⟩:Host) g h j k l m),aI (zj1 (⟨c,d,e,f⟩:Host) g h j k l m),aB (zgO (⟨c,d,e,f⟩:Host) g h j k l m)])
 | _=>none
abbrev zQ5 (u9_11:lM)(u9_12:lN)(u9_13:lE)(u9_14:lE)(u9_0:Int)(u9_5:Int)(u9_3:Int):Mon :=
 (ix (znO (⟨u9_11,u9_12,u9_13,u9_14⟩:Host) u9_0 u9_5 u9_3).Mons u9_0 zf)
abbrev zQ6 (a0:Host)(a2 a3:Int)(a4 a5:Int):Int :=
 (zjA (ix (ix a0.Mons a2 zf).Guests a3 zi).Live a4 a5)
def zMX (N:Nat)(u11_0:Int)(u11_2:lM)(u11_3:lN)(u11_4:lE)(u11_5:lE):OA:=
 (some [(aH (⟨u11_2,u11_3,u11_4,u11_5⟩:Host)),(aI u11_0),(aB true)])
def zpk (N:Nat)(u10_0:Int)(u10_1:Bool)(u10_2:Int)(u10_7:Int)(u10_8:Int)(u10_9:lM)(u10_10:lN)(u10_11:lE)(u10_12:lE)(u10_13:lM)(u10_14:lN)(u10_15:lE)(u10_16:lE):OA:=
 let y0:=(⟨u10_2,u10_0,u10_7,u10_8⟩:Entry); (share (fun (s11:(Int×(Int×(lM×(lN×(lE×(lE×(lM×(lN×(lE×(lE×Unit)))))))))))=>(zMX N s11.1 s11.2.2.1 s11.2.2.2.1 s11.2.2.2.2.1 s11.2.2.2.2.2.1)) (fun r11=>(cond u10_1 (oN (zo4 u10_12 y0) (r11 (u10_7,(u10_8,(u10_9,(u10_10,(u10_11,((zo3 u10_12 y0),(u10_13,(u10_14,(u10_15,(u10_16,())))))))))))) (oN (zo4 u10_11 y0) (r11 (u10_7,(u10_8,(u10_9,(u10_10,((zo3 u10_11 y0),(u10_12,(u10_13,(u10_14,(u10_15,(u10_16,())))))))))))))))
def zrK (N:Nat)(u9_11:lM)(u9_12:lN)(u9_13:lE)(u9_14:lE)(u9_0:Int)(u9_5:Int)(u9_3:Int)(u9_1:Int)(u9_2:Int)(r10:((Int×(Bool×(Int×(Int×(Int×(Int×(Int×(Int×(Int×(lM×(lN×(lE×(lE×(lM×(lN×(lE×(lE×Unit))))))))))))))))))->OA)(u9_4:Bool)(u9_6:Int)(u9_7:Int)(u9_8:Int)(u9_9:Int)(u9_10:Int)(u9_15:lM)(u9_16:lN)(u9_17:lE)(u9_18:lE):OA:=
 let y7:=(⟨u9_11,u9_12,u9_13,u9_14⟩:Host);let y1:=(znO y7 u9_0 u9_5 u9_3);let y3:=(inb u9_0 (ln y1.Mons));let y0:=(zQ5 u9_11 u9_12 u9_13 u9_14 u9_0 u9_5 u9_3);let y6:=(ix y0.Tables u9_1 zez);let y4:=(ix y0.Guests u9_1 zi).Live; (oN (zmJ y7 u9_0 u9_5 u9_3) (oN y3 (oN y3 (oN (inb u9_1 (ln y0.Tables)) (oN y3 (oN (inb u9_1 (ln y0.Guests)) (oN y3 (oN (zIP y6 y4 y0.Outer u9_2) (oN (inb u9_1 (ln y0.Tables)) (share (up y1.Mons u9_0 ({ y0 with Tables:=(up y0.Tables u9_1 (zMn y6 y4 y0.Outer u9_2)) }:Mon)) (fun x11=>let y5:=(ix x11 u9_0 zf).Tables;let y2:=(ix y5 u9_1 zez); (oN (inb u9_0 (ln x11)) (oN (inb u9_1 (ln y5)) (oN (zEx y2 u9_2) (r10 (u9_2,(u9_4,(u9_6,(u9_7,(u9_8,(u9_9,(u9_10,((ztl y2 u9_2).Page,((ztl y2 u9_2).Rights,(y1.Memory,(x11,(y1.Buffer,(y1.IoBuffer,(u9_15,(u9_16,(u9_17,(u9_18,()))))))))))))))))))))))))))))))))
def zk8 (N:Nat)(u9_0:Int)(u9_1:Int)(u9_2:Int)(u9_3:Int)(u9_4:Bool)(u9_5:Int)(u9_6:Int)(u9_7:Int)(u9_8:Int)(u9_9:Int)(u9_10:Int)(u9_11:lM)(u9_12:lN)(u9_13:lE)(u9_14:lE)(u9_15:lM)(u9_16:lN)(u9_17:lE)(u9_18:lE):OA:=
 let y3:=(ix u9_12 u9_0 zf).Tables;let y0:=(ix y3 u9_1 zez);let y2:=(ztl y0 u9_2); (oN (inb u9_0 (ln u9_12)) (oN (inb u9_1 (ln y3)) (oN (zEx y0 u9_2) (share (fun (s10:(Int×(Bool×(Int×(Int×(Int×(Int×(Int×(Int×(Int×(lM×(lN×(lE×(lE×(lM×(lN×(lE×(lE×Unit))))))))))))))))))=>(zpk N s10.1 s10.2.1 s10.2.2.1 s10.2.2.2.2.2.2.2.1 s10.2.2.2.2.2.2.2.2.1 s10.2.2.2.2.2.2.2.2.2.1 s10.2.2.2.2.2.2.2.2.2.2.1 s10.2.2.2.2.2.2.2.2.2.2.2.1 s10.2.2.2.2.2.2.2.2.2.2.2.2.1 s10.2.2.2.2.2.2.2.2.2.2.2.2.2.1 s10.2.2.2.2.2.2.2.2.2.2.2.2.2.2.1 s10.2.2.2.2.2.2.2.2.2.2.2.2.2.2.2.1 s10.2.2.2.2.2.2.2.2.2.2.2.2.2.2.2.2.1)) (fun r10=>let y1:=(zrK N u9_11 u9_12 u9_13 u9_14 u9_0 u9_5 u9_3 u9_1 u9_2 r10 u9_4 u9_6 u9_7 u9_8 u9_9 u9_10 u9_15 u9_16 u9_17 u9_18); (cond (nB (zEw y0 u9_2)) y1 (cond (ieq y2.Page (-1)) y1 (oN (zgC y2.Rights u9_3) (cond (nB (zhj y2.Rights u9_3)) y1 (r10 (u9_2,(u9_4,(u9_6,(u9_7,(u9_8,(u9_9,(u9_10,(y2.Page,(y2.Rights,(u9_11,(u9_12,(u9_13,(u9_14,(u9_15,(u9_16,(u9_17,(u9_18,())))))))))))))))))))))))))))
def zrL (N:Nat)(a2:Int)(a0:Host)(a3 a4 a5:Int)(a1:lE)(a6:Bool):OA:=
 let y3:=(ztn a2 a3);let y2:=(zQ6 a0 a2 a3 a4 a5);let y1:=(ix a0.Mons a2 zf);let y5:=(ix y1.Guests a3 zi).Live;let y0:=(zmT a1 y3 a4);let y4:=y0.Rights; (oN (inb a2 (ln a0.Mons)) (oN (inb a3 (ln y1.Guests)) (oN (zse y5 a4 a5) (cond (nB (zjB y5 a4 a5)) (some [(aH a0),(aI (-1)),(aB false)]) (oN (zkM a2 a3) (cond (ieq a5 2) (oN (inb a2 (ln a0.Mons)) (oN (inb y2 (ln y1.Dirty)) (share (up a0.Mons a2 ({ y1 with Dirty:=(up y1.Dirty y2 true) }:Mon)) (fun x8=>(oN (zmU a1 y3 a4) (share (fun (s9:(Int×(Int×(Int×(Int×(Bool×(Int×(Int×(Int×(Int×(Int×(Int×(lM×(lN×(lE×(lE×(lM×(lN×(lE×(lE×Unit))))))))))))))))))))=>(zk8 N s9.1 s9.2.1 s9.2.2.1 s9.2.2.2.1 s9.2.2.2.2.1 s9.2.2.2.2.2.1 s9.2.2.2.2.2.2.1 s9.2.2.2.2.2.2.2.1 s9.2.2.2.2.2.2.2.2.1 s9.2.2.2.2.2.2.2.2.2.1 s9.2.2.2.2.2.2.2.2.2.2.1 s9.2.2.2.2.2.2.2.2.2.2.2.1 s9.2.2.2.2.2.2.2.2.2.2.2.2.1 s9.2.2.2.2.2.2.2.2.2.2.2.2.2.1 s9.2.2.2.2.2.2.2.2.2.2.2.2.2.2.1 s9.2.2.2.2.2.2.2.2.2.2.2.2.2.2.2.1 s9.2.2.2.2.2.2.2.2.2.2.2.2.2.2.2.2.1 s9.2.2.2.2.2.2.2.2.2.2.2.2.2.2.2.2.2.1 s9.2.2.2.2.2.2.2.2.2.2.2.2.2.2.2.2.2.2.1)) (fun r9=>(cond (zjy a1 y3 a4) (oN (zgC y4 a5) (cond (zhj y4 a5) (some [(aH ({ a0 with Mons:=x8 }:Host)),(aI y0.Host),(aB true)]) (r9 (a2,(a3,(a4,(a5,(a6,(y2,(y3,(y0.Tag,(y0.Page,(y0.Host,(y4,(a0.Memory,(x8,(a0.Buffer,(a0.IoBuffer,([],([],([],([],())))))))))))))))))))))) (r9 (a2,(a3,(a4,(a5,(a6,(y2,(y3,(y0.Tag,(y0.Page,(y0.Host,(y4,(a0.Memory,(x8,(a0.Buffer,(a0.IoBuffer,([],([],([],([],())))))))))))))))))))))))))))) (oN (zmU a1 y3 a4) (share (fun (s8:(Int×(Int×(Int×(Int×(Bool×(Int×(Int×(Int×(Int×(Int×(Int×(lM×(lN×(lE×(lE×(lM×(lN×(lE×(lE×Unit))))))))))))))))))))=>(zk8 N s8.1 s8.2.1 s8.2.2.1 s8.2.2.2.1 s8.2.2.2.2.1 s8.2.2.2.2.2.1 s8.2.2.2.2.2.2.1 s8.2.2.2.2.2.2.2.1 s8.2.2.2.2.2.2.2.2.1 s8.2.2.2.2.2.2.2.2.2.1 s8.2.2.2.2.2.2.2.2.2.2.1 s8.2.2.2.2.2.2.2.2.2.2.2.1 s8.2.2.2.2.2.2.2.2.2.2.2.2.1 s8.2.2.2.2.2.2.2.2.2.2.2.2.2.1 s8.2.2.2.2.2.2.2.2.2.2.2.2.2.2.1 s8.2.2.2.2.2.2.2.2.2.2.2.2.2.2.2.1 s8.2.2.2.2.2.2.2.2.2.2.2.2.2.2.2.2.1 s8.2.2.2.2.2.2.2.2.2.2.2.2.2.2.2.2.2.1 s8.2.2.2.2.2.2.2.2.2.2.2.2.2.2.2.2.2.2.1)) (fun r8=>(cond (zjy a1 y3 a4) (oN (zgC y4 a5) (cond (zhj y4 a5) (some [(aH a0),(aI y0.Host),(aB true)]) (r8 (a2,(a3,(a4,(a5,(a6,(y2,(y3,(y0.Tag,(y0.Page,(y0.Host,(y4,(a0.Memory,(a0.Mons,(a0.Buffer,(a0.IoBuffer,([],([],([],([],())))))))))))))))))))))) (r8 (a2,(a3,(a4,(a5,(a6,(y2,(y3,(y0.Tag,(y0.Page,(y0.Host,(y4,(a0.Memory,(a0.Mons,(a0.Buffer,(a0.IoBuffer,([],([],([],([],()))))))))))))))))))))))))))))))
def zqd (N:Nat)(a0:Host)(a1:lE)(a2 a3:Int)(a4 a5:Int)(a6:Bool):OA:=
 let y1:=(zrL N a2 a0 a3 a4 a5 a1 a6);let y0:=(wsub .i64 (ln (ix a0.Mons a2 zf).Guests) 1); (oN (ze5 a0) (cond (nB (ze4 a0)) (some [(aH a0),(aI (-1)),(aB false)]) (oN (zJ a2 0 (wsub .i64 (ln a0.Mons) 1)) (cond (nB (zL a2 0 (wsub .i64 (ln a0.Mons) 1))) (some [(aH a0),(aI (-1)),(aB false)]) (oN (inb a2 (ln a0.Mons)) (oN (zJ a3 0 y0) (cond (nB (zL a3 0 y0)) (some [(aH a0),(aI (-1)),(aB false)]) (cond (ine a5 1) (cond (ine a5 2) (some [(aH a0),(aI (-1)),(aB false)]) y1) y1))))))))
def zsl:FuncId->Nat->Option Tmpl:=zq [(36,999999,{ n:=0,tm:=[],lo:=[],ro:=[] }),(36,1007023,{ n:=210,tm:=[(2,ti),(3,ti),(4,ti),(5,ti),(6,.b),(7,.lp 0 0),(14,.lp 1 0),(17,ti),(19,ti),(20,.lp 2 0)],lo:=[(0,[.sl 0 [],.sl 1 [],.sl 2 [],.sl 3 []]),(1,[.sl 4 [],.sl 5 [],.sl 6 [],.sl 7 []]),(2,[ti,ti,ti,ti])],ro:=[(0,(.sl .int),true),(1,.mon,true),(2,.entry,true),(3,.entry,true),(4,(.sl .int),true),(5,.mon,true),(6,.entry,true),(7,.entry,true)],kr:=1 }),(36,1009011,{ n:=210,tm:=[(4,ti),(6,.b),(7,.lp 0 0),(14,.lp 1 0),(19,ti),(20,.lp 2 0),(22,.lp 3 0)],lo:=[(0,[.sl 0 [],.sl 1 [],.sl 2 [],.sl 3 []]),(1,[.sl 4 [],.sl 5 [],.sl 6 [],.sl 7 []]),(2,[ti,ti,ti,ti]),(3,[ti,ti])],ro:=[(0,(.sl .int),true),(1,.mon,true),(2,.entry,true),(3,.entry,true),(4,(.sl .int),true),(5,.mon,true),(6,.entry,true),(7,.entry,true)],kr:=1 }),(36,1005003,{ n:=210,tm:=[(7,.lp 0 0),(14,.lp 1 0),(22,.lp 2 0)],lo:=[(0,[.sl 0 [],.sl 1 [],.sl 2 [],.sl 3 []]),(1,[.sl 4 [],.sl 5 [],.sl 6 [],.sl 7 []]),(2,[ti,ti])],ro:=[(0,(.sl .int),true),(1,.mon,true),(2,.entry,true),(3,.entry,true),(4,(.sl .int),true),(5,.mon,true),(6,.entry,true),(7,.entry,true)],kr:=1 })]
theorem zPa (N:Nat)(a0:Host)(a2 a3:Int)(a4 a5:Int)(a6:Bool):zSK (cQ zmL zow z0w z0X) zsl N 12 36 [true,true,true,true,false,false,false,false,false,false] [(4,2)] 1 1 [[0],[1],[2],[4],[7]] .mon [aH a0,aS .entry a0.Buffer,aI a2,aI a3,aI a4,aI a5,aB a6]=zqd N a0 a0.Buffer a2 a3 a4 a5 a6:=by kernel_rfl
theorem zPb (N:Nat)(a0:Host)(a2 a3:Int)(a4 a5:Int)(a6:Bool):zSK (cQ zmL zow z0w z0X) zsl N 12 36 [true,true,true,true,false,false,false,false,false,false] [(4,3)] 1 1 [[0],[1],[2],[4],[7]] .mon [aH a0,aS .entry a0.IoBuffer,aI a2,aI a3,aI a4,aI a5,aB a6]=zqd N a0 a0.IoBuffer a2 a3 a4 a5 a6:=by kernel_rfl
theorem zEi {N:Nat}{r:Host}{m g page:Int}{io:Bool}{z1 z2 z3 z4}(hb:r.Buffer.length<=1048576)(hi:r.IoBuffer.length<=1048576) :
 zpk N page io (zdF m g) (zdy (zbP r m g) page).Page (zdy (zbP r m g) page).Rights r.Memory r.Mons r.Buffer r.IoBuffer z1 z2 z3 z4=some (zje (zed r m g page io)):=by
 unfold zpk oN
 conv=>zeta
 refine shr ?_;cases io
 .exact zcB rfl (must (zbe hb) rfl)
 .exact must rfl (must (zbe hi) rfl)
theorem zTH {N:Nat}{r:Host}{m g page need q:Int}{io:Bool}{R:OA}{r11}{u6 u7 u8 u9 u10 z1 z2 z3 z4}(A:LookAt r m g q need)(hr:r11 (page,(io,(u6,(u7,(u8,(u9,(u10,((zdy (zbP (zcc (mended r m q need) m g page) m g) page).Page,((zdy (zbP (zcc (mended r m q need) m g page) m g) page).Rights,((zcc (mended r m q need) m g page).Memory,((zcc (mended r m q need) m g page).Mons,((zcc (mended r m q need) m g page).Buffer,((zcc (mended r m q need) m g page).IoBuffer,(z1,(z2,(z3,(z4,())))))))))))))))))=R) :
 zrK N r.Memory r.Mons r.Buffer r.IoBuffer m q need g page r11 io u6 u7 u8 u9 u10 z1 z2 z3 z4=R:=by
 have M:=zlt A.kp A.hm A.hg;have F:=zlt (A.fill page) A.hm A.hg;unfold zrK oN
 conv=>zeta
 exact must (zbe A.mend) (must (zx M.hm) (must (zx M.hm) (must (zx M.ht) (must (zx M.hm) (must (zx M.hg) (must (zx M.hm) (must (zbe M.hk) (must (zx M.ht) (shr (must (zx F.hm) (must (zx F.ht) (must (zbe F.hk) hr))))))))))))
theorem zYV {r:Host}{m g page need:Int}(h:zit (zbP r m g) page=false):zd3 r m g page need=true:=by
 unfold zd3;rw[h];rfl
theorem zYW {r:Host}{m g page need:Int}(h:ieq (zdy (zbP r m g) page).Page (-1)=true):zd3 r m g page need=true:=by
 unfold zd3;rw[h];cases zit (zbP r m g) page<;>rfl
theorem zYX {r:Host}{m g page need:Int}(h:enough (zdy (zbP r m g) page).Rights need=false):zd3 r m g page need=true:=by
 unfold zd3;rw[h];cases zit (zbP r m g) page<;>cases ieq (zdy (zbP r m g) page).Page (-1)<;>rfl
theorem zYY {r:Host}{m g page need:Int}(h1:zit (zbP r m g) page=true)(h2:ieq (zdy (zbP r m g) page).Page (-1)=false)(h3:enough (zdy (zbP r m g) page).Rights need=true):zd3 r m g page need=false:=by
 unfold zd3;rw[h1,h2,h3];rfl
theorem ztg {r:Host}{m g page need q:Int}{io:Bool}(h:zd3 r m g page need=true):(cond (zd3 r m g page need) (zed (zcc (mended r m q need) m g page) m g page io) (zed r m g page io))=zed (zcc (mended r m q need) m g page) m g page io:=by
 rw[h];rfl
theorem zYA {r:Host}{m g page need q:Int}{io:Bool}(h:zd3 r m g page need=false):(cond (zd3 r m g page need) (zed (zcc (mended r m q need) m g page) m g page io) (zed r m g page io))=zed r m g page io:=by
 rw[h];rfl
theorem zEj {N:Nat}{r:Host}{m g page need q:Int}{io:Bool}{u7 u8 u9 u10 z1 z2 z3 z4}(A:LookAt r m g q need) :
 zk8 N m g page need io q (zdF m g) u7 u8 u9 u10 r.Memory r.Mons r.Buffer r.IoBuffer z1 z2 z3 z4=some (zje (cond (zd3 r m g page need) (zed (zcc (mended r m q need) m g page) m g page io) (zed r m g page io))):=by
 have M:=zlt ⟨A.fit.1,rfl⟩ A.hm A.hg;have F:=zlt (A.fill page) A.hm A.hg;unfold zk8 oN nB
 conv=>zeta
 refine must (zx M.hm) (must (zx M.ht) (must (zbe M.hk) (shr (brN (fun h1=>?_) (fun h1=>br (fun h2=>?_) (fun h2=>must rfl (brN (fun h3=>?_) (fun h3=>?_))))))))
 .rw [ztg (zYV h1)];exact zTH A (zEi (r:=zcc (mended r m q need) m g page) (m:=m) (g:=g) F.hb F.hi)
 .rw [ztg (zYW h2)];exact zTH A (zEi (r:=zcc (mended r m q need) m g page) (m:=m) (g:=g) F.hb F.hi)
 .rw [ztg (zYX h3)];exact zTH A (zEi (r:=zcc (mended r m q need) m g page) (m:=m) (g:=g) F.hb F.hi)
 .rw [zYA (zYY h1 h2 h3)];exact zEi (r:=r) (m:=m) (g:=g) M.hb M.hi
theorem zEm {b:List Entry}{m g page need:Int}(h:(zrd b m g page).isSome=false):zht b m g page need=false:=by
 unfold zht;rw[h];rfl
theorem znA {b:List Entry}{m g page need:Int}{x:Bool}(h1:(zrd b m g page).isSome=true)(h:enough ((zrd b m g page).getD ⟨0,0,0,0⟩).Rights need=x):zht b m g page need=x:=by
 unfold zht;rw[h1,h];rfl
theorem znH {r:Host}{b:List Entry}{m g page need q:Int}{io:Bool}(h:zht b m g page need=false):zfQ r b m g page need q io=bif zd3 r m g page need then zed (zcc (mended r m q need) m g page) m g page io else zed r m g page io:=by
 unfold zfQ;rw[h];rfl
theorem zEr {r:Host}{b:List Entry}{m g page need q:Int}{io:Bool}(h:zht b m g page need=true):zfQ r b m g page need q io=(r,((zrd b m g page).getD ⟨0,0,0,0⟩).Host,true):=by
 unfold zfQ;rw[h];rfl
theorem zIE {h:Host}{b:List Entry}{m g page need:Int}{io:Bool}(hh:zbJ h m g page need=true):lookOf h b m g page need io=zfQ (cond (ieq need 2) (zbt h m (zbY (zb8 h m g) page need)) h) b m g page need (zbY (zb8 h m g) page need) io:=by
 unfold lookOf;rw[hh];rfl
theorem z1S {N:Nat}{r:Host}{b:List Entry}{m g page need:Int}{io:Bool}(hs:SmH r)(hg:zbE r m g=true)(hn:zfw need=true) :
 zrL N m r g page need b io=some (zje (lookOf r b m g page need io)):=by
 obtain ⟨g1,g2,g3⟩:=zcH hg;unfold zrL oN nB
 conv=>zeta
 refine must (zx g2) (must (zx g3) (must rfl (brN (fun hw=>?_) (fun hw=>must rfl ?_))))
 .have:zbJ r m g page need=false:=by
   unfold zbJ;rw[hg,hn,show zdU (zb8 r m g) page need=false from hw]
   rfl
  rw[zgX this];rfl
 .have hl:zbJ r m g page need=true:=by
   unfold zbJ;rw[hg,hn,show zdU (zb8 r m g) page need=true from hw]
   rfl
  obtain ⟨A,B⟩:=zCA hs hl;rw[zIE hl];have hd:hasB (zbY (zb8 r m g) page need) (ln (ix r.Mons m mZ).Dirty)=true:=zdj (zcg A.fit.1 g2).2.2.2.1 A.hq;refine br (fun h2=>?_) (fun h2=>?_)
  .rw [h2]
   show _=some (zje (zfQ (zbt r m (zbY (zb8 r m g) page need)) b m g page need (zbY (zb8 r m g) page need) io))
   refine must (zx g2) (must (zx hd) (shr (must rfl (shr (br (fun f1=>must rfl (br (fun f2=>?_) (fun f2=>?_))) (fun f1=>?_))))))
   .rw [zEr (znA f1 f2)];rfl
   .rw [znH (znA f1 f2)];exact zEj (r:=zbt r m (zbY (zb8 r m g) page need)) B
   .rw [znH (zEm f1)];exact zEj (r:=zbt r m (zbY (zb8 r m g) page need)) B
  .rw [h2]
   show _=some (zje (zfQ r b m g page need (zbY (zb8 r m g) page need) io))
   refine must rfl (shr (br (fun f1=>must rfl (br (fun f2=>?_) (fun f2=>?_))) (fun f1=>?_)))
   .rw [zEr (znA f1 f2)];rfl
   .rw [znH (znA f1 f2)];exact zEj A
   .rw [znH (zEm f1)];exact zEj A
theorem zSm (a0:Host)(a1:List Entry)(a2 a3:Int)(a4 a5:Int)(a6:Bool)(hb:zbN big [aH a0,aS .entry a1,aI a2,aI a3,aI a4,aI a5,aB a6])(hc:zj2 a0 a1 a2 a3 a4 a5 a6=true):∃N,zqd N a0 a1 a2 a3 a4 a5 a6=some [aH (zeV a0 a1 a2 a3 a4 a5 a6),aI (zj1 a0 a1 a2 a3 a4 a5 a6),aB (zgO a0 a1 a2 a3 a4 a5 a6)]:=by
 have hs:=(zK a0).1 (zF.1 hc);refine ⟨0,?_⟩
 show _=some (zje (lookOf a0 a1 a2 a3 a4 a5 a6))
 unfold zqd oN nB
 conv=>zeta
 refine must rfl (brN (fun h1=>?_) (fun h1=>must rfl ?_))
 .rw [zgX (znI (zM9 h1))];rfl
 rw[show zL a2 0 (wsub .i64 (ln a0.Mons) 1)=hasB a2 (ln a0.Mons) from zqc hs.2.1.1 a2]
 refine brN (fun h2=>?_) (fun h2=>must (zx h2) (must rfl ?_))
 .rw [zgX (znI (zNa h2))];rfl
 have hl:(ix a0.Mons a2 mZ).Guests.length<=1048576:=(hs.2.1.2 _ (zbu h2 _)).2.2.2.1.1;rw[show zL a3 0 (wsub .i64 (ln (ix a0.Mons a2 zf).Guests) 1)=hasB a3 (ln (ix a0.Mons a2 mZ).Guests) from zqc hl a3]
 refine brN (fun h3=>?_) (fun h3=>?_)
 .rw [zgX (znI (zNb h3))];rfl
 have hg:=zNc h1 h2 h3;have hno:∀{n:Int},zfw n=false->zbJ a0 a2 a3 a4 n=false:=fun {n} h=>by
  unfold zbJ;rw[hg,h];rfl
 rw[zlo,zlo];cases h4:ieq a5 1
 .cases h5:ieq a5 2
  .have:zfw a5=false:=by unfold zfw;rw[h4,h5];rfl
   rw[zgX (hno this)];rfl
  .exact z1S hs hg (by unfold zfw;rw[h4,h5];rfl)
 .exact z1S hs hg (by unfold zfw;rw[h4];rfl)
theorem zLm:zdY Tryz.prog 36 [true,true,true,true,false,false,false,false,false,false] (some (1,1,[[0],[1],[2],[4],[7]])) zr8:=by
 refine zNd (kt:=.mon) (zc7 zg7 zk zbT zyk) (zem (by kernel_rfl)) ?_
 intro al avs rs hal heq hl hr h;have hb:=zih hr;have hal':al=[(4,2)]\/al=[(4,3)]:=by
  rw[show zhD 36=[[(4,2)],[(4,3)]] from by kernel_rfl]at hal
  simpa using hal
 unfold zr8 at h;split at h
 .rename_i a0_0 a0_1 a0_2 a0_3 a1 a2 a3 a4 a5 a6;obtain ⟨hc,rfl⟩:=zdQ h;obtain ⟨N,hN⟩:=zSm (⟨a0_0,a0_1,a0_2,a0_3⟩:Host) a1 a2 a3 a4 a5 a6 hb hc;refine ⟨⟨_,rfl⟩,rfl,zsl,N,12,?_⟩;rcases hal' with rfl|rfl
  .have e:=heq 4 2 (by simp)
   simp only[zA,j8,AV.cvs] at e;cases e;exact (zPa N (⟨a0_0,a0_1,a0_2,a0_3⟩:Host) a2 a3 a4 a5 a6).trans hN
  .have e:=heq 4 3 (by simp)
   simp only[zA,j8,AV.cvs] at e;cases e;exact (zPb N (⟨a0_0,a0_1,a0_2,a0_3⟩:Host) a2 a3 a4 a5 a6).trans hN
 .cases h
def z5D:zeX:=[(36,([true,true,true,true,false,false,false,false,false,false],(some (1,1,[[0],[1],[2],[4],[7]])),zr8))]++z0X
theorem zgm:zdZ z5D:=zp9 zyk (by
 intro x hx;simp only[qI,qX,or_false]at hx;rcases hx with rfl
 .exact zLm)
def gOf (h:Host)(m g:Int):Guest:=ix (ix h.Mons m mZ).Guests g gZ
def ze2 (h:Host)(m g:Int)(x:Guest):Host:={ h with Mons:=up h.Mons m { ix h.Mons m mZ with Guests:=up (ix h.Mons m mZ).Guests g x } }
def zhn (h:Host)(m g:Int)(x:Guest)(w:Bool):Host×Int×Bool:=lookOf h h.Buffer m g (zW (address x)) (zbM w) false
def zff (L:Host×Int×Bool)(m g:Int)(x:Guest)(w:Bool):Host :=
 bif L.2.2 then (cond w (ze2 { L.1 with Memory:=zbv L.1.Memory L.2.1 (zcG (address x)) x.A } m g (zbH x)) (ze2 L.1 m g (loaded x (cellAt L.1.Memory L.2.1 (zcG (address x))))))
 else ze2 L.1 m g (stopped x (znx (zW (address x)) w))
def owned (h:Host)(m:Int):Host:=bif ilt (ix h.Mons m mZ).Own 1000000000 then { h with Mons:=up h.Mons m { ix h.Mons m mZ with Own:=zI .i64 (ix h.Mons m mZ).Own 1 } } else h
def zfx (h:Host)(m n:Int):Host:=bif ilt (ln (ix h.Mons m mZ).Outs) 40 then { h with Mons:=up h.Mons m { ix h.Mons m mZ with Outs:=ap (ix h.Mons m mZ).Outs [n] } } else h
def zcW (h:Host)(m:Int)(x:Guest)(w:Int):Host:=bif (cond (ine w 6) (ieq (zh4 (ix h.Mons m mZ).Traps x.Ctl.Traps (zdL w)) 2) false) then owned h m else h
def zfs (h:Host)(m:Int)(x:Guest)(w:Int):Host:=bif (cond (zfg x.Ctl.Traps w) (ieq w 5) false) then zfx h m (zbW x.Prog x.Pc).X else h
def zhV (h:Host)(m g:Int)(x:Guest)(w:Int):Host:=ze2 (zfs (zcW h m x w) m x w) m g (zeP x x.Ctl.Traps w)
def zDY (h:Host)(m g:Int)(x:Guest)(w:Int):Host×Bool :=
 bif ieq w 0 then (h,false) else (bif ieq w 1 then (ze2 h m g (interrupted x),true) else (bif ieq w 2 then (ze2 h m g (plainly x),true) else
  (cond (cond (ieq w 3) true (ieq w 4)) (zff (zhn h m g x (ieq w 4)) m g x (ieq w 4),true) (zhV h m g x w,true))))
def zS (h:Host)(m g:Int):Host×Bool:=bif zbE h m g then zDY h m g (gOf h m g) (zC (gOf h m g)) else (h,false)
def zdS (x:Host×Bool):List AV:=[.agg (zbc x.1),.one (.b x.2)]
theorem zjG {h:Host}{m g:Int}(hs:SmH h)(hm:hasB m (ln h.Mons)=true)(hg:hasB g (ln (ix h.Mons m mZ).Guests)=true):SmG (gOf h m g):=(hs.2.1.2 _ (zbu hm _)).2.2.2.1.2 _ (zbu hg _)
theorem z0N {h:Host}{m g:Int}{x:Guest}(hs:Shape h)(hm:hasB m (ln h.Mons)=true)(hx:SmG x):Shape (ze2 h m g x):=by
 obtain ⟨g1,g2⟩:=zcg hs hm;exact zib hs ⟨g1.1,g1.2.1,g1.2.2.1,zEC g1.2.2.2.1 hx,g1.2.2.2.2⟩ ⟨g2.1,g2.2.1,g2.2.2.1,by simpa using g2.2.2.2⟩
theorem z9M (o i t:Int):ieq (zh4 o i t) 1=zcL i t:=by
 unfold zh4;cases zcL i t
 .cases zcL o t<;>rfl
 .rfl
theorem z9N {o i t:Int}(h:zcL i t=true):ieq (zh4 o i t) 2=false:=by
 unfold zh4;rw[h];rfl
theorem zox {h:Host}{m:Int}(hm:hasB m (ln h.Mons)=true)(x:Mon):ix (up h.Mons m x) m mZ=x:=by
 obtain ⟨k,rfl,hk⟩:=zdH (n:=h.Mons.length) hm;exact zdN hk _ _
@[simp] abbrev zet (h:Host)(m g:Int):Bool:=pc (zb2 h)
@[simp] abbrev zDL (h:Host)(m g:Int):Host:=(zS h m g).1
@[simp] abbrev zDM (h:Host)(m g:Int):Bool:=(zS h m g).2
theorem zSL {α:Type}{l:List α}{x:α}(h:ilt (ln l) 40=true):few (ln (ap l [x]))=true:=by
 have:=qE h;simp only[ln] at this;exact zgt (by simp[ap];omega)
theorem zY1 {h:Host}{m:Int}{x:Guest}{w:Int}(hh:(cond (zfg x.Ctl.Traps w) (ieq w 5) false)=false):zfs h m x w=h:=by
 unfold zfs;rw[hh];rfl
theorem zQ0 {h:Host}{m:Int}{x:Guest}{w:Int}(hh:ilt (ln (ix h.Mons m mZ).Outs) 40=false):zfs h m x w=h:=by
 unfold zfs zfx;rw[hh];cases (cond (zfg x.Ctl.Traps w) (ieq w 5) false)<;>rfl
theorem zWa {h:Host}{m:Int}{x:Guest}{w:Int}(h1:zfg x.Ctl.Traps w=true)(h2:ieq w 5=true)(hh:ilt (ln (ix h.Mons m mZ).Outs) 40=true):zfs h m x w={ h with Mons:=up h.Mons m { ix h.Mons m mZ with Outs:=ap (ix h.Mons m mZ).Outs [(zbW x.Prog x.Pc).X] } }:=by
 unfold zfs zfx;rw[h1,h2,hh];rfl
theorem zMK {h:Host}{m:Int}{x:Guest}{w:Int}(h1:zfg x.Ctl.Traps w=false):zfs h m x w=h:=zY1 (by rw[h1];rfl)
theorem zD2 {h:Host}{m:Int}{x:Guest}{w:Int}(h1:ieq w 5=false):zfs h m x w=h:=zY1 (by rw[h1];cases zfg x.Ctl.Traps w<;>rfl)
theorem zLr (a:Int):(cond (ieq a a) true false)=true:=by rw[zhe];rfl
theorem zhA {h:Host}{m g:Int}(hh:zbE h m g=false):zS h m g=(h,false):=by
 unfold zS;rw[hh];rfl
theorem zic {h:Host}{m g:Int}(hh:zbE h m g=true):zS h m g=zDY h m g (gOf h m g) (zC (gOf h m g)):=by
 unfold zS;rw[hh];rfl
theorem zlX {a b:Bool}(h:(cond a b false)=true):a=true/\b=true:=by
 cases a
 .cases h
 .exact ⟨rfl,h⟩
theorem zid {a b:Bool}(ha:a=true)(hb:b=true):(cond a b false)=true:=by
 rw[ha];exact hb
theorem zY4 {h:Host}{m:Int}{x:Guest}{w:Int}(h6:ine w 6=true)(h0:ieq (zh4 (ix h.Mons m mZ).Traps x.Ctl.Traps (zdL w)) 2=true)(h9:ilt (ix h.Mons m mZ).Own 1000000000=true):zcW h m x w={ h with Mons:=up h.Mons m { ix h.Mons m mZ with Own:=zI .i64 (ix h.Mons m mZ).Own 1 } }:=by
 unfold zcW owned;rw[h6,h0,h9];rfl
theorem zY2 {h:Host}{m:Int}{x:Guest}{w:Int}(h0:ieq (zh4 (ix h.Mons m mZ).Traps x.Ctl.Traps (zdL w)) 2=false):zcW h m x w=h:=by
 unfold zcW;rw[h0];cases ine w 6<;>rfl
theorem zY3 {h:Host}{m:Int}{x:Guest}{w:Int}(h9:ilt (ix h.Mons m mZ).Own 1000000000=false):zcW h m x w=h:=by
 unfold zcW owned;rw[h9];cases (cond (ine w 6) (ieq (zh4 (ix h.Mons m mZ).Traps x.Ctl.Traps (zdL w)) 2) false)<;>rfl
theorem z8U {h:Host}{m:Int}{x:Guest}:zcW h m x 6=h:=rfl
theorem znv {h h':Host}{m g:Int}{x:Guest}{w:Int}(e:zcW h m x w=h'):zhV h m g x w=ze2 (zfs h' m x w) m g (zeP x x.Ctl.Traps w):=by
 unfold zhV;rw[e]
theorem z5F (x:Guest):ieq (zC x) 0=true\/ieq (zC x) 1=true\/ieq (zC x) 2=true\/ieq (zC x) 3=true\/ieq (zC x) 4=true\/ieq (zC x) 5=true\/ieq (zC x) 6=true\/ieq (zC x) 7=true:=by
 cases h0:ieq (zC x) 0
 .cases h1:ieq (zC x) 1
  .cases h2:ieq (zC x) 2
   .cases h3:ieq (zC x) 3
    .cases h4:ieq (zC x) 4
     .cases h5:ieq (zC x) 5
      .cases h6:ieq (zC x) 6
       .exact .inr (.inr (.inr (.inr (.inr (.inr (.inr (z0Z x h0 h1 h2 h3 h4 h5 h6)))))))
       .exact .inr (.inr (.inr (.inr (.inr (.inr (.inl rfl))))))
      .exact .inr (.inr (.inr (.inr (.inr (.inl rfl)))))
     .exact .inr (.inr (.inr (.inr (.inl rfl))))
    .exact .inr (.inr (.inr (.inl rfl)))
   .exact .inr (.inr (.inl rfl))
  .exact .inr (.inl rfl)
 .exact .inl rfl
abbrev zAK (x:Guest):Bool:=bif zeD x then ieq (zC x) 0 else false
def zoF:List AV->Option (Bool×List AV)
 | [.agg [.s .ins c,.i .i64 d,.i .i64 e,.s .slot f,.s .slot g,.i .i64 h,.i .i64 j,.b k,.i .i64 l,.i .i64 m,.i .i64 n,.b o,.i .i64 p,.b q,.s .int r]]=>some ((zAK (⟨c,d,e,f,g,⟨h,j,k⟩,l,⟨m,n,o,p⟩,q,r⟩:Guest)),[.one (.i .i64 0)])
 | _=>none
theorem zEZ:vJ 252 zoF:=by
 refine ⟨zb6.1,fun w avs xs rs hrep h=>?_⟩;unfold zoF at h;split at h
 .obtain ⟨hc,rfl⟩:=zdQ h;obtain ⟨h1,h2⟩:=zlX hc;exact zb6.2 w _ xs _ hrep (congr (congrArg (fun c v=>some (c,[AV.one (CV.i .i64 v)])) h1) (qE h2))
 .cases h
def z7O:zO:=[(252,zoF)]++zmL
theorem zZr:zG z7O:=zh zEZ zg7
@[simp] abbrev zvF (h:Host)(m g:Int):Bool:=bif zet h m g then ieq (zC (gOf h m g)) 0 else false
@[simp] abbrev zvD (h:Host)(m g:Int):Host:=(zS h m g).1
@[simp] abbrev zvE (h:Host)(m g:Int):Bool:=(zS h m g).2
def zFn:Run:=rF3 dH dI dI fun b c d=>(zvF b c d,[aH (zvD b c d),aB (zvE b c d)])
def zuI (N:Nat)(a0:Host)(a1 a2:Int):OA:=
 let y1:=(zu a0);let y0:=(ix y1.Mons a1 zf).Guests; (oN (zbG a0) (oN (zgP y1 a1 a2) (cond (nB (ziG y1 a1 a2)) (some [(aH y1),(aB false)]) (oN (inb a1 (ln y1.Mons)) (oN (inb a2 (ln y0)) (oN (zAK (ix y0 a2 zi)) (some [(aH y1),(aB false)])))))))
abbrev zAL (x:Guest):Bool:=bif zeD x then ieq (zC x) 1 else false
def zoG:List AV->Option (Bool×List AV)
 | [.agg [.s .ins c,.i .i64 d,.i .i64 e,.s .slot f,.s .slot g,.i .i64 h,.i .i64 j,.b k,.i .i64 l,.i .i64 m,.i .i64 n,.b o,.i .i64 p,.b q,.s .int r]]=>some ((zAL (⟨c,d,e,f,g,⟨h,j,k⟩,l,⟨m,n,o,p⟩,q,r⟩:Guest)),[.one (.i .i64 1)])
 | _=>none
theorem zE0:vJ 252 zoG:=by
 refine ⟨zb6.1,fun w avs xs rs hrep h=>?_⟩;unfold zoG at h;split at h
 .obtain ⟨hc,rfl⟩:=zdQ h;obtain ⟨h1,h2⟩:=zlX hc;exact zb6.2 w _ xs _ hrep (congr (congrArg (fun c v=>some (c,[AV.one (CV.i .i64 v)])) h1) (qE h2))
 .cases h
def z7P:zO:=[(252,zoG)]++zmL
theorem zZs:zG z7P:=zh zE0 zg7
@[simp] abbrev zvI (h:Host)(m g:Int):Bool:=bif zet h m g then ieq (zC (gOf h m g)) 1 else false
@[simp] abbrev zvG (h:Host)(m g:Int):Host:=(zS h m g).1
@[simp] abbrev zvH (h:Host)(m g:Int):Bool:=(zS h m g).2
def zFo:Run:=rF3 dH dI dI fun b c d=>(zvI b c d,[aH (zvG b c d),aB (zvH b c d)])
def zuJ (N:Nat)(a0:Host)(a1 a2:Int):OA:=
 let y2:=(zu a0);let y0:=(ix y2.Mons a1 zf);let y1:=(ix y0.Guests a2 zi); (oN (zbG a0) (oN (zgP y2 a1 a2) (cond (nB (ziG y2 a1 a2)) (some [(aH y2),(aB false)]) (oN (inb a1 (ln y2.Mons)) (oN (inb a2 (ln y0.Guests)) (oN (zAL y1) (oN (inb a1 (ln y2.Mons)) (oN (zo1 y1) (oN (inb a2 (ln y0.Guests)) (share (up y2.Mons a1 ({ y0 with Guests:=(up y0.Guests a2 (zjz y1)) }:Mon)) (fun x4=>(some [(aH ({ y2 with Mons:=x4 }:Host)),(aB true)]))))))))))))
abbrev zAM (x:Guest):Bool:=bif zeD x then ieq (zC x) 2 else false
def zoH:List AV->Option (Bool×List AV)
 | [.agg [.s .ins c,.i .i64 d,.i .i64 e,.s .slot f,.s .slot g,.i .i64 h,.i .i64 j,.b k,.i .i64 l,.i .i64 m,.i .i64 n,.b o,.i .i64 p,.b q,.s .int r]]=>some ((zAM (⟨c,d,e,f,g,⟨h,j,k⟩,l,⟨m,n,o,p⟩,q,r⟩:Guest)),[.one (.i .i64 2)])
 | _=>none
theorem zE1:vJ 252 zoH:=by
 refine ⟨zb6.1,fun w avs xs rs hrep h=>?_⟩;unfold zoH at h;split at h
 .obtain ⟨hc,rfl⟩:=zdQ h;obtain ⟨h1,h2⟩:=zlX hc;exact zb6.2 w _ xs _ hrep (congr (congrArg (fun c v=>some (c,[AV.one (CV.i .i64 v)])) h1) (qE h2))
 .cases h
def z7Q:zO:=[(252,zoH)]++zmL
theorem zZt:zG z7Q:=zh zE1 zg7
@[simp] abbrev zvL (h:Host)(m g:Int):Bool:=bif zet h m g then ieq (zC (gOf h m g)) 2 else false
@[simp] abbrev zvJ (h:Host)(m g:Int):Host:=(zS h m g).1
@[simp] abbrev zvK (h:Host)(m g:Int):Bool:=(zS h m g).2
def zFp:Run:=rF3 dH dI dI fun b c d=>(zvL b c d,[aH (zvJ b c d),aB (zvK b c d)])
def zuK (N:Nat)(a0:Host)(a1 a2:Int):OA:=
 let y2:=(zu a0);let y0:=(ix y2.Mons a1 zf);let y1:=(ix y0.Guests a2 zi); (oN (zbG a0) (oN (zgP y2 a1 a2) (cond (nB (ziG y2 a1 a2)) (some [(aH y2),(aB false)]) (oN (inb a1 (ln y2.Mons)) (oN (inb a2 (ln y0.Guests)) (oN (zAM y1) (oN (inb a1 (ln y2.Mons)) (oN (zwJ y1) (oN (inb a2 (ln y0.Guests)) (share (up y2.Mons a1 ({ y0 with Guests:=(up y0.Guests a2 (zrz y1)) }:Mon)) (fun x4=>(some [(aH ({ y2 with Mons:=x4 }:Host)),(aB true)]))))))))))))
abbrev zAN (x:Guest):Bool:=bif zeD x then ieq (zC x) 3 else false
def zoI:List AV->Option (Bool×List AV)
 | [.agg [.s .ins c,.i .i64 d,.i .i64 e,.s .slot f,.s .slot g,.i .i64 h,.i .i64 j,.b k,.i .i64 l,.i .i64 m,.i .i64 n,.b o,.i .i64 p,.b q,.s .int r]]=>some ((zAN (⟨c,d,e,f,g,⟨h,j,k⟩,l,⟨m,n,o,p⟩,q,r⟩:Guest)),[.one (.i .i64 3)])
 | _=>none
theorem zE2:vJ 252 zoI:=by
 refine ⟨zb6.1,fun w avs xs rs hrep h=>?_⟩;unfold zoI at h;split at h
 .obtain ⟨hc,rfl⟩:=zdQ h;obtain ⟨h1,h2⟩:=zlX hc;exact zb6.2 w _ xs _ hrep (congr (congrArg (fun c v=>some (c,[AV.one (CV.i .i64 v)])) h1) (qE h2))
 .cases h
def z7R:zO:=[(252,zoI)]++zmL
theorem zZu:zG z7R:=zh zE2 zg7
@[simp] abbrev zvO (h:Host)(m g:Int):Bool:=bif zet h m g then ieq (zC (gOf h m g)) 3 else false
@[simp] abbrev zvM (h:Host)(m g:Int):Host:=(zS h m g).1
@[simp] abbrev zvN (h:Host)(m g:Int):Bool:=(zS h m g).2
def zFq:Run:=rF3 dH dI dI fun b c d=>(zvO b c d,[aH (zvM b c d),aB (zvN b c d)])
def zuL (N:Nat)(a0:Host)(a1 a2:Int):OA:=
 let y6:=(zu a0);let y9:=(ix y6.Mons a1 zf).Guests;let y1:=(ix y9 a2 zi);let y7:=(ziR y1);let y8:=(zcD y7);let y4:=(zj1 y6 y6.Buffer a1 a2 y8 (ze6 false) false);let y0:=(zeV y6 y6.Buffer a1 a2 y8 (ze6 false) false);let y3:=(ix y0.Mons a1 zf);let y5:=(ix y3.Guests a2 zi);let y2:=({ y1 with Prog:=y5.Prog,Written:=y5.Written,Live:=y5.Live,Seen:=y5.Seen }:Guest); (oN (zbG a0) (oN (zgP y6 a1 a2) (cond (nB (ziG y6 a1 a2)) (some [(aH y6),(aB false)]) (oN (inb a1 (ln y6.Mons)) (oN (inb a2 (ln y9)) (oN (zAN y1) (oN (zqB y1) (oN (zgd y7) (oN (zsO false) (oN (zj2 y6 y6.Buffer a1 a2 y8 (ze6 false) false) (cond (nB (zgO y6 y6.Buffer a1 a2 y8 (ze6 false) false)) (oN (inb a1 (ln y0.Mons)) (oN (zgd y7) (oN (zmS y8 false) (oN (zd6 y2 (zgK y8 false)) (oN (inb a2 (ln y3.Guests)) (share (up y0.Mons a1 ({ y3 with Guests:=(up y3.Guests a2 (zdG y2 (zgK y8 false))) }:Mon)) (fun x4=>(some [(aH ({ y0 with Mons:=x4 }:Host)),(aB true)])))))))) (oN (inb a1 (ln y0.Mons)) (oN (ziA y7) (oN (zsM y0.Memory y4 (zee y7)) (oN (zzl y2 (znj y0.Memory y4 (zee y7))) (oN (inb a2 (ln y3.Guests)) (share (up y0.Mons a1 ({ y3 with Guests:=(up y3.Guests a2 (zur y2 (znj y0.Memory y4 (zee y7)))) }:Mon)) (fun x4=>(some [(aH ({ y0 with Mons:=x4 }:Host)),(aB true)])))))))))))))))))))
abbrev zAO (x:Guest):Bool:=bif zeD x then ieq (zC x) 4 else false
def zoJ:List AV->Option (Bool×List AV)
 | [.agg [.s .ins c,.i .i64 d,.i .i64 e,.s .slot f,.s .slot g,.i .i64 h,.i .i64 j,.b k,.i .i64 l,.i .i64 m,.i .i64 n,.b o,.i .i64 p,.b q,.s .int r]]=>some ((zAO (⟨c,d,e,f,g,⟨h,j,k⟩,l,⟨m,n,o,p⟩,q,r⟩:Guest)),[.one (.i .i64 4)])
 | _=>none
theorem zE3:vJ 252 zoJ:=by
 refine ⟨zb6.1,fun w avs xs rs hrep h=>?_⟩;unfold zoJ at h;split at h
 .obtain ⟨hc,rfl⟩:=zdQ h;obtain ⟨h1,h2⟩:=zlX hc;exact zb6.2 w _ xs _ hrep (congr (congrArg (fun c v=>some (c,[AV.one (CV.i .i64 v)])) h1) (qE h2))
 .cases h
def z7S:zO:=[(252,zoJ)]++zmL
theorem zZv:zG z7S:=zh zE3 zg7
@[simp] abbrev zvR (h:Host)(m g:Int):Bool:=bif zet h m g then ieq (zC (gOf h m g)) 4 else false
@[simp] abbrev zvP (h:Host)(m g:Int):Host:=(zS h m g).1
@[simp] abbrev zvQ (h:Host)(m g:Int):Bool:=(zS h m g).2
def zFr:Run:=rF3 dH dI dI fun b c d=>(zvR b c d,[aH (zvP b c d),aB (zvQ b c d)])
def zuM (N:Nat)(a0:Host)(a1 a2:Int):OA:=
 let y4:=(zu a0);let y8:=(ix y4.Mons a1 zf).Guests;let y1:=(ix y8 a2 zi);let y9:=(ziR y1);let y5:=(zcD y9);let y7:=(zj1 y4 y4.Buffer a1 a2 y5 (ze6 true) false);let y0:=(zeV y4 y4.Buffer a1 a2 y5 (ze6 true) false);let y3:=(ix y0.Mons a1 zf);let y6:=(ix y3.Guests a2 zi);let y2:=({ y1 with Prog:=y6.Prog,Written:=y6.Written,Live:=y6.Live,Seen:=y6.Seen }:Guest); (oN (zbG a0) (oN (zgP y4 a1 a2) (cond (nB (ziG y4 a1 a2)) (some [(aH y4),(aB false)]) (oN (inb a1 (ln y4.Mons)) (oN (inb a2 (ln y8)) (oN (zAO y1) (oN (zqB y1) (oN (zgd y9) (oN (zsO true) (oN (zj2 y4 y4.Buffer a1 a2 y5 (ze6 true) false) (cond (nB (zgO y4 y4.Buffer a1 a2 y5 (ze6 true) false)) (oN (inb a1 (ln y0.Mons)) (oN (zgd y9) (oN (zmS y5 true) (oN (zd6 y2 (zgK y5 true)) (oN (inb a2 (ln y3.Guests)) (share (up y0.Mons a1 ({ y3 with Guests:=(up y3.Guests a2 (zdG y2 (zgK y5 true))) }:Mon)) (fun x4=>(some [(aH ({ y0 with Mons:=x4 }:Host)),(aB true)])))))))) (oN (ziA y9) (oN (ziF y0.Memory y7 (zee y9) y1.A) (oN (inb a1 (ln y0.Mons)) (oN (zzr y2) (oN (inb a2 (ln y3.Guests)) (share (up y0.Mons a1 ({ y3 with Guests:=(up y3.Guests a2 (zuu y2)) }:Mon)) (fun x4=>(some [(aH ({ y0 with Memory:=(zji y0.Memory y7 (zee y9) y1.A),Mons:=x4 }:Host)),(aB true)])))))))))))))))))))
abbrev zAP (x:Guest):Bool:=bif zeD x then ieq (zC x) 5 else false
def zoK:List AV->Option (Bool×List AV)
 | [.agg [.s .ins c,.i .i64 d,.i .i64 e,.s .slot f,.s .slot g,.i .i64 h,.i .i64 j,.b k,.i .i64 l,.i .i64 m,.i .i64 n,.b o,.i .i64 p,.b q,.s .int r]]=>some ((zAP (⟨c,d,e,f,g,⟨h,j,k⟩,l,⟨m,n,o,p⟩,q,r⟩:Guest)),[.one (.i .i64 5)])
 | _=>none
theorem zE4:vJ 252 zoK:=by
 refine ⟨zb6.1,fun w avs xs rs hrep h=>?_⟩;unfold zoK at h;split at h
 .obtain ⟨hc,rfl⟩:=zdQ h;obtain ⟨h1,h2⟩:=zlX hc;exact zb6.2 w _ xs _ hrep (congr (congrArg (fun c v=>some (c,[AV.one (CV.i .i64 v)])) h1) (qE h2))
 .cases h
def z7T:zO:=[(252,zoK)]++zmL
theorem zZw:zG z7T:=zh zE4 zg7
@[simp] abbrev zvU (h:Host)(m g:Int):Bool:=bif zet h m g then ieq (zC (gOf h m g)) 5 else false
@[simp] abbrev zvS (h:Host)(m g:Int):Host:=(zS h m g).1
@[simp] abbrev zvT (h:Host)(m g:Int):Bool:=(zS h m g).2
def zFs:Run:=rF3 dH dI dI fun b c d=>(zvU b c d,[aH (zvS b c d),aB (zvT b c d)])
def zuN (N:Nat)(a0:Host)(a1 a2:Int):OA:=
 let y8:=(zu a0);let y4:=(inb a1 (ln y8.Mons));let y2:=(ix y8.Mons a1 zf);let y10:=(inb a2 (ln y2.Guests));let y0:=(ix y2.Guests a2 zi);let y9:=(ap y2.Outs [(zfJ y0.Prog y0.Pc).X]);let y16:=(up y8.Mons a1 ({ y2 with Outs:=y9 }:Mon));let y7:=y0.Ctl.Traps;let y5:=(up y8.Mons a1 ({ y2 with Guests:=(up y2.Guests a2 (zb4 y0 y7 5)) }:Mon)); (oN (zbG a0) (oN (zgP y8 a1 a2) (cond (nB (ziG y8 a1 a2)) (some [(aH y8),(aB false)]) (oN y4 (oN y10 (oN (zAP y0) (oN y4 (oN (zqR y2.Traps y7 1) (cond (ieq (znL y2.Traps y7 1) 2) (oN y4 (cond (ilt y2.Own 1000000000) (oN y4 (oN y4 (share (up y8.Mons a1 ({ y2 with Own:=(zI .i64 y2.Own 1) }:Mon)) (fun x4=>let y12:=(inb a1 (ln x4));let y3:=(ix x4 a1 zf);let y6:=(ix y3.Guests a2 zi);let y17:=(ap y3.Outs [(zfJ y6.Prog y0.Pc).X]);let y1:=({ y0 with Prog:=y6.Prog,Written:=y6.Written,Live:=y6.Live,Seen:=y6.Seen }:Guest);let y11:=(up x4 a1 ({ y3 with Guests:=(up y3.Guests a2 (zb4 y1 y7 5)) }:Mon)); (oN (zdP y1 y7 5) (cond (zdi y1 y7 5) (oN y12 (cond (ilt (ln y3.Outs) 40) (oN y12 (oN (zfo y6.Prog y0.Pc) (oN (few (ln y17)) (oN y12 (oN (cond (ieq a1 a1) true false) (share (up x4 a1 ({ y3 with Outs:=y17 }:Mon)) (fun x5=>let y13:=(ix x5 a1 zf); (oN (inb a1 (ln x5)) (oN (inb a2 (ln y13.Guests)) (share (up x5 a1 ({ y13 with Guests:=(up y13.Guests a2 (zb4 y1 y7 5)) }:Mon)) (fun x6=>(some [(aH ({ y8 with Mons:=x6 }:Host)),(aB true)])))))))))))) (oN y12 (oN (inb a2 (ln y3.Guests)) (share y11 (fun x5=>(some [(aH ({ y8 with Mons:=x5 }:Host)),(aB true)]))))))) (oN y12 (oN (inb a2 (ln y3.Guests)) (share y11 (fun x5=>(some [(aH ({ y8 with Mons:=x5 }:Host)),(aB true)]))))))))))) (oN (zdP y0 y7 5) (cond (zdi y0 y7 5) (oN y4 (cond (ilt (ln y2.Outs) 40) (oN y4 (oN (zfo y0.Prog y0.Pc) (oN (few (ln y9)) (oN y4 (oN (cond (ieq a1 a1) true false) (share y16 (fun x4=>let y14:=(ix x4 a1 zf); (oN (inb a1 (ln x4)) (oN (inb a2 (ln y14.Guests)) (share (up x4 a1 ({ y14 with Guests:=(up y14.Guests a2 (zb4 y0 y7 5)) }:Mon)) (fun x5=>(some [(aH ({ y8 with Mons:=x5 }:Host)),(aB true)])))))))))))) (oN y4 (oN y10 (share y5 (fun x4=>(some [(aH ({ y8 with Mons:=x4 }:Host)),(aB true)]))))))) (oN y4 (oN y10 (share y5 (fun x4=>(some [(aH ({ y8 with Mons:=x4 }:Host)),(aB true)]))))))))) (oN (zdP y0 y7 5) (cond (zdi y0 y7 5) (oN y4 (cond (ilt (ln y2.Outs) 40) (oN y4 (oN (zfo y0.Prog y0.Pc) (oN (few (ln y9)) (oN y4 (oN (cond (ieq a1 a1) true false) (share y16 (fun x4=>let y15:=(ix x4 a1 zf); (oN (inb a1 (ln x4)) (oN (inb a2 (ln y15.Guests)) (share (up x4 a1 ({ y15 with Guests:=(up y15.Guests a2 (zb4 y0 y7 5)) }:Mon)) (fun x5=>(some [(aH ({ y8 with Mons:=x5 }:Host)),(aB true)])))))))))))) (oN y4 (oN y10 (share y5 (fun x4=>(some [(aH ({ y8 with Mons:=x4 }:Host)),(aB true)]))))))) (oN y4 (oN y10 (share y5 (fun x4=>(some [(aH ({ y8 with Mons:=x4 }:Host)),(aB true)]))))))))))))))))
abbrev zAQ (x:Guest):Bool:=bif zeD x then ieq (zC x) 6 else false
def zoL:List AV->Option (Bool×List AV)
 | [.agg [.s .ins c,.i .i64 d,.i .i64 e,.s .slot f,.s .slot g,.i .i64 h,.i .i64 j,.b k,.i .i64 l,.i .i64 m,.i .i64 n,.b o,.i .i64 p,.b q,.s .int r]]=>some ((zAQ (⟨c,d,e,f,g,⟨h,j,k⟩,l,⟨m,n,o,p⟩,q,r⟩:Guest)),[.one (.i .i64 6)])
 | _=>none
theorem zE5:vJ 252 zoL:=by
 refine ⟨zb6.1,fun w avs xs rs hrep h=>?_⟩;unfold zoL at h;split at h
 .obtain ⟨hc,rfl⟩:=zdQ h;obtain ⟨h1,h2⟩:=zlX hc;exact zb6.2 w _ xs _ hrep (congr (congrArg (fun c v=>some (c,[AV.one (CV.i .i64 v)])) h1) (qE h2))
 .cases h
def z7U:zO:=[(252,zoL)]++zmL
theorem zZx:zG z7U:=zh zE5 zg7
@[simp] abbrev zvX (h:Host)(m g:Int):Bool:=bif zet h m g then ieq (zC (gOf h m g)) 6 else false
@[simp] abbrev zvV (h:Host)(m g:Int):Host:=(zS h m g).1
@[simp] abbrev zvW (h:Host)(m g:Int):Bool:=(zS h m g).2
def zFt:Run:=rF3 dH dI dI fun b c d=>(zvX b c d,[aH (zvV b c d),aB (zvW b c d)])
def zuO (N:Nat)(a0:Host)(a1 a2:Int):OA:=
 let y3:=(zu a0);let y4:=(inb a1 (ln y3.Mons));let y0:=(ix y3.Mons a1 zf);let y5:=(inb a2 (ln y0.Guests));let y1:=(ix y0.Guests a2 zi);let y2:=(up y3.Mons a1 ({ y0 with Guests:=(up y0.Guests a2 (zb4 y1 y1.Ctl.Traps 6)) }:Mon)); (oN (zbG a0) (oN (zgP y3 a1 a2) (cond (nB (ziG y3 a1 a2)) (some [(aH y3),(aB false)]) (oN y4 (oN y5 (oN (zAQ y1) (oN (zdP y1 y1.Ctl.Traps 6) (cond (zdi y1 y1.Ctl.Traps 6) (oN y4 (oN y5 (share y2 (fun x4=>(some [(aH ({ y3 with Mons:=x4 }:Host)),(aB true)]))))) (oN y4 (oN y5 (share y2 (fun x4=>(some [(aH ({ y3 with Mons:=x4 }:Host)),(aB true)])))))))))))))
abbrev zAR (x:Guest):Bool:=bif zeD x then ieq (zC x) 7 else false
def zoM:List AV->Option (Bool×List AV)
 | [.agg [.s .ins c,.i .i64 d,.i .i64 e,.s .slot f,.s .slot g,.i .i64 h,.i .i64 j,.b k,.i .i64 l,.i .i64 m,.i .i64 n,.b o,.i .i64 p,.b q,.s .int r]]=>some ((zAR (⟨c,d,e,f,g,⟨h,j,k⟩,l,⟨m,n,o,p⟩,q,r⟩:Guest)),[.one (.i .i64 7)])
 | _=>none
theorem zE6:vJ 252 zoM:=by
 refine ⟨zb6.1,fun w avs xs rs hrep h=>?_⟩;unfold zoM at h;split at h
 .obtain ⟨hc,rfl⟩:=zdQ h;obtain ⟨h1,h2⟩:=zlX hc;exact zb6.2 w _ xs _ hrep (congr (congrArg (fun c v=>some (c,[AV.one (CV.i .i64 v)])) h1) (qE h2))
 .cases h
def z7V:zO:=[(252,zoM)]++zmL
theorem zZy:zG z7V:=zh zE6 zg7
@[simp] abbrev zv0 (h:Host)(m g:Int):Bool:=bif zet h m g then ieq (zC (gOf h m g)) 7 else false
@[simp] abbrev zvY (h:Host)(m g:Int):Host:=(zS h m g).1
@[simp] abbrev zvZ (h:Host)(m g:Int):Bool:=(zS h m g).2
def zFu:Run:=rF3 dH dI dI fun b c d=>(zv0 b c d,[aH (zvY b c d),aB (zvZ b c d)])
def zuP (N:Nat)(a0:Host)(a1 a2:Int):OA:=
 let y9:=(zu a0);let y4:=(inb a1 (ln y9.Mons));let y2:=(ix y9.Mons a1 zf);let y8:=(inb a2 (ln y2.Guests));let y0:=(ix y2.Guests a2 zi);let y6:=y0.Ctl.Traps;let y3:=(up y9.Mons a1 ({ y2 with Guests:=(up y2.Guests a2 (zb4 y0 y6 7)) }:Mon)); (oN (zbG a0) (oN (zgP y9 a1 a2) (cond (nB (ziG y9 a1 a2)) (some [(aH y9),(aB false)]) (oN y4 (oN y8 (oN (zAR y0) (oN y4 (oN (zqR y2.Traps y6 2) (cond (ieq (znL y2.Traps y6 2) 2) (oN y4 (cond (ilt y2.Own 1000000000) (oN y4 (oN y4 (share (up y9.Mons a1 ({ y2 with Own:=(zI .i64 y2.Own 1) }:Mon)) (fun x4=>let y5:=(ix x4 a1 zf);let y7:=(ix y5.Guests a2 zi);let y1:=({ y0 with Prog:=y7.Prog,Written:=y7.Written,Live:=y7.Live,Seen:=y7.Seen }:Guest);let y10:=(up x4 a1 ({ y5 with Guests:=(up y5.Guests a2 (zb4 y1 y6 7)) }:Mon)); (oN (zdP y1 y6 7) (cond (zdi y1 y6 7) (oN (inb a1 (ln x4)) (oN (inb a2 (ln y5.Guests)) (share y10 (fun x5=>(some [(aH ({ y9 with Mons:=x5 }:Host)),(aB true)]))))) (oN (inb a1 (ln x4)) (oN (inb a2 (ln y5.Guests)) (share y10 (fun x5=>(some [(aH ({ y9 with Mons:=x5 }:Host)),(aB true)]))))))))))) (oN (zdP y0 y6 7) (cond (zdi y0 y6 7) (oN y4 (oN y8 (share y3 (fun x4=>(some [(aH ({ y9 with Mons:=x4 }:Host)),(aB true)]))))) (oN y4 (oN y8 (share y3 (fun x4=>(some [(aH ({ y9 with Mons:=x4 }:Host)),(aB true)]))))))))) (oN (zdP y0 y6 7) (cond (zdi y0 y6 7) (oN y4 (oN y8 (share y3 (fun x4=>(some [(aH ({ y9 with Mons:=x4 }:Host)),(aB true)]))))) (oN y4 (oN y8 (share y3 (fun x4=>(some [(aH ({ y9 with Mons:=x4 }:Host)),(aB true)]))))))))))))))))
theorem zFc (a0:Host)(a1 a2:Int)(hc:zvF a0 a1 a2=true):∃N,zuI N a0 a1 a2=some [aH (zvD a0 a1 a2),aB (zvE a0 a1 a2)]:=by
 obtain ⟨hc,hw⟩:=zlX hc;have hs:=(zK a0).1 (zF.1 hc);refine ⟨0,?_⟩
 show _=some (zdS (zS a0 a1 a2))
 unfold zuI oN nB
 conv=>zeta
 refine must (zbe ((zK _).2 hs)) (must (zbe ((zK _).2 hs)) (brN (fun hh=>?_) (fun hh=>?_)))
 .rw [zhA hh];rfl
 obtain ⟨g1,g2,g3⟩:=zcH hh;have hx:=zjG hs g2 g3;have hk:zC (gOf a0 a1 a2)=0:=qE hw;rw[zic hh,hk];refine must (zx g2) (must (zx g3) (must (zid rfl hw) ?_));rfl
theorem zph:vJ 190 zFn:=kF3 zZr zk zbT zgm (zq []) zFc
theorem zFd (a0:Host)(a1 a2:Int)(hc:zvI a0 a1 a2=true):∃N,zuJ N a0 a1 a2=some [aH (zvG a0 a1 a2),aB (zvH a0 a1 a2)]:=by
 obtain ⟨hc,hw⟩:=zlX hc;have hs:=(zK a0).1 (zF.1 hc);refine ⟨0,?_⟩
 show _=some (zdS (zS a0 a1 a2))
 unfold zuJ oN nB
 conv=>zeta
 refine must (zbe ((zK _).2 hs)) (must (zbe ((zK _).2 hs)) (brN (fun hh=>?_) (fun hh=>?_)))
 .rw [zhA hh];rfl
 obtain ⟨g1,g2,g3⟩:=zcH hh;have hx:=zjG hs g2 g3;have hk:zC (gOf a0 a1 a2)=1:=qE hw;rw[zic hh,hk];refine must (zx g2) (must (zx g3) (must (zid rfl hw) ?_))
 show _=some (zdS (ze2 a0 a1 a2 (interrupted (gOf a0 a1 a2)),true))
 exact must (zx g2) (must (zbe hx) (must (zx g3) rfl))
theorem zAZ:vJ 190 zFo:=kF3 zZs zk zbT zgm (zq []) zFd
theorem zFe (a0:Host)(a1 a2:Int)(hc:zvL a0 a1 a2=true):∃N,zuK N a0 a1 a2=some [aH (zvJ a0 a1 a2),aB (zvK a0 a1 a2)]:=by
 obtain ⟨hc,hw⟩:=zlX hc;have hs:=(zK a0).1 (zF.1 hc);refine ⟨0,?_⟩
 show _=some (zdS (zS a0 a1 a2))
 unfold zuK oN nB
 conv=>zeta
 refine must (zbe ((zK _).2 hs)) (must (zbe ((zK _).2 hs)) (brN (fun hh=>?_) (fun hh=>?_)))
 .rw [zhA hh];rfl
 obtain ⟨g1,g2,g3⟩:=zcH hh;have hx:=zjG hs g2 g3;have hk:zC (gOf a0 a1 a2)=2:=qE hw;rw[zic hh,hk];refine must (zx g2) (must (zx g3) (must (zid rfl hw) ?_))
 show _=some (zdS (ze2 a0 a1 a2 (plainly (gOf a0 a1 a2)),true))
 exact must (zx g2) (must (zbe hx) (must (zx g3) rfl))
theorem zA0:vJ 190 zFp:=kF3 zZt zk zbT zgm (zq []) zFe
theorem zFf (a0:Host)(a1 a2:Int)(hc:zvO a0 a1 a2=true):∃N,zuL N a0 a1 a2=some [aH (zvM a0 a1 a2),aB (zvN a0 a1 a2)]:=by
 obtain ⟨hc,hw⟩:=zlX hc;have hs:=(zK a0).1 (zF.1 hc);refine ⟨0,?_⟩
 show _=some (zdS (zS a0 a1 a2))
 unfold zuL oN nB
 conv=>zeta
 refine must (zbe ((zK _).2 hs)) (must (zbe ((zK _).2 hs)) (brN (fun hh=>?_) (fun hh=>?_)))
 .rw [zhA hh];rfl
 obtain ⟨g1,g2,g3⟩:=zcH hh;have hx:=zjG hs g2 g3;have hk:zC (gOf a0 a1 a2)=3:=qE hw;rw[zic hh,hk];refine must (zx g2) (must (zx g3) (must (zid rfl hw) ?_))
 show _=some (zdS (zff (zhn a0 a1 a2 (gOf a0 a1 a2) false) a1 a2 (gOf a0 a1 a2) false,true))
 have k:=ztf (b:=a0.Buffer) (page:=zW (address (gOf a0 a1 a2))) (need:=zbM false) (io:=false) hs hh;have F:=zlt k g2 g3;have e3:(ix (ix (zeV (zu a0) (zu a0).Buffer a1 a2 (zcD (ziR (ix (ix (zu a0).Mons a1 zf).Guests a2 zi))) (ze6 false) false).Mons a1 zf).Guests a2 zi)=(ix (ix (zu a0).Mons a1 zf).Guests a2 zi):=congrArg (fun l=>ix l a2 gZ) (zKA k.gs a1);rw[e3];unfold zff;refine must rfl (must rfl (must rfl (must (zbe ((zK _).2 hs)) (brN (fun h=>?_) (fun h=>?_)))))
 .rw [show (zhn a0 a1 a2 (gOf a0 a1 a2) false).2.2=false from h]
  exact must (zx F.hm) (must rfl (must rfl (must (zbe hx) (must (zx F.hg) rfl))))
 .rw [show (zhn a0 a1 a2 (gOf a0 a1 a2) false).2.2=true from h]
  exact must (zx F.hm) (must rfl (must rfl (must (zbe hx) (must (zx F.hg) rfl))))
theorem zA1:vJ 190 zFq:=kF3 zZu zk zbT zgm (zq []) zFf
theorem zFg (a0:Host)(a1 a2:Int)(hc:zvR a0 a1 a2=true):∃N,zuM N a0 a1 a2=some [aH (zvP a0 a1 a2),aB (zvQ a0 a1 a2)]:=by
 obtain ⟨hc,hw⟩:=zlX hc;have hs:=(zK a0).1 (zF.1 hc);refine ⟨0,?_⟩
 show _=some (zdS (zS a0 a1 a2))
 unfold zuM oN nB
 conv=>zeta
 refine must (zbe ((zK _).2 hs)) (must (zbe ((zK _).2 hs)) (brN (fun hh=>?_) (fun hh=>?_)))
 .rw [zhA hh];rfl
 obtain ⟨g1,g2,g3⟩:=zcH hh;have hx:=zjG hs g2 g3;have hk:zC (gOf a0 a1 a2)=4:=qE hw;rw[zic hh,hk];refine must (zx g2) (must (zx g3) (must (zid rfl hw) ?_))
 show _=some (zdS (zff (zhn a0 a1 a2 (gOf a0 a1 a2) true) a1 a2 (gOf a0 a1 a2) true,true))
 have k:=ztf (b:=a0.Buffer) (page:=zW (address (gOf a0 a1 a2))) (need:=zbM true) (io:=false) hs hh;have F:=zlt k g2 g3;have e3:(ix (ix (zeV (zu a0) (zu a0).Buffer a1 a2 (zcD (ziR (ix (ix (zu a0).Mons a1 zf).Guests a2 zi))) (ze6 true) false).Mons a1 zf).Guests a2 zi)=(ix (ix (zu a0).Mons a1 zf).Guests a2 zi):=congrArg (fun l=>ix l a2 gZ) (zKA k.gs a1);rw[e3];unfold zff;refine must rfl (must rfl (must rfl (must (zbe ((zK _).2 hs)) (brN (fun h=>?_) (fun h=>?_)))))
 .rw [show (zhn a0 a1 a2 (gOf a0 a1 a2) true).2.2=false from h]
  exact must (zx F.hm) (must rfl (must rfl (must (zbe hx) (must (zx F.hg) rfl))))
 .rw [show (zhn a0 a1 a2 (gOf a0 a1 a2) true).2.2=true from h]
  exact must rfl (must (zbe k.shape.1.1) (must (zx F.hm) (must (zbe hx) (must (zx F.hg) rfl))))
theorem zA2:vJ 190 zFr:=kF3 zZv zk zbT zgm (zq []) zFg
theorem z6V {a0:Host}{a1 a2:Int}(hx:SmG (gOf a0 a1 a2))(g2:hasB a1 (ln a0.Mons)=true)(g3:hasB a2 (ln (ix a0.Mons a1 mZ).Guests)=true) :
 (cond (zdP (ix (ix (zu a0).Mons a1 zf).Guests a2 zi) (ix (ix (zu a0).Mons a1 zf).Guests a2 zi).Ctl.Traps 5) (cond (zdi (ix (ix (zu a0).Mons a1 zf).Guests a2 zi) (ix (ix (zu a0).Mons a1 zf).Guests a2 zi).Ctl.Traps 5) (cond (inb a1 (ln (zu a0).Mons)) (cond (ilt (ln (ix (zu a0).Mons a1 zf).Outs) 40) (cond (inb a1 (ln (zu a0).Mons)) (cond (zfo (ix (ix (zu a0).Mons a1 zf).Guests a2 zi).Prog (ix (ix (zu a0).Mons a1 zf).Guests a2 zi).Pc) (cond (few (ln (ap (ix (zu a0).Mons a1 zf).Outs [(zfJ (ix (ix (zu a0).Mons a1 zf).Guests a2 zi).Prog (ix (ix (zu a0).Mons a1 zf).Guests a2 zi).Pc).X]))) (cond (inb a1 (ln (zu a0).Mons)) (cond (cond (ieq a1 a1) true false) (share (up (zu a0).Mons a1 ({ (ix (zu a0).Mons a1 zf) with Outs:=(ap (ix (zu a0).Mons a1 zf).Outs [(zfJ (ix (ix (zu a0).Mons a1 zf).Guests a2 zi).Prog (ix (ix (zu a0).Mons a1 zf).Guests a2 zi).Pc).X]) }:Mon)) (fun x4=>(cond (inb a1 (ln x4)) (cond (inb a2 (ln (ix x4 a1 zf).Guests)) (share (up x4 a1 ({ (ix x4 a1 zf) with Guests:=(up (ix x4 a1 zf).Guests a2 (zb4 (ix (ix (zu a0).Mons a1 zf).Guests a2 zi) (ix (ix (zu a0).Mons a1 zf).Guests a2 zi).Ctl.Traps 5)) }:Mon)) (fun x5=>(some [(.agg (zbc ({ (zu a0) with Mons:=x5 }:Host))),(.one (.b true))]))) none) none))) none) none) none) none) none) (cond (inb a1 (ln (zu a0).Mons)) (cond (inb a2 (ln (ix (zu a0).Mons a1 zf).Guests)) (share (up (zu a0).Mons a1 ({ (ix (zu a0).Mons a1 zf) with Guests:=(up (ix (zu a0).Mons a1 zf).Guests a2 (zb4 (ix (ix (zu a0).Mons a1 zf).Guests a2 zi) (ix (ix (zu a0).Mons a1 zf).Guests a2 zi).Ctl.Traps 5)) }:Mon)) (fun x4=>(some [(.agg (zbc ({ (zu a0) with Mons:=x4 }:Host))),(.one (.b true))]))) none) none)) none) (cond (inb a1 (ln (zu a0).Mons)) (cond (inb a2 (ln (ix (zu a0).Mons a1 zf).Guests)) (share (up (zu a0).Mons a1 ({ (ix (zu a0).Mons a1 zf) with Guests:=(up (ix (zu a0).Mons a1 zf).Guests a2 (zb4 (ix (ix (zu a0).Mons a1 zf).Guests a2 zi) (ix (ix (zu a0).Mons a1 zf).Guests a2 zi).Ctl.Traps 5)) }:Mon)) (fun x4=>(some [(.agg (zbc ({ (zu a0) with Mons:=x4 }:Host))),(.one (.b true))]))) none) none)) none)=some (zdS (ze2 (zfs a0 a1 (gOf a0 a1 a2) 5) a1 a2 (zeP (gOf a0 a1 a2) (gOf a0 a1 a2).Ctl.Traps 5),true)):=by
 refine must (zbe hx) (br (fun h1=>must (zx g2) (br (fun h3=>?_) (fun h3=>?_))) (fun h1=>?_))
 .rw [zWa (h:=a0) (m:=a1) (x:=gOf a0 a1 a2) (w:=5) h1 rfl h3];refine must (zx g2) (must rfl (must (zSL h3) (must (zx g2) (must (zLr _) (shr (must (zx (zeh g2)) (must ?_ rfl)))))));rw[zox g2];exact zx g3
 .rw [zQ0 (h:=a0) (m:=a1) (x:=gOf a0 a1 a2) (w:=5) h3];exact must (zx g2) (must (zx g3) rfl)
 .rw [zMK (h:=a0) (m:=a1) (x:=gOf a0 a1 a2) (w:=5) h1];exact must (zx g2) (must (zx g3) rfl)
theorem zbac {a0:Host}{x4:List Mon}{a1 a2:Int}(hx:SmG (gOf a0 a1 a2))(g2:hasB a1 (ln x4)=true)(g3:hasB a2 (ln (ix x4 a1 mZ).Guests)=true)(e:(ix (ix x4 a1 zf).Guests a2 zi)=gOf a0 a1 a2) :
 (cond (zdP ({ (ix (ix (zu a0).Mons a1 zf).Guests a2 zi) with Prog:=(ix (ix x4 a1 zf).Guests a2 zi).Prog,Written:=(ix (ix x4 a1 zf).Guests a2 zi).Written,Live:=(ix (ix x4 a1 zf).Guests a2 zi).Live,Seen:=(ix (ix x4 a1 zf).Guests a2 zi).Seen }:Guest) (ix (ix (zu a0).Mons a1 zf).Guests a2 zi).Ctl.Traps 5) (cond (zdi ({ (ix (ix (zu a0).Mons a1 zf).Guests a2 zi) with Prog:=(ix (ix x4 a1 zf).Guests a2 zi).Prog,Written:=(ix (ix x4 a1 zf).Guests a2 zi).Written,Live:=(ix (ix x4 a1 zf).Guests a2 zi).Live,Seen:=(ix (ix x4 a1 zf).Guests a2 zi).Seen }:Guest) (ix (ix (zu a0).Mons a1 zf).Guests a2 zi).Ctl.Traps 5) (cond (inb a1 (ln x4)) (cond (ilt (ln (ix x4 a1 zf).Outs) 40) (cond (inb a1 (ln x4)) (cond (zfo (ix (ix x4 a1 zf).Guests a2 zi).Prog (ix (ix (zu a0).Mons a1 zf).Guests a2 zi).Pc) (cond (few (ln (ap (ix x4 a1 zf).Outs [(zfJ (ix (ix x4 a1 zf).Guests a2 zi).Prog (ix (ix (zu a0).Mons a1 zf).Guests a2 zi).Pc).X]))) (cond (inb a1 (ln x4)) (cond (cond (ieq a1 a1) true false) (share (up x4 a1 ({ (ix x4 a1 zf) with Outs:=(ap (ix x4 a1 zf).Outs [(zfJ (ix (ix x4 a1 zf).Guests a2 zi).Prog (ix (ix (zu a0).Mons a1 zf).Guests a2 zi).Pc).X]) }:Mon)) (fun x5=>(cond (inb a1 (ln x5)) (cond (inb a2 (ln (ix x5 a1 zf).Guests)) (share (up x5 a1 ({ (ix x5 a1 zf) with Guests:=(up (ix x5 a1 zf).Guests a2 (zb4 ({ (ix (ix (zu a0).Mons a1 zf).Guests a2 zi) with Prog:=(ix (ix x4 a1 zf).Guests a2 zi).Prog,Written:=(ix (ix x4 a1 zf).Guests a2 zi).Written,Live:=(ix (ix x4 a1 zf).Guests a2 zi).Live,Seen:=(ix (ix x4 a1 zf).Guests a2 zi).Seen }:Guest) (ix (ix (zu a0).Mons a1 zf).Guests a2 zi).Ctl.Traps 5)) }:Mon)) (fun x6=>(some [(.agg (zbc ({ (zu a0) with Mons:=x6 }:Host))),(.one (.b true))]))) none) none))) none) none) none) none) none) (cond (inb a1 (ln x4)) (cond (inb a2 (ln (ix x4 a1 zf).Guests)) (share (up x4 a1 ({ (ix x4 a1 zf) with Guests:=(up (ix x4 a1 zf).Guests a2 (zb4 ({ (ix (ix (zu a0).Mons a1 zf).Guests a2 zi) with Prog:=(ix (ix x4 a1 zf).Guests a2 zi).Prog,Written:=(ix (ix x4 a1 zf).Guests a2 zi).Written,Live:=(ix (ix x4 a1 zf).Guests a2 zi).Live,Seen:=(ix (ix x4 a1 zf).Guests a2 zi).Seen }:Guest) (ix (ix (zu a0).Mons a1 zf).Guests a2 zi).Ctl.Traps 5)) }:Mon)) (fun x5=>(some [(.agg (zbc ({ (zu a0) with Mons:=x5 }:Host))),(.one (.b true))]))) none) none)) none) (cond (inb a1 (ln x4)) (cond (inb a2 (ln (ix x4 a1 zf).Guests)) (share (up x4 a1 ({ (ix x4 a1 zf) with Guests:=(up (ix x4 a1 zf).Guests a2 (zb4 ({ (ix (ix (zu a0).Mons a1 zf).Guests a2 zi) with Prog:=(ix (ix x4 a1 zf).Guests a2 zi).Prog,Written:=(ix (ix x4 a1 zf).Guests a2 zi).Written,Live:=(ix (ix x4 a1 zf).Guests a2 zi).Live,Seen:=(ix (ix x4 a1 zf).Guests a2 zi).Seen }:Guest) (ix (ix (zu a0).Mons a1 zf).Guests a2 zi).Ctl.Traps 5)) }:Mon)) (fun x5=>(some [(.agg (zbc ({ (zu a0) with Mons:=x5 }:Host))),(.one (.b true))]))) none) none)) none)=some (zdS (ze2 (zfs { a0 with Mons:=x4 } a1 (gOf a0 a1 a2) 5) a1 a2 (zeP (gOf a0 a1 a2) (gOf a0 a1 a2).Ctl.Traps 5),true)):=by
 rw[e];refine must (zbe hx) (br (fun h1=>must (zx g2) (br (fun h3=>?_) (fun h3=>?_))) (fun h1=>?_))
 .rw [zWa (h:={ a0 with Mons:=x4 }) (m:=a1) (x:=gOf a0 a1 a2) (w:=5) h1 rfl h3];refine must (zx g2) (must rfl (must (zSL h3) (must (zx g2) (must (zLr _) (shr (must (zx (zeh (h:={ a0 with Mons:=x4 }) g2)) (must ?_ rfl)))))));rw[zox (h:={ a0 with Mons:=x4 }) g2];exact zx g3
 .rw [zQ0 (h:={ a0 with Mons:=x4 }) (m:=a1) (x:=gOf a0 a1 a2) (w:=5) h3];exact must (zx g2) (must (zx g3) rfl)
 .rw [zMK (h:={ a0 with Mons:=x4 }) (m:=a1) (x:=gOf a0 a1 a2) (w:=5) h1];exact must (zx g2) (must (zx g3) rfl)
theorem zFh (a0:Host)(a1 a2:Int)(hc:zvU a0 a1 a2=true):∃N,zuN N a0 a1 a2=some [aH (zvS a0 a1 a2),aB (zvT a0 a1 a2)]:=by
 obtain ⟨hc,hw⟩:=zlX hc;have hs:=(zK a0).1 (zF.1 hc);refine ⟨0,?_⟩
 show _=some (zdS (zS a0 a1 a2))
 unfold zuN oN nB
 conv=>zeta
 refine must (zbe ((zK _).2 hs)) (must (zbe ((zK _).2 hs)) (brN (fun hh=>?_) (fun hh=>?_)))
 .rw [zhA hh];rfl
 obtain ⟨g1,g2,g3⟩:=zcH hh;have hx:=zjG hs g2 g3;have hk:zC (gOf a0 a1 a2)=5:=qE hw;rw[zic hh,hk];refine must (zx g2) (must (zx g3) (must (zid rfl hw) ?_))
 show _=some (zdS (zhV a0 a1 a2 (gOf a0 a1 a2) 5,true))
 refine must (zx g2) (must rfl (br (fun h0=>must (zx g2) (br (fun h9=>must (zx g2) (must (zx g2) (shr ?_))) (fun h9=>?_))) (fun h0=>?_)))
 .rw [znv (zY4 (h:=a0) (m:=a1) (x:=gOf a0 a1 a2) (w:=5) rfl h0 h9)];have eM:=zox g2 { ix a0.Mons a1 mZ with Own:=zI .i64 (ix a0.Mons a1 mZ).Own 1 };refine zbac hx (zeh g2) ?_ ?_
  .show hasB a2 (ln (ix (up a0.Mons a1 _) a1 mZ).Guests)=true
   rw[eM];exact g3
  .show ix (ix (up a0.Mons a1 _) a1 mZ).Guests a2 gZ=_
   rw[eM];rfl
 .rw [znv (zY3 (h:=a0) (m:=a1) (x:=gOf a0 a1 a2) (w:=5) h9)];exact z6V hx g2 g3
 .rw [znv (zY2 (h:=a0) (m:=a1) (x:=gOf a0 a1 a2) (w:=5) h0)];exact z6V hx g2 g3
theorem zA3:vJ 190 zFs:=kF3 zZw zk zbT zgm (zq []) zFh
theorem zFi (a0:Host)(a1 a2:Int)(hc:zvX a0 a1 a2=true):∃N,zuO N a0 a1 a2=some [aH (zvV a0 a1 a2),aB (zvW a0 a1 a2)]:=by
 obtain ⟨hc,hw⟩:=zlX hc;have hs:=(zK a0).1 (zF.1 hc);refine ⟨0,?_⟩
 show _=some (zdS (zS a0 a1 a2))
 unfold zuO oN nB
 conv=>zeta
 refine must (zbe ((zK _).2 hs)) (must (zbe ((zK _).2 hs)) (brN (fun hh=>?_) (fun hh=>?_)))
 .rw [zhA hh];rfl
 obtain ⟨g1,g2,g3⟩:=zcH hh;have hx:=zjG hs g2 g3;have hk:zC (gOf a0 a1 a2)=6:=qE hw;rw[zic hh,hk];refine must (zx g2) (must (zx g3) (must (zid rfl hw) ?_))
 show _=some (zdS (zhV a0 a1 a2 (gOf a0 a1 a2) 6,true))
 rw[znv (z8U (h:=a0) (m:=a1) (x:=gOf a0 a1 a2)),zD2 (w:=6) rfl];exact must (zbe hx) (br (fun h1=>must (zx g2) (must (zx g3) rfl)) (fun h1=>must (zx g2) (must (zx g3) rfl)))
theorem zA4:vJ 190 zFt:=kF3 zZx zk zbT zgm (zq []) zFi
theorem z6W {a0:Host}{a1 a2:Int}(hx:SmG (gOf a0 a1 a2))(g2:hasB a1 (ln a0.Mons)=true)(g3:hasB a2 (ln (ix a0.Mons a1 mZ).Guests)=true) :
 (cond (zdP (ix (ix (zu a0).Mons a1 zf).Guests a2 zi) (ix (ix (zu a0).Mons a1 zf).Guests a2 zi).Ctl.Traps 7) (cond (zdi (ix (ix (zu a0).Mons a1 zf).Guests a2 zi) (ix (ix (zu a0).Mons a1 zf).Guests a2 zi).Ctl.Traps 7) (cond (inb a1 (ln (zu a0).Mons)) (cond (inb a2 (ln (ix (zu a0).Mons a1 zf).Guests)) (share (up (zu a0).Mons a1 ({ (ix (zu a0).Mons a1 zf) with Guests:=(up (ix (zu a0).Mons a1 zf).Guests a2 (zb4 (ix (ix (zu a0).Mons a1 zf).Guests a2 zi) (ix (ix (zu a0).Mons a1 zf).Guests a2 zi).Ctl.Traps 7)) }:Mon)) (fun x4=>(some [(.agg (zbc ({ (zu a0) with Mons:=x4 }:Host))),(.one (.b true))]))) none) none) (cond (inb a1 (ln (zu a0).Mons)) (cond (inb a2 (ln (ix (zu a0).Mons a1 zf).Guests)) (share (up (zu a0).Mons a1 ({ (ix (zu a0).Mons a1 zf) with Guests:=(up (ix (zu a0).Mons a1 zf).Guests a2 (zb4 (ix (ix (zu a0).Mons a1 zf).Guests a2 zi) (ix (ix (zu a0).Mons a1 zf).Guests a2 zi).Ctl.Traps 7)) }:Mon)) (fun x4=>(some [(.agg (zbc ({ (zu a0) with Mons:=x4 }:Host))),(.one (.b true))]))) none) none)) none)=some (zdS (ze2 a0 a1 a2 (zeP (gOf a0 a1 a2) (gOf a0 a1 a2).Ctl.Traps 7),true)) :=
 must (zbe hx) (br (fun h1=>must (zx g2) (must (zx g3) rfl)) (fun h1=>must (zx g2) (must (zx g3) rfl)))
theorem zbad {a0:Host}{x4:List Mon}{a1 a2:Int}(hx:SmG (gOf a0 a1 a2))(g2:hasB a1 (ln x4)=true)(g3:hasB a2 (ln (ix x4 a1 mZ).Guests)=true)(e:(ix (ix x4 a1 zf).Guests a2 zi)=gOf a0 a1 a2) :
 (cond (zdP ({ (ix (ix (zu a0).Mons a1 zf).Guests a2 zi) with Prog:=(ix (ix x4 a1 zf).Guests a2 zi).Prog,Written:=(ix (ix x4 a1 zf).Guests a2 zi).Written,Live:=(ix (ix x4 a1 zf).Guests a2 zi).Live,Seen:=(ix (ix x4 a1 zf).Guests a2 zi).Seen }:Guest) (ix (ix (zu a0).Mons a1 zf).Guests a2 zi).Ctl.Traps 7) (cond (zdi ({ (ix (ix (zu a0).Mons a1 zf).Guests a2 zi) with Prog:=(ix (ix x4 a1 zf).Guests a2 zi).Prog,Written:=(ix (ix x4 a1 zf).Guests a2 zi).Written,Live:=(ix (ix x4 a1 zf).Guests a2 zi).Live,Seen:=(ix (ix x4 a1 zf).Guests a2 zi).Seen }:Guest) (ix (ix (zu a0).Mons a1 zf).Guests a2 zi).Ctl.Traps 7) (cond (inb a1 (ln x4)) (cond (inb a2 (ln (ix x4 a1 zf).Guests)) (share (up x4 a1 ({ (ix x4 a1 zf) with Guests:=(up (ix x4 a1 zf).Guests a2 (zb4 ({ (ix (ix (zu a0).Mons a1 zf).Guests a2 zi) with Prog:=(ix (ix x4 a1 zf).Guests a2 zi).Prog,Written:=(ix (ix x4 a1 zf).Guests a2 zi).Written,Live:=(ix (ix x4 a1 zf).Guests a2 zi).Live,Seen:=(ix (ix x4 a1 zf).Guests a2 zi).Seen }:Guest) (ix (ix (zu a0).Mons a1 zf).Guests a2 zi).Ctl.Traps 7)) }:Mon)) (fun x5=>(some [(.agg (zbc ({ (zu a0) with Mons:=x5 }:Host))),(.one (.b true))]))) none) none) (cond (inb a1 (ln x4)) (cond (inb a2 (ln (ix x4 a1 zf).Guests)) (share (up x4 a1 ({ (ix x4 a1 zf) with Guests:=(up (ix x4 a1 zf).Guests a2 (zb4 ({ (ix (ix (zu a0).Mons a1 zf).Guests a2 zi) with Prog:=(ix (ix x4 a1 zf).Guests a2 zi).Prog,Written:=(ix (ix x4 a1 zf).Guests a2 zi).Written,Live:=(ix (ix x4 a1 zf).Guests a2 zi).Live,Seen:=(ix (ix x4 a1 zf).Guests a2 zi).Seen }:Guest) (ix (ix (zu a0).Mons a1 zf).Guests a2 zi).Ctl.Traps 7)) }:Mon)) (fun x5=>(some [(.agg (zbc ({ (zu a0) with Mons:=x5 }:Host))),(.one (.b true))]))) none) none)) none)=some (zdS (ze2 { a0 with Mons:=x4 } a1 a2 (zeP (gOf a0 a1 a2) (gOf a0 a1 a2).Ctl.Traps 7),true)):=by
 rw[e];exact must (zbe hx) (br (fun h1=>must (zx g2) (must (zx g3) rfl)) (fun h1=>must (zx g2) (must (zx g3) rfl)))
theorem zFj (a0:Host)(a1 a2:Int)(hc:zv0 a0 a1 a2=true):∃N,zuP N a0 a1 a2=some [aH (zvY a0 a1 a2),aB (zvZ a0 a1 a2)]:=by
 obtain ⟨hc,hw⟩:=zlX hc;have hs:=(zK a0).1 (zF.1 hc);refine ⟨0,?_⟩
 show _=some (zdS (zS a0 a1 a2))
 unfold zuP oN nB
 conv=>zeta
 refine must (zbe ((zK _).2 hs)) (must (zbe ((zK _).2 hs)) (brN (fun hh=>?_) (fun hh=>?_)))
 .rw [zhA hh];rfl
 obtain ⟨g1,g2,g3⟩:=zcH hh;have hx:=zjG hs g2 g3;have hk:zC (gOf a0 a1 a2)=7:=qE hw;rw[zic hh,hk];refine must (zx g2) (must (zx g3) (must (zid rfl hw) ?_))
 show _=some (zdS (zhV a0 a1 a2 (gOf a0 a1 a2) 7,true))
 refine must (zx g2) (must rfl (br (fun h0=>must (zx g2) (br (fun h9=>must (zx g2) (must (zx g2) (shr ?_))) (fun h9=>?_))) (fun h0=>?_)))
 .rw [znv (zY4 (h:=a0) (m:=a1) (x:=gOf a0 a1 a2) (w:=7) rfl h0 h9),zD2 (w:=7) rfl];have eM:=zox g2 { ix a0.Mons a1 mZ with Own:=zI .i64 (ix a0.Mons a1 mZ).Own 1 };refine zbad hx (zeh g2) ?_ ?_
  .show hasB a2 (ln (ix (up a0.Mons a1 _) a1 mZ).Guests)=true
   rw[eM];exact g3
  .show ix (ix (up a0.Mons a1 _) a1 mZ).Guests a2 gZ=_
   rw[eM];rfl
 .rw [znv (zY3 (h:=a0) (m:=a1) (x:=gOf a0 a1 a2) (w:=7) h9),zD2 (w:=7) rfl];exact z6W hx g2 g3
 .rw [znv (zY2 (h:=a0) (m:=a1) (x:=gOf a0 a1 a2) (w:=7) h0),zD2 (w:=7) rfl];exact z6W hx g2 g3
theorem zA5:vJ 190 zFu:=kF3 zZy zk zbT zgm (zq []) zFj
def zpR:List AV->Option (Bool×List AV)
 | [.agg [.s (.sl .int) b,.s .mon c,.s .entry d,.s .entry e],.one (.i .i64 f),.one (.i .i64 g)]=>some ((zet (⟨b,c,d,e⟩:Host) f g),[aH (zDL (⟨b,c,d,e⟩:Host) f g),aB (zDM (⟨b,c,d,e⟩:Host) f g)])
 | _=>none
theorem zH3:vJ 190 zpR:=by
 refine ⟨zph.1,fun w avs xs rs hrep h=>?_⟩;unfold zpR at h;split at h
 .rename_i a0_0 a0_1 a0_2 a0_3 a1 a2;obtain ⟨hc,rfl⟩:=zdQ h;rcases z5F (gOf (⟨a0_0,a0_1,a0_2,a0_3⟩:Host) a1 a2) with e|e|e|e|e|e|e|e
  .exact zph.2 w _ xs _ hrep (congrArg (fun c=>some (c,zdS (zS (⟨a0_0,a0_1,a0_2,a0_3⟩:Host) a1 a2))) (zid hc e))
  .exact zAZ.2 w _ xs _ hrep (congrArg (fun c=>some (c,zdS (zS (⟨a0_0,a0_1,a0_2,a0_3⟩:Host) a1 a2))) (zid hc e))
  .exact zA0.2 w _ xs _ hrep (congrArg (fun c=>some (c,zdS (zS (⟨a0_0,a0_1,a0_2,a0_3⟩:Host) a1 a2))) (zid hc e))
  .exact zA1.2 w _ xs _ hrep (congrArg (fun c=>some (c,zdS (zS (⟨a0_0,a0_1,a0_2,a0_3⟩:Host) a1 a2))) (zid hc e))
  .exact zA2.2 w _ xs _ hrep (congrArg (fun c=>some (c,zdS (zS (⟨a0_0,a0_1,a0_2,a0_3⟩:Host) a1 a2))) (zid hc e))
  .exact zA3.2 w _ xs _ hrep (congrArg (fun c=>some (c,zdS (zS (⟨a0_0,a0_1,a0_2,a0_3⟩:Host) a1 a2))) (zid hc e))
  .exact zA4.2 w _ xs _ hrep (congrArg (fun c=>some (c,zdS (zS (⟨a0_0,a0_1,a0_2,a0_3⟩:Host) a1 a2))) (zid hc e))
  .exact zA5.2 w _ xs _ hrep (congrArg (fun c=>some (c,zdS (zS (⟨a0_0,a0_1,a0_2,a0_3⟩:Host) a1 a2))) (zid hc e))
 .cases h
@[simp] abbrev zy1 (h:Host)(m g page need:Int)(io:Bool):Bool:=pc (zb2 h)
@[simp] abbrev zyY (h:Host)(m g page need:Int)(io:Bool):Host:=(lookOf h (zsx h io) m g page need io).1
@[simp] abbrev zyZ (h:Host)(m g page need:Int)(io:Bool):Int:=(lookOf h (zsx h io) m g page need io).2.1
@[simp] abbrev zy0 (h:Host)(m g page need:Int)(io:Bool):Bool:=(lookOf h (zsx h io) m g page need io).2.2
def zDa:Run:=rF6 dH dI dI dI dI dB fun b c d e f g=>(zy1 b c d e f g,[aH (zyY b c d e f g),aI (zyZ b c d e f g),aB (zy0 b c d e f g)])
abbrev zSZ (u9_10:lM)(u9_11:lN)(u9_12:lE)(u9_13:lE)(u9_0:Int)(u9_4:Int)(u9_3:Int):Mon :=
 (ix (ztS (⟨u9_10,u9_11,u9_12,u9_13⟩:Host) u9_0 u9_4 u9_3).Mons u9_0 zf)
def zrD (N:Nat)(u10_0:Int)(u10_1:Int)(u10_2:Int)(u10_3:Int)(u10_8:lM)(u10_9:lN)(u10_10:lE)(u10_11:lE):OA:=
 let y0:=(⟨u10_1,u10_0,u10_2,u10_3⟩:Entry); (oN (zom u10_11 y0) (some [(aH (⟨u10_8,u10_9,u10_10,(zol u10_11 y0)⟩:Host)),(aI u10_2),(aB true)]))
def ztq (N:Nat)(u9_10:lM)(u9_11:lN)(u9_12:lE)(u9_13:lE)(u9_0:Int)(u9_4:Int)(u9_3:Int)(u9_1:Int)(u9_2:Int)(r10:((Int×(Int×(Int×(Int×(lM×(lN×(lE×(lE×(lM×(lN×(lE×(lE×Unit)))))))))))))->OA)(u9_5:Int)(u9_6:lM)(u9_7:lN)(u9_8:lE)(u9_9:lE):OA:=
 let y6:=(⟨u9_10,u9_11,u9_12,u9_13⟩:Host);let y1:=(ztS y6 u9_0 u9_4 u9_3);let y0:=(zSZ u9_10 u9_11 u9_12 u9_13 u9_0 u9_4 u9_3);let y5:=(ix y0.Tables u9_1 zez);let y3:=(ix y0.Guests u9_1 zi).Live; (oN (zIh y6 u9_0 u9_4 u9_3) (oN (inb u9_0 (ln y1.Mons)) (oN (inb u9_1 (ln y0.Tables)) (oN (inb u9_1 (ln y0.Guests)) (oN (zIg y5 y3 y0.Outer u9_2) (oN (inb u9_1 (ln y0.Tables)) (share (up y1.Mons u9_0 ({ y0 with Tables:=(up y0.Tables u9_1 (zLq y5 y3 y0.Outer u9_2)) }:Mon)) (fun x11=>let y4:=(ix x11 u9_0 zf).Tables;let y2:=(ix y4 u9_1 zez); (oN (inb u9_1 (ln y4)) (oN (zxm y2 u9_2) (r10 (u9_2,(u9_5,((ztb y2 u9_2).Page,((ztb y2 u9_2).Rights,(u9_6,(u9_7,(u9_8,(u9_9,(y1.Memory,(x11,(y1.Buffer,(y1.IoBuffer,())))))))))))))))))))))))
def znU (N:Nat)(u9_11:lN)(u9_0:Int)(u9_1:Int)(u9_2:Int)(u9_10:lM)(u9_12:lE)(u9_13:lE)(u9_4:Int)(u9_3:Int)(r10:((Int×(Int×(Int×(Int×(lM×(lN×(lE×(lE×(lM×(lN×(lE×(lE×Unit)))))))))))))->OA)(u9_5:Int)(u9_6:lM)(u9_7:lN)(u9_8:lE)(u9_9:lE):OA:=
 let y1:=(ztq N u9_10 u9_11 u9_12 u9_13 u9_0 u9_4 u9_3 u9_1 u9_2 r10 u9_5 u9_6 u9_7 u9_8 u9_9);let y0:=(ix (ix u9_11 u9_0 zf).Tables u9_1 zez);let y2:=(ztb y0 u9_2); (cond (nB (zEo y0 u9_2)) y1 (cond (ieq y2.Page (-1)) y1 (oN (zdr y2.Rights u9_3) (cond (nB (zdR y2.Rights u9_3)) y1 (r10 (u9_2,(u9_5,(y2.Page,(y2.Rights,(u9_6,(u9_7,(u9_8,(u9_9,(u9_10,(u9_11,(u9_12,(u9_13,())))))))))))))))))
def zrE (N:Nat)(u9_0:Int)(u9_1:Int)(u9_2:Int)(u9_3:Int)(u9_4:Int)(u9_5:Int)(u9_6:lM)(u9_7:lN)(u9_8:lE)(u9_9:lE)(u9_10:lM)(u9_11:lN)(u9_12:lE)(u9_13:lE):OA:=
 let y0:=(ix u9_11 u9_0 zf).Tables; (oN (inb u9_0 (ln u9_11)) (oN (inb u9_1 (ln y0)) (oN (zxm (ix y0 u9_1 zez) u9_2) (share (fun (s10:(Int×(Int×(Int×(Int×(lM×(lN×(lE×(lE×(lM×(lN×(lE×(lE×Unit)))))))))))))=>(zrD N s10.1 s10.2.1 s10.2.2.1 s10.2.2.2.1 s10.2.2.2.2.2.2.2.2.1 s10.2.2.2.2.2.2.2.2.2.1 s10.2.2.2.2.2.2.2.2.2.2.1 s10.2.2.2.2.2.2.2.2.2.2.2.1)) (fun r10=>(znU N u9_11 u9_0 u9_1 u9_2 u9_10 u9_12 u9_13 u9_4 u9_3 r10 u9_5 u9_6 u9_7 u9_8 u9_9))))))
def zrF (N:Nat)(u10_0:Int)(u10_1:Int)(u10_2:Int)(u10_3:Int)(u10_8:lM)(u10_9:lN)(u10_10:lE)(u10_11:lE):OA:=
 let y0:=(⟨u10_1,u10_0,u10_2,u10_3⟩:Entry); (oN (zom u10_10 y0) (some [(aH (⟨u10_8,u10_9,(zol u10_10 y0),u10_11⟩:Host)),(aI u10_2),(aB true)]))
def zrG (N:Nat)(u9_0:Int)(u9_1:Int)(u9_2:Int)(u9_3:Int)(u9_4:Int)(u9_5:Int)(u9_6:lM)(u9_7:lN)(u9_8:lE)(u9_9:lE)(u9_10:lM)(u9_11:lN)(u9_12:lE)(u9_13:lE):OA:=
 let y0:=(ix u9_11 u9_0 zf).Tables; (oN (inb u9_0 (ln u9_11)) (oN (inb u9_1 (ln y0)) (oN (zxm (ix y0 u9_1 zez) u9_2) (share (fun (s10:(Int×(Int×(Int×(Int×(lM×(lN×(lE×(lE×(lM×(lN×(lE×(lE×Unit)))))))))))))=>(zrF N s10.1 s10.2.1 s10.2.2.1 s10.2.2.2.1 s10.2.2.2.2.2.2.2.2.1 s10.2.2.2.2.2.2.2.2.2.1 s10.2.2.2.2.2.2.2.2.2.2.1 s10.2.2.2.2.2.2.2.2.2.2.2.1)) (fun r10=>(znU N u9_11 u9_0 u9_1 u9_2 u9_10 u9_12 u9_13 u9_4 u9_3 r10 u9_5 u9_6 u9_7 u9_8 u9_9))))))
def zrH (N:Nat)(u8_0:Int)(u8_1:Int)(u8_2:Int)(u8_3:Int)(u8_4:Bool)(u8_5:Int)(u8_6:lM)(u8_7:lN)(u8_8:lE)(u8_9:lE)(u8_10:lM)(u8_11:lN)(u8_12:lE)(u8_13:lE):OA:=
 let y1:=(aH (⟨u8_10,u8_11,u8_12,u8_13⟩:Host));let y0:=(zxp u8_0 u8_1);let y3:=(zjs u8_12 y0 u8_2);let y2:=(zjs u8_13 y0 u8_2); (cond u8_4 (oN (zva u8_0 u8_1) (share (fun (s9:(Int×(Int×(Int×(Int×(Int×(Int×(lM×(lN×(lE×(lE×(lM×(lN×(lE×(lE×Unit)))))))))))))))=>(zrE N s9.1 s9.2.1 s9.2.2.1 s9.2.2.2.1 s9.2.2.2.2.1 s9.2.2.2.2.2.1 s9.2.2.2.2.2.2.1 s9.2.2.2.2.2.2.2.1 s9.2.2.2.2.2.2.2.2.1 s9.2.2.2.2.2.2.2.2.2.1 s9.2.2.2.2.2.2.2.2.2.2.1 s9.2.2.2.2.2.2.2.2.2.2.2.1 s9.2.2.2.2.2.2.2.2.2.2.2.2.1 s9.2.2.2.2.2.2.2.2.2.2.2.2.2.1)) (fun r9=>(oN (zmN u8_13 y0 u8_2) (cond (zjt u8_13 y0 u8_2) (oN (zdr y2.Rights u8_3) (cond (zdR y2.Rights u8_3) (some [y1,(aI y2.Host),(aB true)]) (r9 (u8_0,(u8_1,(u8_2,(u8_3,(u8_5,(y0,(u8_6,(u8_7,(u8_8,(u8_9,(u8_10,(u8_11,(u8_12,(u8_13,()))))))))))))))))) (r9 (u8_0,(u8_1,(u8_2,(u8_3,(u8_5,(y0,(u8_6,(u8_7,(u8_8,(u8_9,(u8_10,(u8_11,(u8_12,(u8_13,())))))))))))))))))))) (oN (zva u8_0 u8_1) (share (fun (s9:(Int×(Int×(Int×(Int×(Int×(Int×(lM×(lN×(lE×(lE×(lM×(lN×(lE×(lE×Unit)))))))))))))))=>(zrG N s9.1 s9.2.1 s9.2.2.1 s9.2.2.2.1 s9.2.2.2.2.1 s9.2.2.2.2.2.1 s9.2.2.2.2.2.2.1 s9.2.2.2.2.2.2.2.1 s9.2.2.2.2.2.2.2.2.1 s9.2.2.2.2.2.2.2.2.2.1 s9.2.2.2.2.2.2.2.2.2.2.1 s9.2.2.2.2.2.2.2.2.2.2.2.1 s9.2.2.2.2.2.2.2.2.2.2.2.2.1 s9.2.2.2.2.2.2.2.2.2.2.2.2.2.1)) (fun r9=>(oN (zmN u8_12 y0 u8_2) (cond (zjt u8_12 y0 u8_2) (oN (zdr y3.Rights u8_3) (cond (zdR y3.Rights u8_3) (some [y1,(aI y3.Host),(aB true)]) (r9 (u8_0,(u8_1,(u8_2,(u8_3,(u8_5,(y0,(u8_6,(u8_7,(u8_8,(u8_9,(u8_10,(u8_11,(u8_12,(u8_13,()))))))))))))))))) (r9 (u8_0,(u8_1,(u8_2,(u8_3,(u8_5,(y0,(u8_6,(u8_7,(u8_8,(u8_9,(u8_10,(u8_11,(u8_12,(u8_13,())))))))))))))))))))))
def zrI (N:Nat)(u7_0:Int)(u7_1:Int)(u7_2:Int)(u7_3:Int)(u7_4:Bool)(u7_8:lM)(u7_9:lN)(u7_10:lE)(u7_11:lE)(u7_12:lM)(u7_13:lN)(u7_14:lE)(u7_15:lE)(u7_19:lG):OA:=
 let y1:=(ix u7_13 u7_0 zf);let y0:=(ix u7_19 u7_1 zi).Live;let y2:=(zhw y0 u7_2 u7_3); (oN (inb u7_1 (ln u7_19)) (oN (zju y0 u7_2 u7_3) (cond (nB (zgo y0 u7_2 u7_3)) (some [(aH (⟨u7_12,u7_13,u7_14,u7_15⟩:Host)),(aI (-1)),(aB false)]) (share (fun (s8:(Int×(Int×(Int×(Int×(Bool×(Int×(lM×(lN×(lE×(lE×(lM×(lN×(lE×(lE×Unit)))))))))))))))=>(zrH N s8.1 s8.2.1 s8.2.2.1 s8.2.2.2.1 s8.2.2.2.2.1 s8.2.2.2.2.2.1 s8.2.2.2.2.2.2.1 s8.2.2.2.2.2.2.2.1 s8.2.2.2.2.2.2.2.2.1 s8.2.2.2.2.2.2.2.2.2.1 s8.2.2.2.2.2.2.2.2.2.2.1 s8.2.2.2.2.2.2.2.2.2.2.2.1 s8.2.2.2.2.2.2.2.2.2.2.2.2.1 s8.2.2.2.2.2.2.2.2.2.2.2.2.2.1)) (fun r8=>(cond (ieq u7_3 2) (oN (inb u7_0 (ln u7_13)) (oN (inb y2 (ln y1.Dirty)) (share (up u7_13 u7_0 ({ y1 with Dirty:=(up y1.Dirty y2 true) }:Mon)) (fun x9=>r8 (u7_0,(u7_1,(u7_2,(u7_3,(u7_4,(y2,(u7_8,(u7_9,(u7_10,(u7_11,(u7_12,(x9,(u7_14,(u7_15,())))))))))))))))))) (r8 (u7_0,(u7_1,(u7_2,(u7_3,(u7_4,(y2,(u7_8,(u7_9,(u7_10,(u7_11,(u7_12,(u7_13,(u7_14,(u7_15,())))))))))))))))))))))
def zJu (N:Nat)(a0:Host)(a1 a2:Int)(a3 a4:Int)(a5:Bool):OA:=
 let y1:=(zbL a0);let y0:=(zb7 a0 a1); (oN (zky a0) (oN (znC a0 a1) (share (fun (s7:(Int×(Int×(Int×(Int×(Bool×(Int×(Int×(Int×(lM×(lN×(lE×(lE×(lM×(lN×(lE×(lE×(lS×(lM×(lB×(lG×((List Int)×(lK×Unit)))))))))))))))))))))))=>(zrI N s7.1 s7.2.1 s7.2.2.1 s7.2.2.2.1 s7.2.2.2.2.1 s7.2.2.2.2.2.2.2.2.1 s7.2.2.2.2.2.2.2.2.2.1 s7.2.2.2.2.2.2.2.2.2.2.1 s7.2.2.2.2.2.2.2.2.2.2.2.1 s7.2.2.2.2.2.2.2.2.2.2.2.2.1 s7.2.2.2.2.2.2.2.2.2.2.2.2.2.1 s7.2.2.2.2.2.2.2.2.2.2.2.2.2.2.1 s7.2.2.2.2.2.2.2.2.2.2.2.2.2.2.2.1 s7.2.2.2.2.2.2.2.2.2.2.2.2.2.2.2.2.2.2.2.1)) (fun r7=>(oN (zoe a0) (cond (nB (zm7 a0)) (some [(aH y1),(aI (-1)),(aB false)]) (cond (nB (zks a0 a1)) (some [(aH y1),(aI (-1)),(aB false)]) (oN (zcm a2 (ln y0.Guests)) (cond (nB (zcO a2 (ln y0.Guests))) (some [(aH y1),(aI (-1)),(aB false)]) (cond (ine a4 1) (cond (ine a4 2) (some [(aH y1),(aI (-1)),(aB false)]) (r7 (a1,(a2,(a3,(a4,(a5,(y0.Pending,(y0.Traps,(y0.Own,([],([],([],([],(y1.Memory,(y1.Mons,(y1.Buffer,(y1.IoBuffer,(y0.Outer,(y0.Out,(y0.Dirty,(y0.Guests,(y0.Outs,(y0.Tables,())))))))))))))))))))))))) (r7 (a1,(a2,(a3,(a4,(a5,(y0.Pending,(y0.Traps,(y0.Own,([],([],([],([],(y1.Memory,(y1.Mons,(y1.Buffer,(y1.IoBuffer,(y0.Outer,(y0.Out,(y0.Dirty,(y0.Guests,(y0.Outs,(y0.Tables,())))))))))))))))))))))))))))))))))
def zWi:FuncId->Nat->Option Tmpl:=zq [(34,999999,{ n:=0,tm:=[],lo:=[],ro:=[] }),(34,1007055,{ n:=200,tm:=[(1,ti),(2,ti),(3,ti),(4,ti),(5,.b),(12,.lp 0 0),(15,.lp 1 0),(16,.lp 2 0)],lo:=[(0,[.sl 0 [],.sl 1 [],.sl 2 [],.sl 3 []]),(1,[.sl 4 [],.sl 5 [],.sl 6 [],.sl 7 []]),(2,[.sl 8 [],.sl 9 [],.sl 10 [],.sl 11 [],.sl 12 [],ti,ti,.sl 13 [],ti])],ro:=[(0,(.sl .int),true),(1,.mon,true),(2,.entry,true),(3,.entry,true),(4,(.sl .int),true),(5,.mon,true),(6,.entry,true),(7,.entry,true),(8,.slot,true),(9,(.sl .int),true),(10,.bool,true),(11,.guest,true),(12,.int,true),(13,.kept,true)] }),(34,1005039,{ n:=200,tm:=[(1,ti),(2,ti),(3,ti),(4,ti),(5,.b),(12,.lp 0 0),(15,.lp 1 0),(18,ti)],lo:=[(0,[.sl 0 [],.sl 1 [],.sl 2 [],.sl 3 []]),(1,[.sl 4 [],.sl 5 [],.sl 6 [],.sl 7 []])],ro:=[(0,(.sl .int),true),(1,.mon,true),(2,.entry,true),(3,.entry,true),(4,(.sl .int),true),(5,.mon,true),(6,.entry,true),(7,.entry,true)] }),(34,1009019,{ n:=200,tm:=[(1,ti),(2,ti),(3,ti),(4,ti),(12,.lp 0 0),(15,.lp 1 0),(18,ti),(20,.lp 1 3),(21,ti)],lo:=[(0,[.sl 0 [],.sl 1 [],.sl 2 [],.sl 3 []]),(1,[.sl 4 [],.sl 5 [],.sl 6 [],.sl 7 []])],ro:=[(0,(.sl .int),true),(1,.mon,true),(2,.entry,true),(3,.entry,true),(4,(.sl .int),true),(5,.mon,true),(6,.entry,true),(7,.entry,true)] }),(34,1011005,{ n:=200,tm:=[(3,ti),(12,.lp 0 0),(15,.lp 1 0),(20,.lp 1 3),(21,ti),(24,.lp 2 0)],lo:=[(0,[.sl 0 [],.sl 1 [],.sl 2 [],.sl 3 []]),(1,[.sl 4 [],.sl 5 [],.sl 6 [],.sl 7 []]),(2,[ti,ti])],ro:=[(0,(.sl .int),true),(1,.mon,true),(2,.entry,true),(3,.entry,true),(4,(.sl .int),true),(5,.mon,true),(6,.entry,true),(7,.entry,true)] }),(34,1001009019,{ n:=200,tm:=[(1,ti),(2,ti),(3,ti),(4,ti),(12,.lp 0 0),(15,.lp 1 0),(18,ti),(20,.lp 1 2),(21,ti)],lo:=[(0,[.sl 0 [],.sl 1 [],.sl 2 [],.sl 3 []]),(1,[.sl 4 [],.sl 5 [],.sl 6 [],.sl 7 []])],ro:=[(0,(.sl .int),true),(1,.mon,true),(2,.entry,true),(3,.entry,true),(4,(.sl .int),true),(5,.mon,true),(6,.entry,true),(7,.entry,true)] }),(34,1001011005,{ n:=200,tm:=[(3,ti),(12,.lp 0 0),(15,.lp 1 0),(20,.lp 1 2),(21,ti),(24,.lp 2 0)],lo:=[(0,[.sl 0 [],.sl 1 [],.sl 2 [],.sl 3 []]),(1,[.sl 4 [],.sl 5 [],.sl 6 [],.sl 7 []]),(2,[ti,ti])],ro:=[(0,(.sl .int),true),(1,.mon,true),(2,.entry,true),(3,.entry,true),(4,(.sl .int),true),(5,.mon,true),(6,.entry,true),(7,.entry,true)] })]
theorem z7a {N:Nat}{r:Host}{m g page:Int}(hi:r.IoBuffer.length<=1048576) :
 zrD N page (zdF m g) (zdy (zbP r m g) page).Page (zdy (zbP r m g) page).Rights r.Memory r.Mons r.Buffer r.IoBuffer=some (zje (zed r m g page true)):=by
 unfold zrD oN
 conv=>zeta
 exact must (zbe hi) rfl
theorem z7c {N:Nat}{r:Host}{m g page:Int}(hi:r.Buffer.length<=1048576) :
 zrF N page (zdF m g) (zdy (zbP r m g) page).Page (zdy (zbP r m g) page).Rights r.Memory r.Mons r.Buffer r.IoBuffer=some (zje (zed r m g page false)):=by
 unfold zrF oN
 conv=>zeta
 exact must (zbe hi) rfl
theorem z4J {N:Nat}{r:Host}{m g page need q:Int}{R:OA}{r10}{u5 u6 u7 u8 u9}(A:LookAt r m g q need)(hr:r10 (page,(u5,((zdy (zbP (zcc (mended r m q need) m g page) m g) page).Page,((zdy (zbP (zcc (mended r m q need) m g page) m g) page).Rights,(u6,(u7,(u8,(u9,((zcc (mended r m q need) m g page).Memory,((zcc (mended r m q need) m g page).Mons,((zcc (mended r m q need) m g page).Buffer,((zcc (mended r m q need) m g page).IoBuffer,()))))))))))))=R) :
 ztq N r.Memory r.Mons r.Buffer r.IoBuffer m q need g page r10 u5 u6 u7 u8 u9=R:=by
 have M:=zlt A.kp A.hm A.hg;have F:=zlt (A.fill page) A.hm A.hg;unfold ztq oN
 conv=>zeta
 exact must (zbe A.mend) (must (zx M.hm) (must (zx M.ht) (must (zx M.hg) (must (zbe M.hk) (must (zx M.ht) (shr (must (zx F.ht) (must rfl hr))))))))
theorem z9I {N:Nat}{r:Host}{m g page need q:Int}{io:Bool}{r10}{u5 u6 u7 u8 u9}(A:LookAt r m g q need)(h1:r10 (page,(u5,((zdy (zbP (zcc (mended r m q need) m g page) m g) page).Page,((zdy (zbP (zcc (mended r m q need) m g page) m g) page).Rights,(u6,(u7,(u8,(u9,((zcc (mended r m q need) m g page).Memory,((zcc (mended r m q need) m g page).Mons,((zcc (mended r m q need) m g page).Buffer,((zcc (mended r m q need) m g page).IoBuffer,()))))))))))))=some (zje (zed (zcc (mended r m q need) m g page) m g page io)))(h2:r10 (page,(u5,((zdy (zbP r m g) page).Page,((zdy (zbP r m g) page).Rights,(u6,(u7,(u8,(u9,(r.Memory,(r.Mons,(r.Buffer,(r.IoBuffer,()))))))))))))=some (zje (zed r m g page io))) :
 znU N r.Mons m g page r.Memory r.Buffer r.IoBuffer q need r10 u5 u6 u7 u8 u9=some (zje (cond (zd3 r m g page need) (zed (zcc (mended r m q need) m g page) m g page io) (zed r m g page io))):=by
 unfold znU oN nB
 conv=>zeta
 refine brN (fun f1=>?_) (fun f1=>br (fun f2=>?_) (fun f2=>must rfl (brN (fun f3=>?_) (fun f3=>?_))))
 .rw [ztg (zYV f1)];exact z4J A h1
 .rw [ztg (zYW f2)];exact z4J A h1
 .rw [ztg (zYX f3)];exact z4J A h1
 .rw [zYA (zYY f1 f2 f3)];exact h2
theorem z7b {N:Nat}{r:Host}{m g page need q:Int}{u6 u7 u8 u9}(A:LookAt r m g q need) :
 zrE N m g page need q (zdF m g) u6 u7 u8 u9 r.Memory r.Mons r.Buffer r.IoBuffer=some (zje (cond (zd3 r m g page need) (zed (zcc (mended r m q need) m g page) m g page true) (zed r m g page true))):=by
 have M:=zlt ⟨A.fit.1,rfl⟩ A.hm A.hg;have F:=zlt (A.fill page) A.hm A.hg;unfold zrE oN
 conv=>zeta
 exact must (zx M.hm) (must (zx M.ht) (must rfl (shr (z9I A (z7a (r:=zcc (mended r m q need) m g page) (m:=m) (g:=g) F.hi) (z7a (r:=r) (m:=m) (g:=g) M.hi)))))
theorem z7d {N:Nat}{r:Host}{m g page need q:Int}{u6 u7 u8 u9}(A:LookAt r m g q need) :
 zrG N m g page need q (zdF m g) u6 u7 u8 u9 r.Memory r.Mons r.Buffer r.IoBuffer=some (zje (cond (zd3 r m g page need) (zed (zcc (mended r m q need) m g page) m g page false) (zed r m g page false))):=by
 have M:=zlt ⟨A.fit.1,rfl⟩ A.hm A.hg;have F:=zlt (A.fill page) A.hm A.hg;unfold zrG oN
 conv=>zeta
 exact must (zx M.hm) (must (zx M.ht) (must rfl (shr (z9I A (z7c (r:=zcc (mended r m q need) m g page) (m:=m) (g:=g) F.hb) (z7c (r:=r) (m:=m) (g:=g) M.hb)))))
theorem z7e {N:Nat}{r:Host}{m g page need q:Int}{io:Bool}{u6 u7 u8 u9}(A:LookAt r m g q need) :
 zrH N m g page need io q u6 u7 u8 u9 r.Memory r.Mons r.Buffer r.IoBuffer=some (zje (zfQ r (zsx r io) m g page need q io)):=by
 unfold zrH oN
 conv=>zeta
 cases io
 .show _=some (zje (zfQ r r.Buffer m g page need q false))
  refine zcB rfl (must rfl (shr (must rfl (br (fun f1=>must rfl (br (fun f2=>?_) (fun f2=>?_))) (fun f1=>?_)))))
  .rw [zEr (znA f1 f2)];rfl
  .rw [znH (znA f1 f2)];exact z7d A
  .rw [znH (zEm f1)];exact z7d A
 .show _=some (zje (zfQ r r.IoBuffer m g page need q true))
  refine must rfl (must rfl (shr (must rfl (br (fun f1=>must rfl (br (fun f2=>?_) (fun f2=>?_))) (fun f1=>?_)))))
  .rw [zEr (znA f1 f2)];rfl
  .rw [znH (znA f1 f2)];exact z7b A
  .rw [znH (zEm f1)];exact z7b A
theorem z97 (r:Host)(m q:Int)(io:Bool):zsx (zbt r m q) io=zsx r io:=by
 cases io<;>rfl
theorem z7f {N:Nat}{r:Host}{m g page need:Int}{io:Bool}{z1 z2 z3 z4}(hs:SmH r)(hg:zbE r m g=true)(hn:zfw need=true) :
 zrI N m g page need io z1 z2 z3 z4 r.Memory r.Mons r.Buffer r.IoBuffer (ix r.Mons m mZ).Guests=some (zje (lookOf r (zsx r io) m g page need io)):=by
 obtain ⟨g1,g2,g3⟩:=zcH hg;unfold zrI oN nB
 conv=>zeta
 refine must (zx g3) (must rfl (brN (fun hw=>?_) (fun hw=>?_)))
 .have:zbJ r m g page need=false:=by
   unfold zbJ;rw[hg,hn,show zdU (zb8 r m g) page need=false from hw]
   rfl
  rw[zgX this];rfl
 .have hl:zbJ r m g page need=true:=by
   unfold zbJ;rw[hg,hn,show zdU (zb8 r m g) page need=true from hw]
   rfl
  obtain ⟨A,B⟩:=zCA hs hl;rw[zIE hl];have hd:hasB (zbY (zb8 r m g) page need) (ln (ix r.Mons m mZ).Dirty)=true:=zdj (zcg A.fit.1 g2).2.2.2.1 A.hq;refine shr (br (fun h2=>?_) (fun h2=>?_))
  .rw [h2]
   show _=some (zje (zfQ (zbt r m (zbY (zb8 r m g) page need)) (zsx r io) m g page need (zbY (zb8 r m g) page need) io))
   rw[<- z97 r m (zbY (zb8 r m g) page need) io];exact must (zx g2) (must (zx hd) (shr (z7e (r:=zbt r m (zbY (zb8 r m g) page need)) B)))
  .rw [h2];exact z7e A
theorem zUv (a0:Host)(a1 a2:Int)(a3 a4:Int)(a5:Bool)(hc:zy1 a0 a1 a2 a3 a4 a5=true):∃N,zJu N a0 a1 a2 a3 a4 a5=some [aH (zyY a0 a1 a2 a3 a4 a5),aI (zyZ a0 a1 a2 a3 a4 a5),aB (zy0 a0 a1 a2 a3 a4 a5)]:=by
 have hs:=(zK a0).1 (zF.1 hc);refine ⟨0,?_⟩
 show _=some (zje (lookOf a0 (zsx a0 a5) a1 a2 a3 a4 a5))
 unfold zJu oN nB
 conv=>zeta
 refine must (zbe ((zK _).2 hs)) (must (zbe ((zK _).2 hs)) (shr (must rfl (brN (fun h1=>?_) (fun h1=>?_)))))
 .rw [zgX (znI (zM9 h1))];rfl
 refine brN (fun h2=>?_) (fun h2=>?_)
 .rw [zgX (znI (zNa h2))];rfl
 have eM:zb7 a0 a1=ix a0.Mons a1 mZ:=by
  unfold zb7;rw[show hasB a1 (ln a0.Mons)=true from h2]
  rfl
 rw[eM];refine must rfl (brN (fun h3=>?_) (fun h3=>?_))
 .rw [zgX (znI (zNb h3))];rfl
 have hg:=zNc h1 h2 h3;have hno:∀{n:Int},zfw n=false->zbJ a0 a1 a2 a3 n=false:=fun {n} h=>by
  unfold zbJ;rw[hg,h];rfl
 rw[zlo,zlo];cases h4:ieq a4 1
 .cases h5:ieq a4 2
  .have:zfw a4=false:=by unfold zfw;rw[h4,h5];rfl
   rw[zgX (hno this)];rfl
  .exact z7f (r:=a0) hs hg (by unfold zfw;rw[h4,h5];rfl)
 .exact z7f (r:=a0) hs hg (by unfold zfw;rw[h4];rfl)
theorem zNE:vJ 34 zDa:=kF6 zg7 zk zbT zgm zWi zUv
def z6H:zO:=[(34,zDa),(190,zpR)]++zmL
theorem zTy:zG z6H:=zh zNE (zh zH3 zg7)
@[simp] abbrev zyQ (h:Host)(m g page need:Int):Bool:=pc (zb2 h)
@[simp] abbrev zsA (h:Host)(m g page need:Int):Host:=(lookOf h h.Buffer m g page need false).1
@[simp] abbrev zsB (h:Host)(m g page need:Int):Int:=(lookOf h h.Buffer m g page need false).2.1
@[simp] abbrev zyP (h:Host)(m g page need:Int):Bool:=(lookOf h h.Buffer m g page need false).2.2
def zCU:Run:=rF5 dH dI dI dI dI fun b c d e f=>(zyQ b c d e f,[aH (zsA b c d e f),aI (zsB b c d e f),aB (zyP b c d e f)])
def zJf (N:Nat)(a0:Host)(a1 a2:Int)(a3 a4:Int):OA:=
 (oN (zy1 a0 a1 a2 a3 a4 false) (some [(aH (zyY a0 a1 a2 a3 a4 false)),(aI (zyZ a0 a1 a2 a3 a4 false)),(aB (zy0 a0 a1 a2 a3 a4 false))]))
theorem zUf (a0:Host)(a1 a2:Int)(a3 a4:Int)(hc:zyQ a0 a1 a2 a3 a4=true):∃N,zJf N a0 a1 a2 a3 a4=some [aH (zsA a0 a1 a2 a3 a4),aI (zsB a0 a1 a2 a3 a4),aB (zyP a0 a1 a2 a3 a4)]:=by
 refine ⟨0,?_⟩;unfold zJf oN;exact must hc rfl
theorem zNo:vJ 10 zCU:=kF5 zTy zk zbT zgm (zq []) zUf
def z6I:zO:=[(10,zCU)]++z6H
theorem z4g:zG z6I:=zh zNo zTy
def brought (n a b:Int):Int:=bif ilt n a then a else (cond (ilt b a) a (zOe n b))
@[simp] abbrev zqF (_ _ _:Int):Bool:=true
@[simp] abbrev zrr (n a b:Int):Int:=brought n a b
def zr5:Run:=rF3 dI dI dI fun b c d=>(zqF b c d,[aI (zrr b c d)])
def zFO (N:Nat)(a0 a1 a2:Int):OA:=
 (cond (ilt a2 a1) (some [(aI a1)]) (cond (ilt a0 a1) (some [(aI a1)]) (cond (igt a0 a2) (some [(aI a2)]) (some [(aI a0)]))))
theorem zRR (a0 a1 a2:Int)(hc:zqF a0 a1 a2=true):∃N,zFO N a0 a1 a2=some [aI (zrr a0 a1 a2)]:=by
 refine ⟨0,?_⟩;unfold zFO;unfold zrr brought zOe;cases h1:ilt a2 a1<;>cases h2:ilt a0 a1<;>cases h3:igt a0 a2<;>simp [igt] at * <;> omega
theorem zu9:vJ 242 zr5:=kF3 zpq zk zl zo (zq []) zRR
structure RI (a:List Bare) (i:Nat) (l:List Bare):Prop where
 len:l.length=a.length
 sm:zZa l
 eq:∀k,i<=k->l[k]?=a[k]?
theorem RI.up {a l:List Bare}{i:Nat}(h:RI a i l)(x:Bare)(hx:SmB x):RI a (i+1) (up l (i:Int) x) :=
 ⟨by rw[zgv];exact h.len,z8R h.sm hx,fun k hk=>by rw[z9A (by omega)];exact h.eq k (by omega)⟩
structure RJ (l:List Bare) (i:Nat) (l':List Bare):Prop where
 len:l'.length=l.length
 sm:SmB (ix l' (i:Int) zWC)
 up:∀x,E.up l' (i:Int) x=E.up l (i:Int) x
theorem RJ.next {l l':List Bare}{i:Nat}(h:RJ l i l')(hi:i<l.length)(x:Bare)(hx:SmB x):RJ l i (E.up l' (i:Int) x) :=
 ⟨by rw[zgv];exact h.len,by rw[zdN (by rw[h.len];exact hi)];exact hx,fun y=>by rw[zv8];exact h.up y⟩
def z1I:zO:=[(64,zpM)]++z6I
theorem zQo:zG z1I:=zh ztG z4g
@[simp] abbrev zoh (h:Host)(m g:Int):Bool:=pc (zb2 h)
@[simp] abbrev zof (h:Host)(m g:Int):Host:=(zS h m g).1
@[simp] abbrev zog (h:Host)(m g:Int):Bool:=(zS h m g).2
def zpN:Run:=rF3 dH dI dI fun b c d=>(zoh b c d,[aH (zof b c d),aB (zog b c d)])
abbrev zgT (a0:Host)(a1 a2:Int):Int :=
 (zkp (ix (zb7 a0 a1).Guests a2 zi))
abbrev zcU (a0:Host)(a1 a2:Int):Int :=
 (zhb (ix (zb7 a0 a1).Guests a2 zi))
abbrev zwU (a0:Host)(a1 a2:Int):Host :=
 (zsA a0 a1 a2 (zdT (zgT a0 a1 a2)) (zeF (ieq (zcU a0 a1 a2) 4)))
abbrev zgS (a0:Host)(a1 a2:Int):Guest :=
 (ix (ix (zbL a0).Mons a1 zf).Guests a2 zi)
abbrev zk2 (x4:lN)(a1 a2:Int):Guest :=
 (ix (ix x4 a1 zf).Guests a2 zi)
abbrev zwV (a0:Host)(a1 a2:Int):Int :=
 (zsB a0 a1 a2 (zdT (zgT a0 a1 a2)) (zeF (ieq (zcU a0 a1 a2) 4)))
def zk3 (N:Nat)(a0:Host)(a1 a2:Int):OA:=
 let y5:=(zwV a0 a1 a2);let y4:=(ieq (zcU a0 a1 a2) 4);let y3:=(zgT a0 a1 a2);let y2:=(zwU a0 a1 a2);let y6:=(inb a1 (ln y2.Mons));let y1:=(ix (zb7 a0 a1).Guests a2 zi);let y0:=(ix y2.Mons a1 zf);let y7:=(inb a2 (ln y0.Guests)); (oN (zf4 y3) (oN (zok y4) (oN (zyQ a0 a1 a2 (zdT y3) (zeF y4)) (cond (nB (zyP a0 a1 a2 (zdT y3) (zeF y4))) (oN (zf4 y3) (oN (zjr (zdT y3) y4) (oN (zfO y1 (zh2 (zdT y3) y4)) (oN y6 (oN y7 (share (up y2.Mons a1 ({ y0 with Guests:=(up y0.Guests a2 (zf6 y1 (zh2 (zdT y3) y4))) }:Mon)) (fun x4=>(some [(aH ({ y2 with Mons:=x4 }:Host)),(aB true)])))))))) (cond y4 (oN (zf3 y3) (oN (zkw y2.Memory y5 (zfN y3) y1.A) (oN (zop y1) (oN y6 (oN y7 (share (up y2.Mons a1 ({ y0 with Guests:=(up y0.Guests a2 (zku y1)) }:Mon)) (fun x4=>(some [(aH ({ y2 with Memory:=(zln y2.Memory y5 (zfN y3) y1.A),Mons:=x4 }:Host)),(aB true)])))))))) (oN (zf3 y3) (oN (zod y2.Memory y5 (zfN y3)) (oN (zoj y1 (zm5 y2.Memory y5 (zfN y3))) (oN y6 (oN y7 (share (up y2.Mons a1 ({ y0 with Guests:=(up y0.Guests a2 (zkr y1 (zm5 y2.Memory y5 (zfN y3)))) }:Mon)) (fun x4=>(some [(aH ({ y2 with Mons:=x4 }:Host)),(aB true)])))))))))))))
def zk4 (N:Nat)(a0:Host)(a1 a2:Int)(x4:lN):OA:=
 let y2:=(zk2 x4 a1 a2);let y1:=(ix x4 a1 zf);let y0:=({ (zgS a0 a1 a2) with Prog:=y2.Prog,Written:=y2.Written,Live:=y2.Live,Seen:=y2.Seen }:Guest); (oN (zep y0) (oN (inb a2 (ln y1.Guests)) (share (up x4 a1 ({ y1 with Guests:=(up y1.Guests a2 (zd9 y0)) }:Mon)) (fun x5=>(some [(aH ({ (zbL a0) with Mons:=x5 }:Host)),(aB true)])))))
def zk5 (N:Nat)(a0:Host)(a1 a2:Int):OA:=
 let y3:=(zbL a0).Mons;let y1:=(zgS a0 a1 a2);let y0:=(ix y3 a1 zf);let y2:=(ap y0.Outs [(zgi y1.Prog y1.Pc).X]); (cond (ieq (zcU a0 a1 a2) 7) (oN (zm6 y1) (oN (inb a2 (ln y0.Guests)) (share (up y3 a1 ({ y0 with Guests:=(up y0.Guests a2 (zmg y1)) }:Mon)) (fun x4=>(some [(aH ({ (zbL a0) with Mons:=x4 }:Host)),(aB true)]))))) (cond (ilt (ln y0.Outs) 40) (oN (zf5 y1.Prog y1.Pc) (oN (few (ln y2)) (oN (cond (ieq a1 a1) true false) (share (up y3 a1 ({ y0 with Outs:=y2 }:Mon)) (fun x4=>(zk4 N a0 a1 a2 x4)))))) (oN (zep y1) (oN (inb a2 (ln y0.Guests)) (share (up y3 a1 ({ y0 with Guests:=(up y0.Guests a2 (zd9 y1)) }:Mon)) (fun x4=>(some [(aH ({ (zbL a0) with Mons:=x4 }:Host)),(aB true)])))))))
def zk6 (N:Nat)(a1:Int)(a0:Host)(a2:Int):OA:=
 let y9:=(zbL a0);let y5:=(zcU a0 a1 a2);let y2:=(zgS a0 a1 a2);let y1:=(ix y9.Mons a1 zf);let y11:=(znE y1.Traps y2.Ctl.Traps (zhd y5)); (oN (inb a1 (ln y9.Mons)) (oN (inb a2 (ln y1.Guests)) (oN (zos y5) (oN (zwm y1.Traps y2.Ctl.Traps (zhd y5)) (cond (ieq y11 1) (oN (zmk y2 y5) (oN (inb a2 (ln y1.Guests)) (share (up y9.Mons a1 ({ y1 with Guests:=(up y1.Guests a2 (ziP y2 y5)) }:Mon)) (fun x4=>(some [(aH ({ y9 with Mons:=x4 }:Host)),(aB true)]))))) (cond (ieq y11 2) (cond (ilt y1.Own 1000000000) (share (up y9.Mons a1 ({ y1 with Own:=(zI .i64 y1.Own 1) }:Mon)) (fun x4=>let y4:=(ix x4 a1 zf);let y3:=(zk2 x4 a1 a2);let y10:=(ap y4.Outs [(zgi y3.Prog y2.Pc).X]);let y6:=({ y2 with Prog:=y3.Prog,Written:=y3.Written,Live:=y3.Live,Seen:=y3.Seen }:Guest); (cond (ieq y5 7) (oN (zm6 y6) (oN (inb a2 (ln y4.Guests)) (share (up x4 a1 ({ y4 with Guests:=(up y4.Guests a2 (zmg y6)) }:Mon)) (fun x5=>(some [(aH ({ y9 with Mons:=x5 }:Host)),(aB true)]))))) (cond (ilt (ln y4.Outs) 40) (oN (zf5 y3.Prog y2.Pc) (oN (few (ln y10)) (oN (cond (ieq a1 a1) true false) (share (up x4 a1 ({ y4 with Outs:=y10 }:Mon)) (fun x5=>let y8:=(ix x5 a1 zf);let y0:=(ix y8.Guests a2 zi);let y7:=({ y2 with Prog:=y0.Prog,Written:=y0.Written,Live:=y0.Live,Seen:=y0.Seen }:Guest); (oN (zep y7) (oN (inb a2 (ln y8.Guests)) (share (up x5 a1 ({ y8 with Guests:=(up y8.Guests a2 (zd9 y7)) }:Mon)) (fun x6=>(some [(aH ({ y9 with Mons:=x6 }:Host)),(aB true)])))))))))) (zk4 N a0 a1 a2 x4))))) (zk5 N a0 a1 a2)) (zk5 N a0 a1 a2)))))))
def zie (N:Nat)(a0:Host)(a1 a2:Int):OA:=
 (oN (zyV a0 a1) (oN (ztM (zpz a0 a1) a2) (oN (inb a1 (ln (zbL a0).Mons)) (share (up (zbL a0).Mons a1 ({ (ix (zbL a0).Mons a1 zf) with Guests:=(zio (zpz a0 a1) a2).Guests }:Mon)) (fun x4=>(some [(aH ({ (zbL a0) with Mons:=x4 }:Host)),(aB true)]))))))
def zfy (N:Nat)(a0:Host)(a1 a2:Int):OA:=
 let y0:=(zcU a0 a1 a2); (cond (ieq y0 5) (cond (ieq y0 5) (zk6 N a1 a0 a2) (zie N a0 a1 a2)) (cond (ieq y0 7) (zk6 N a1 a0 a2) (zie N a0 a1 a2)))
def zBe (N:Nat)(a0:Host)(a1 a2:Int):OA:=
 let y3:=(aH (zbL a0));let y2:=(zcU a0 a1 a2);let y0:=(zb7 a0 a1).Guests;let y1:=(ix y0 a2 zi); (oN (zky a0) (oN (znC a0 a1) (oN (zoe a0) (cond (nB (zm7 a0)) (some [y3,(aB false)]) (cond (nB (zks a0 a1)) (some [y3,(aB false)]) (oN (zcm a2 (ln y0)) (cond (nB (zcO a2 (ln y0))) (some [y3,(aB false)]) (oN (inb a2 (ln y0)) (oN (zi8 y1) (cond (ieq y2 0) (some [y3,(aB false)]) (oN (inb a2 (ln y0)) (oN (zi8 y1) (oN (zqm y1) (cond (ieq y2 3) (cond (ieq y2 3) (zk3 N a0 a1 a2) (zfy N a0 a1 a2)) (cond (ieq y2 4) (zk3 N a0 a1 a2) (zfy N a0 a1 a2))))))))))))))))
theorem zVg {h:Host}{m:Int}(hm:hasB m (ln h.Mons)=true):zb7 h m=ix h.Mons m mZ:=by
 unfold zb7;rw[hm];rfl
theorem z9F {N:Nat}{a0:Host}{a1 a2:Int}(hs:SmH a0)(hh:zbE a0 a1 a2=true) :
 zk3 N a0 a1 a2=some (zdS (zff (zhn a0 a1 a2 (gOf a0 a1 a2) (ieq (zC (gOf a0 a1 a2)) 4)) a1 a2 (gOf a0 a1 a2) (ieq (zC (gOf a0 a1 a2)) 4),true)):=by
 obtain ⟨g1,g2,g3⟩:=zcH hh;have hx:=zjG hs g2 g3;have k:=ztf (b:=a0.Buffer) (page:=zW (address (gOf a0 a1 a2))) (need:=zbM (ieq (zC (gOf a0 a1 a2)) 4)) (io:=false) hs hh;have F:=zlt k g2 g3;have eM:=zVg g2;have e3:zcU a0 a1 a2=zC (gOf a0 a1 a2):=by
  show zhb (ix (zb7 a0 a1).Guests a2 gZ)=_
  rw[eM];rfl
 have e4:zgT a0 a1 a2=address (gOf a0 a1 a2):=by
  show zkp (ix (zb7 a0 a1).Guests a2 gZ)=_
  rw[eM];rfl
 have e1:zwU a0 a1 a2=(zhn a0 a1 a2 (gOf a0 a1 a2) (ieq (zC (gOf a0 a1 a2)) 4)).1:=by
  show zsA a0 a1 a2 (zdT (zgT a0 a1 a2)) (zeF (ieq (zcU a0 a1 a2) 4))=_
  rw[e3,e4];rfl
 have e6:zwV a0 a1 a2=(zhn a0 a1 a2 (gOf a0 a1 a2) (ieq (zC (gOf a0 a1 a2)) 4)).2.1:=by
  show zsB a0 a1 a2 (zdT (zgT a0 a1 a2)) (zeF (ieq (zcU a0 a1 a2) 4))=_
  rw[e3,e4];rfl
 unfold zk3 oN nB
 conv=>zeta
 rw[e1,e3,e4,e6,eM];unfold zff;refine must rfl (must rfl (must (zbe ((zK _).2 hs)) (brN (fun h=>?_) (fun h=>?_))))
 .rw [show (zhn a0 a1 a2 (gOf a0 a1 a2) (ieq (zC (gOf a0 a1 a2)) 4)).2.2=false from h]
  exact must rfl (must rfl (must (zbe hx) (must (zx F.hm) (must (zx F.hg) rfl))))
 .rw [show (zhn a0 a1 a2 (gOf a0 a1 a2) (ieq (zC (gOf a0 a1 a2)) 4)).2.2=true from h]
  refine br (fun h4=>?_) (fun h4=>?_)
  .have kk:=k.shape.1.1;rw[h4] at F kk ⊢;exact must rfl (must (zbe kk) (must (zbe hx) (must (zx F.hm) (must (zx F.hg) rfl))))
  .rw [h4] at F ⊢;exact must rfl (must rfl (must (zbe hx) (must (zx F.hm) (must (zx F.hg) rfl))))
theorem is_2 {N:Nat}{a0:Host}{x4:List Mon}{a1 a2:Int}(hx:SmG (gOf a0 a1 a2))(g3:hasB a2 (ln (ix x4 a1 mZ).Guests)=true)(e:zk2 x4 a1 a2=zgS a0 a1 a2) :
 zk4 N a0 a1 a2 x4=some (zdS (ze2 { a0 with Mons:=x4 } a1 a2 (zbH (gOf a0 a1 a2)),true)):=by
 unfold zk4 oN
 conv=>zeta
 rw[e];exact must (zbe hx) (must (zx g3) rfl)
def leftG (x:Guest)(w:Int):Guest:=bif ieq w 7 then held x else zbH x
def zy8 (h:Host)(m:Int)(x:Guest)(w:Int):Host:=bif ieq w 7 then h else zfx h m (zbW x.Prog x.Pc).X
theorem zxv {h:Host}{m:Int}{x:Guest}{w:Int}(hh:ieq w 7=true):leftG x w=held x/\zy8 h m x w=h:=by
 unfold leftG zy8;rw[hh];exact ⟨rfl,rfl⟩
theorem zmp {h:Host}{m:Int}{x:Guest}{w:Int}(hh:ieq w 7=false):leftG x w=zbH x/\zy8 h m x w=zfx h m (zbW x.Prog x.Pc).X:=by
 unfold leftG zy8;rw[hh];exact ⟨rfl,rfl⟩
theorem zYF {h:Host}{m n:Int}(hh:ilt (ln (ix h.Mons m mZ).Outs) 40=true):zfx h m n={ h with Mons:=up h.Mons m { ix h.Mons m mZ with Outs:=ap (ix h.Mons m mZ).Outs [n] } }:=by
 unfold zfx;rw[hh];rfl
theorem zYE {h:Host}{m n:Int}(hh:ilt (ln (ix h.Mons m mZ).Outs) 40=false):zfx h m n=h:=by
 unfold zfx;rw[hh];rfl
theorem is_3 {N:Nat}{a0:Host}{a1 a2:Int}(hs:SmH a0)(g2:hasB a1 (ln a0.Mons)=true)(g3:hasB a2 (ln (ix a0.Mons a1 mZ).Guests)=true)(eW:zcU a0 a1 a2=zC (gOf a0 a1 a2)) :
 zk5 N a0 a1 a2=some (zdS (ze2 (zy8 a0 a1 (gOf a0 a1 a2) (zC (gOf a0 a1 a2))) a1 a2 (leftG (gOf a0 a1 a2) (zC (gOf a0 a1 a2))),true)):=by
 have hx:=zjG hs g2 g3;unfold zk5 oN
 conv=>zeta
 rw[eW];refine br (fun h7=>?_) (fun h7=>br (fun h3=>?_) (fun h3=>?_))
 .rw [(zxv (x:=gOf a0 a1 a2) (h:=a0) (m:=a1) h7).1,(zxv (x:=gOf a0 a1 a2) h7).2];exact must (zbe hx) (must (zx g3) rfl)
 .rw [(zmp (x:=gOf a0 a1 a2) (h:=a0) (m:=a1) h7).1,(zmp (x:=gOf a0 a1 a2) h7).2,zYF h3];refine must rfl (must (zSL h3) (must (zLr _) (shr (is_2 hx ?_ ?_))))
  .rw [zox g2];exact g3
  .show ix (ix (up a0.Mons a1 _) a1 mZ).Guests a2 gZ=_
   rw[zox g2]
 .rw [(zmp (x:=gOf a0 a1 a2) (h:=a0) (m:=a1) h7).1,(zmp (x:=gOf a0 a1 a2) h7).2,zYE h3];exact must (zbe hx) (must (zx g3) rfl)
theorem z9W {h:Host}{m g:Int}{x:Guest}{w:Int}(h6:ieq w 6=false)(h57:ieq w 5=false->ieq w 6=false->ieq w 7=true)(hT:zcL x.Ctl.Traps (zdL w)=false):zhV h m g x w=ze2 (zy8 (zcW h m x w) m x w) m g (leftG x w):=by
 unfold zhV;cases h7:ieq w 7
 .have h5:ieq w 5=true:=by
   cases h5:ieq w 5
   .have:=h57 h5 h6;rw[h7] at this;cases this
   .rfl
  obtain ⟨e1,e2⟩:=tr3 x x.Ctl.Traps w h6 h7 hT h5;rw[(zmp (x:=x) (h:=zcW h m x w) (m:=m) h7).1,(zmp (x:=x) h7).2,e1];unfold zfs;rw[e2,h5];rfl
 .have h5:ieq w 5=false:=by
   have:w=7:=qE h7;rw[this];rfl
  rw[(zxv (x:=x) (h:=zcW h m x w) (m:=m) h7).1,(zxv (x:=x) h7).2,tr4 x x.Ctl.Traps w h6 h57 hT h5,zD2 h5]
theorem is_p {a0:Host}{x5:List Mon}{a1 a2:Int}(hx:SmG (gOf a0 a1 a2))(g3:hasB a2 (ln (ix x5 a1 mZ).Guests)=true)(e:(ix (ix x5 a1 zf).Guests a2 zi)=gOf a0 a1 a2) :
 (cond (zep ({ (ix (ix (zbL a0).Mons a1 zf).Guests a2 zi) with Prog:=(ix (ix x5 a1 zf).Guests a2 zi).Prog,Written:=(ix (ix x5 a1 zf).Guests a2 zi).Written,Live:=(ix (ix x5 a1 zf).Guests a2 zi).Live,Seen:=(ix (ix x5 a1 zf).Guests a2 zi).Seen }:Guest)) (cond (inb a2 (ln (ix x5 a1 zf).Guests)) (share (up x5 a1 ({ (ix x5 a1 zf) with Guests:=(up (ix x5 a1 zf).Guests a2 (zd9 ({ (ix (ix (zbL a0).Mons a1 zf).Guests a2 zi) with Prog:=(ix (ix x5 a1 zf).Guests a2 zi).Prog,Written:=(ix (ix x5 a1 zf).Guests a2 zi).Written,Live:=(ix (ix x5 a1 zf).Guests a2 zi).Live,Seen:=(ix (ix x5 a1 zf).Guests a2 zi).Seen }:Guest))) }:Mon)) (fun x6=>(some [(.agg (zbc ({ (zbL a0) with Mons:=x6 }:Host))),(.one (.b true))]))) none) none)=some (zdS (ze2 { a0 with Mons:=x5 } a1 a2 (zbH (gOf a0 a1 a2)),true)):=by
 rw[e];exact must (zbe hx) (must (zx g3) rfl)
theorem is_o {a0:Host}{x4:List Mon}{a1 a2:Int}(hx:SmG (gOf a0 a1 a2))(g2:hasB a1 (ln x4)=true)(g3:hasB a2 (ln (ix x4 a1 mZ).Guests)=true)(e:(ix (ix x4 a1 zf).Guests a2 zi)=gOf a0 a1 a2) :
 (cond (ieq (zC (gOf a0 a1 a2)) 7) (cond (zm6 ({ (ix (ix (zbL a0).Mons a1 zf).Guests a2 zi) with Prog:=(ix (ix x4 a1 zf).Guests a2 zi).Prog,Written:=(ix (ix x4 a1 zf).Guests a2 zi).Written,Live:=(ix (ix x4 a1 zf).Guests a2 zi).Live,Seen:=(ix (ix x4 a1 zf).Guests a2 zi).Seen }:Guest)) (cond (inb a2 (ln (ix x4 a1 zf).Guests)) (share (up x4 a1 ({ (ix x4 a1 zf) with Guests:=(up (ix x4 a1 zf).Guests a2 (zmg ({ (ix (ix (zbL a0).Mons a1 zf).Guests a2 zi) with Prog:=(ix (ix x4 a1 zf).Guests a2 zi).Prog,Written:=(ix (ix x4 a1 zf).Guests a2 zi).Written,Live:=(ix (ix x4 a1 zf).Guests a2 zi).Live,Seen:=(ix (ix x4 a1 zf).Guests a2 zi).Seen }:Guest))) }:Mon)) (fun x5=>(some [(.agg (zbc ({ (zbL a0) with Mons:=x5 }:Host))),(.one (.b true))]))) none) none) (cond (ilt (ln (ix x4 a1 zf).Outs) 40) (cond (zf5 (ix (ix x4 a1 zf).Guests a2 zi).Prog (ix (ix (zbL a0).Mons a1 zf).Guests a2 zi).Pc) (cond (few (ln (ap (ix x4 a1 zf).Outs [(zgi (ix (ix x4 a1 zf).Guests a2 zi).Prog (ix (ix (zbL a0).Mons a1 zf).Guests a2 zi).Pc).X]))) (cond (cond (ieq a1 a1) true false) (share (up x4 a1 ({ (ix x4 a1 zf) with Outs:=(ap (ix x4 a1 zf).Outs [(zgi (ix (ix x4 a1 zf).Guests a2 zi).Prog (ix (ix (zbL a0).Mons a1 zf).Guests a2 zi).Pc).X]) }:Mon)) (fun x5=>(cond (zep ({ (ix (ix (zbL a0).Mons a1 zf).Guests a2 zi) with Prog:=(ix (ix x5 a1 zf).Guests a2 zi).Prog,Written:=(ix (ix x5 a1 zf).Guests a2 zi).Written,Live:=(ix (ix x5 a1 zf).Guests a2 zi).Live,Seen:=(ix (ix x5 a1 zf).Guests a2 zi).Seen }:Guest)) (cond (inb a2 (ln (ix x5 a1 zf).Guests)) (share (up x5 a1 ({ (ix x5 a1 zf) with Guests:=(up (ix x5 a1 zf).Guests a2 (zd9 ({ (ix (ix (zbL a0).Mons a1 zf).Guests a2 zi) with Prog:=(ix (ix x5 a1 zf).Guests a2 zi).Prog,Written:=(ix (ix x5 a1 zf).Guests a2 zi).Written,Live:=(ix (ix x5 a1 zf).Guests a2 zi).Live,Seen:=(ix (ix x5 a1 zf).Guests a2 zi).Seen }:Guest))) }:Mon)) (fun x6=>(some [(.agg (zbc ({ (zbL a0) with Mons:=x6 }:Host))),(.one (.b true))]))) none) none))) none) none) none) (cond (zep ({ (ix (ix (zbL a0).Mons a1 zf).Guests a2 zi) with Prog:=(ix (ix x4 a1 zf).Guests a2 zi).Prog,Written:=(ix (ix x4 a1 zf).Guests a2 zi).Written,Live:=(ix (ix x4 a1 zf).Guests a2 zi).Live,Seen:=(ix (ix x4 a1 zf).Guests a2 zi).Seen }:Guest)) (cond (inb a2 (ln (ix x4 a1 zf).Guests)) (share (up x4 a1 ({ (ix x4 a1 zf) with Guests:=(up (ix x4 a1 zf).Guests a2 (zd9 ({ (ix (ix (zbL a0).Mons a1 zf).Guests a2 zi) with Prog:=(ix (ix x4 a1 zf).Guests a2 zi).Prog,Written:=(ix (ix x4 a1 zf).Guests a2 zi).Written,Live:=(ix (ix x4 a1 zf).Guests a2 zi).Live,Seen:=(ix (ix x4 a1 zf).Guests a2 zi).Seen }:Guest))) }:Mon)) (fun x5=>(some [(.agg (zbc ({ (zbL a0) with Mons:=x5 }:Host))),(.one (.b true))]))) none) none)))=some (zdS (ze2 (zy8 { a0 with Mons:=x4 } a1 (gOf a0 a1 a2) (zC (gOf a0 a1 a2))) a1 a2 (leftG (gOf a0 a1 a2) (zC (gOf a0 a1 a2))),true)):=by
 rw[e];refine br (fun h7=>?_) (fun h7=>br (fun h3=>?_) (fun h3=>?_))
 .rw [(zxv (x:=gOf a0 a1 a2) (h:={ a0 with Mons:=x4 }) (m:=a1) h7).1,(zxv (x:=gOf a0 a1 a2) h7).2];exact must (zbe hx) (must (zx g3) rfl)
 .rw [(zmp (x:=gOf a0 a1 a2) (h:={ a0 with Mons:=x4 }) (m:=a1) h7).1,(zmp (x:=gOf a0 a1 a2) h7).2,zYF (h:={ a0 with Mons:=x4 }) h3];refine must rfl (must (zSL h3) (must (zLr _) (shr (is_p hx ?_ ?_))))
  .rw [zox (h:={ a0 with Mons:=x4 }) g2];exact g3
  .show ix (ix (up x4 a1 _) a1 mZ).Guests a2 gZ=_
   rw[zox (h:={ a0 with Mons:=x4 }) g2];exact e
 .rw [(zmp (x:=gOf a0 a1 a2) (h:={ a0 with Mons:=x4 }) (m:=a1) h7).1,(zmp (x:=gOf a0 a1 a2) h7).2,zYE (h:={ a0 with Mons:=x4 }) h3];exact must (zbe hx) (must (zx g3) rfl)
theorem tf (b:Bool):b=false\/b=true:=by cases b<;>simp
theorem is_4 {N:Nat}{a0:Host}{a1 a2:Int}(hs:SmH a0)(g2:hasB a1 (ln a0.Mons)=true)(g3:hasB a2 (ln (ix a0.Mons a1 mZ).Guests)=true)(eW:zcU a0 a1 a2=zC (gOf a0 a1 a2))(h6:ieq (zC (gOf a0 a1 a2)) 6=false)(h57:ieq (zC (gOf a0 a1 a2)) 5=false->ieq (zC (gOf a0 a1 a2)) 6=false->ieq (zC (gOf a0 a1 a2)) 7=true) :
 zk6 N a1 a0 a2=some (zdS (zhV a0 a1 a2 (gOf a0 a1 a2) (zC (gOf a0 a1 a2)),true)):=by
 have hx:=zjG hs g2 g3;have T3:=is_3 (N:=N) hs g2 g3 eW;have hn6:ine (zC (gOf a0 a1 a2)) 6=true:=by rw[zlo,h6];rfl
 unfold zk6 oN
 conv=>zeta
 rw[eW];refine must (zx g2) (must (zx g3) (must rfl (must rfl ?_)));rw[show ieq (znE (ix a0.Mons a1 zf).Traps (zgS a0 a1 a2).Ctl.Traps (zhd (zC (gOf a0 a1 a2)))) 1=zcL (gOf a0 a1 a2).Ctl.Traps (zdL (zC (gOf a0 a1 a2))) from z9M _ _ _]
 refine br (fun hT=>?_) (fun hT=>?_)
 .obtain ⟨e1,e2⟩:=tr2 (gOf a0 a1 a2) (gOf a0 a1 a2).Ctl.Traps _ h6 h57 hT;have e0:zcW a0 a1 (gOf a0 a1 a2) (zC (gOf a0 a1 a2))=a0:=by
   unfold zcW;rw[hn6,z9N hT];rfl
  unfold zhV;rw[e0,zMK e2,e1];exact must (zbe hx) (must (zx g3) rfl)
 .rw [z9W h6 h57 hT];have e0:zcW a0 a1 (gOf a0 a1 a2) (zC (gOf a0 a1 a2))=bif ieq (zh4 (ix a0.Mons a1 mZ).Traps (gOf a0 a1 a2).Ctl.Traps (zdL (zC (gOf a0 a1 a2)))) 2 then owned a0 a1 else a0:=by
   unfold zcW;rw[hn6];rfl
  rw[e0];refine br (fun hO=>?_) (fun hO=>?_)
  .rw [show ieq (zh4 (ix a0.Mons a1 mZ).Traps (gOf a0 a1 a2).Ctl.Traps (zdL (zC (gOf a0 a1 a2)))) 2=true from hO]
   simp only[cT];unfold owned;refine br (fun h0=>?_) (fun h0=>?_)
   rotate_left
   .rw [h0];exact T3
   rw[h0];refine shr ?_;have eM:=zox g2 { ix a0.Mons a1 mZ with Own:=zI .i64 (ix a0.Mons a1 mZ).Own 1 };have g2':hasB a1 (ln (up a0.Mons a1 { ix a0.Mons a1 mZ with Own:=zI .i64 (ix a0.Mons a1 mZ).Own 1 }))=true:=zeh g2;have e5:zk2 (up a0.Mons a1 { ix a0.Mons a1 mZ with Own:=zI .i64 (ix a0.Mons a1 mZ).Own 1 }) a1 a2=zgS a0 a1 a2:=by
    show ix (ix (up a0.Mons a1 _) a1 mZ).Guests a2 gZ=_
    rw[eM]
   refine is_o hx g2' ?_ e5;rw[eM];exact g3
  .rw [show ieq (zh4 (ix a0.Mons a1 mZ).Traps (gOf a0 a1 a2).Ctl.Traps (zdL (zC (gOf a0 a1 a2)))) 2=false from hO]
   exact T3
theorem z4E {N:Nat}{a0:Host}{a1 a2:Int}(hs:SmH a0)(hh:zbE a0 a1 a2=true)(h0:ieq (zC (gOf a0 a1 a2)) 0=false){y:Guest}{o:List Int}(hy:(stepped (zy a0 a1) a2 (gOf a0 a1 a2) (zC (gOf a0 a1 a2))).Guests=up (ix a0.Mons a1 mZ).Guests a2 y)(hb:SmB (zy a0 a1)) :
 zie N a0 a1 a2=some (zdS (ze2 a0 a1 a2 y,true)):=by
 obtain ⟨g1,g2,g3⟩:=zcH hh;have hsb:=zwd g1 g2;have eg:(zy a0 a1).Guests=(ix a0.Mons a1 mZ).Guests:=by
  unfold zy;rw[g2];rfl
 have hgg:hasB a2 (ln (zy a0 a1).Guests)=true:=by rw[eg];exact g3
 have eA:gAt (zy a0 a1) a2=gOf a0 a1 a2:=by
  unfold gAt;rw[hgg,eg];rfl
 have hcan:zgf (zy a0 a1) a2=true:=by
  unfold zgf;rw[hgg,hsb,eA,h0];rfl
 have eS:zei (zy a0 a1) a2=stepped (zy a0 a1) a2 (gOf a0 a1 a2) (zC (gOf a0 a1 a2)):=by
  unfold zei;rw[hcan,eA];rfl
 have hG:(zio (zpz a0 a1) a2).Guests=up (ix a0.Mons a1 mZ).Guests a2 y:=by
  show (zei (zy a0 a1) a2).Guests=_
  rw[eS,hy]
 unfold zie oN;rw[hG];exact must (zbe ((zK _).2 hs)) (must (zbe hb) (must (zx g2) rfl))
theorem zIU {h:Host}{m:Int}(hs:SmH h)(hm:hasB m (ln h.Mons)=true):SmB (zy h m):=by
 have g1:=hs.2.1.2 _ (zbu hm mZ);have hP:∀(mm:List (List Int)) (q:Int),SmM mm->(zcd mm q).length<=1048576:=fun mm q h=>zVX h;have hpg:∀p:Int,(zb9 h m p).length<=1048576:=by
  intro p;unfold zb9;cases hasB m (ln h.Mons)
  .exact (by decide:zzF.length<=1048576)
  .cases hasB p 8
   .exact (by decide:zzF.length<=1048576)
   .simp only [cT];cases ine (zbk (ix h.Mons m zf).Outer p).Page (-1)
    .exact hP _ _ g1.2.1
    .exact hP _ _ hs.1
 have hN:∀(n i:Nat),∀x∈zch h m n i,x.length<=1048576:=by
  intro n
  induction n with
  | zero=>intro i x hx;cases hx
  | succ n ih =>
   intro i x hx;rcases qI.1 hx with rfl|hx
   .exact hpg _
   .exact ih (i+1) x hx
 unfold zy;rw[hm];exact ⟨⟨by show (zch h m 8 0).length<=1048576;rw[zze];decide,hN 8 0⟩,g1.2.2.2.1,g1.2.2.2.2.1⟩
theorem zwj (b:Bare)(g:Int)(x:Guest):(zdB b g x).Guests=up b.Guests g x:=rfl
theorem zOn (a0:Host)(a1 a2:Int)(hb:zbN big [aH a0,aI a1,aI a2])(hc:zoh a0 a1 a2=true):∃N,zBe N a0 a1 a2=some [aH (zof a0 a1 a2),aB (zog a0 a1 a2)]:=by
 have hs:=(zK a0).1 (zF.1 hc);refine ⟨0,?_⟩
 show _=some (zdS (zS a0 a1 a2))
 unfold zBe oN nB
 conv=>zeta
 refine must (zbe ((zK _).2 hs)) (must (zbe ((zK _).2 hs)) (must rfl (brN (fun h1=>?_) (fun h1=>brN (fun h2=>?_) (fun h2=>?_)))))
 .rw [zhA (zM9 h1)];rfl
 .rw [zhA (zNa h2)];rfl
 have eM:=zVg (h:=a0) (m:=a1) h2;have eW:zcU a0 a1 a2=zC (gOf a0 a1 a2):=by
  show zhb (ix (zb7 a0 a1).Guests a2 gZ)=_
  rw[eM];rfl
 rw[eM,eW];refine must rfl (brN (fun h3=>?_) (fun h3=>?_))
 .rw [zhA (zNb h3)];rfl
 have hh:=zNc h1 h2 h3;have g2:hasB a1 (ln a0.Mons)=true:=h2;have g3:hasB a2 (ln (ix a0.Mons a1 mZ).Guests)=true:=h3;have hb:=zIU hs g2;have eg:(zy a0 a1).Guests=(ix a0.Mons a1 mZ).Guests:=by
  unfold zy;rw[g2];rfl
 rw[zic hh];unfold zDY;refine must (zx g3) (must rfl (br (fun h0=>?_) (fun h0=>must (zx g3) (must rfl (must rfl (br (fun q3=>must q3 ?_) (fun q3=>br (fun q4=>?_) (fun q4=>?_))))))))
 .rw [h0];rfl
 .have e:zC (gOf a0 a1 a2)=3:=qE q3;have T:=z9F (N:=0) hs hh;rw[T];rw[e];rfl
 .have e:zC (gOf a0 a1 a2)=4:=qE q4;have T:=z9F (N:=0) hs hh;rw[T];rw[e];rfl
 .have fin:∀{R:Host×Bool},zfy 0 a0 a1 a2=some (zdS R)->R=(bif ieq (zC (gOf a0 a1 a2)) 0 then (a0,false) else (bif ieq (zC (gOf a0 a1 a2)) 1 then (ze2 a0 a1 a2 (interrupted (gOf a0 a1 a2)),true) else (bif ieq (zC (gOf a0 a1 a2)) 2 then (ze2 a0 a1 a2 (plainly (gOf a0 a1 a2)),true) else
   (cond (cond (ieq (zC (gOf a0 a1 a2)) 3) true (ieq (zC (gOf a0 a1 a2)) 4)) (zff (zhn a0 a1 a2 (gOf a0 a1 a2) (ieq (zC (gOf a0 a1 a2)) 4)) a1 a2 (gOf a0 a1 a2) (ieq (zC (gOf a0 a1 a2)) 4),true) (zhV a0 a1 a2 (gOf a0 a1 a2) (zC (gOf a0 a1 a2)),true)))))->zfy 0 a0 a1 a2=_:=fun h e=>h.trans (congrArg (fun x=>some (zdS x)) e)
  have i6:ieq (zC (gOf a0 a1 a2)) 5=false->ieq (zC (gOf a0 a1 a2)) 7=false->zfy 0 a0 a1 a2=zie 0 a0 a1 a2:=by
   intro h5 h7;unfold zfy
   conv=>zeta
   rw[eW];exact zcB h5 (zcB h7 rfl)
  rcases tf (ieq (zC (gOf a0 a1 a2)) 1) with w1|w1
  .rcases tf (ieq (zC (gOf a0 a1 a2)) 2) with w2|w2
   .rcases tf (ieq (zC (gOf a0 a1 a2)) 6) with w6|w6
    .have h57:ieq (zC (gOf a0 a1 a2)) 5=false->ieq (zC (gOf a0 a1 a2)) 6=false->ieq (zC (gOf a0 a1 a2)) 7=true:=fun h5 h6=>z0Z _ h0 w1 w2 q3 q4 h5 h6;have T:=is_4 (N:=0) hs g2 g3 eW w6 h57;refine fin (R:=(zhV a0 a1 a2 (gOf a0 a1 a2) (zC (gOf a0 a1 a2)),true)) ?_ (by rw[h0,w1,w2,q3,q4];rfl)
     unfold zfy
     conv=>zeta
     rw[eW];cases w5:ieq (zC (gOf a0 a1 a2)) 5
     .exact zcB rfl (must (h57 w5 w6) T)
     .exact must rfl (must rfl T)
    .have e:zC (gOf a0 a1 a2)=6:=qE w6;refine fin (R:=(ze2 a0 a1 a2 (zeP (gOf a0 a1 a2) (gOf a0 a1 a2).Ctl.Traps (zC (gOf a0 a1 a2))),true)) ?_ ?_
     .rw [i6 (by rw[e];rfl) (by rw[e];rfl)]
      refine z4E (o:=[]) hs hh h0 ?_ hb;unfold stepped zp7;rw[w1,w2,q3,q4,(tr1 (gOf a0 a1 a2) (gOf a0 a1 a2).Ctl.Traps _ w6).2]
      show (zdB (zy a0 a1) a2 _).Guests=_
      rw[zwj,eg]
     .rw [h0,w1,w2,q3,q4];unfold zhV zcW;rw[zMK (tr1 (gOf a0 a1 a2) (gOf a0 a1 a2).Ctl.Traps _ w6).2,zlo,w6];rfl
   .have e:zC (gOf a0 a1 a2)=2:=qE w2;refine fin (R:=(ze2 a0 a1 a2 (plainly (gOf a0 a1 a2)),true)) ?_ (by rw[h0,w1,w2];rfl)
    rw[i6 (by rw[e];rfl) (by rw[e];rfl)]
    refine z4E (o:=[]) hs hh h0 ?_ hb;unfold stepped;rw[w1,w2]
    show (zdB (zy a0 a1) a2 _).Guests=_
    rw[zwj,eg]
  .have e:zC (gOf a0 a1 a2)=1:=qE w1;refine fin (R:=(ze2 a0 a1 a2 (interrupted (gOf a0 a1 a2)),true)) ?_ (by rw[h0,w1];rfl)
   rw[i6 (by rw[e];rfl) (by rw[e];rfl)]
   refine z4E (o:=[]) hs hh h0 ?_ hb;unfold stepped;rw[w1]
   show (zdB (zy a0 a1) a2 _).Guests=_
   rw[zwj,eg]
theorem ztH:vJ 18 zpN:=hF3 zQo zk zbT zgm (zq []) zOn
def z6J:zO:=[(18,zpN)]++z1I
theorem z4h:zG z6J:=zh ztH zQo
def z6K:zO:=[(242,zr5)]++z6J
theorem z4i:zG z6K:=zh zu9 z4h
def cnt (l:List Mon):List Nat:=l.map fun x=>x.Guests.length
theorem z9f {l l':List Mon}(h:zd0 l'=zd0 l):cnt l'=cnt l:=by
 have e:∀l:List Mon,cnt l=(zd0 l).map List.length:=fun l=>by simp[cnt,zd0]
 rw[e,e,h]
theorem zTl {l:List Mon}{m:Int}{x:Mon}(hm:hasB m (ln l)=true)(hx:x.Guests.length=(ix l m mZ).Guests.length):cnt (up l m x)=cnt l:=by
 obtain ⟨k,rfl,hk⟩:=zdH (n:=l.length) hm;unfold cnt up;rw[List.map_set,kV,hx,zbg hk];have:=@uX _ (l.map fun x=>x.Guests.length) k (by simpa using hk)
 simpa using this
theorem z7F {l l':List Mon}(h:cnt l'=cnt l):l'.length=l.length:=by
 have:=congrArg List.length h;simpa [cnt] using this
theorem z9g {l l':List Mon}(h:cnt l'=cnt l)(m:Int):(ix l' m mZ).Guests.length=(ix l m mZ).Guests.length:=by
 have h2:(cnt l')[m.toNat]?=(cnt l)[m.toNat]?:=by rw[h]
 unfold cnt at h2;rw[qN,qN]at h2;unfold ix;simp only[j7];cases h3:l'[m.toNat]? <;> cases h4:l[m.toNat]? <;> rw [h3,h4]at h2<;>simp at h2 ⊢;exact h2
theorem z8y (h:Host)(m p:Int):(zdk h m p).Memory=h.Memory:=(zf9 (zeA h m p) m p noSlot).2
theorem z8x (h:Host):(zcX h).Memory=h.Memory:=by
 unfold zcX;cases ieq (ln (zb3 h)) 0
 .rfl
 .exact z8y _ _ _
theorem z8w (m:List (List Int))(p:Int)(c:List Int):(zhl m p c).length=m.length:=by
 unfold zhl;cases hasB p (ln m)
 .rfl
 .cases zca c
  .rfl
  .simp
theorem z8u (m:List (List Int))(p c v:Int):(zbv m p c v).length=m.length:=by
 unfold zbv;cases zfv m p c
 .rfl
 .cases win v 0 99
  .rfl
  .simp
theorem z0b (h:Host)(m p:Int):(fetched h m p).Memory.length=h.Memory.length:=by
 unfold fetched zeJ;rw[(zf9 _ _ _ _).2];unfold landing;rw[z8w,z8x]
theorem zVf (h:Host)(m p n:Int):(zjb h m p n).Memory=h.Memory:=by
 unfold zjb;cases ieq (wand .i64 n 2) 0
 .unfold opened;cases ieq (wand .i64 (ix (ix (zbt h m p).Mons m mZ).Outer p sZ).Rights 2) 0
  .rfl
  .exact (zf9 _ _ _ _).2
 .rfl
theorem z2x (h:Host)(m p n:Int):(mended h m p n).Memory.length=h.Memory.length:=by
 unfold mended;cases ieq (ix (ix h.Mons m mZ).Outer p sZ).Page (-1)
 .exact congrArg List.length (zVf _ _ _ _)
 .exact (congrArg List.length (zVf _ _ _ _)).trans (z0b _ _ _)
theorem z2y (h:Host)(m g p:Int)(io:Bool):(zve h m g p io).Memory=h.Memory:=by cases io<;>rfl
theorem z4P (h:Host)(b:List Entry)(m g page need q:Int)(io:Bool):(zfQ h b m g page need q io).1.Memory.length=h.Memory.length:=by
 unfold zfQ;cases zht b m g page need
 .cases zd3 h m g page need
  .exact congrArg List.length (z2y _ _ _ _ _)
  .exact (congrArg List.length (z2y _ _ _ _ _)).trans (z2x h m q need)
 .rfl
theorem z8v (h:Host)(b:List Entry)(m g page need:Int)(io:Bool):(lookOf h b m g page need io).1.Memory.length=h.Memory.length:=by
 unfold lookOf;cases zbJ h m g page need
 .rfl
 .simp only [cT];rw[z4P];cases ieq need 2<;>rfl
structure Keep (h r:Host):Prop where
 shape:Shape r
 cnt:cnt r.Mons=cnt h.Mons
 mem:r.Memory.length=h.Memory.length
theorem Keep.has {h r:Host}(k:Keep h r){m:Int}(hm:hasB m (ln h.Mons)=true):hasB m (ln r.Mons)=true:=by
 rw[ln,z7F k.cnt];exact hm
theorem Keep.hg {h r:Host}(k:Keep h r){m g:Int}(hg:hasB g (ln (ix h.Mons m mZ).Guests)=true):hasB g (ln (ix r.Mons m mZ).Guests)=true:=by
 rw[ln,z9g k.cnt];exact hg
theorem Keep.trans {a b c:Host}(h:Keep a b)(k:Keep b c):Keep a c:=⟨k.shape,k.cnt.trans h.cnt,k.mem.trans h.mem⟩
theorem Keep.rfl' {h:Host}(hs:Shape h):Keep h h:=⟨hs,rfl,rfl⟩
theorem znG {h:Host}{m g:Int}{x:Guest}(hs:Shape h)(hm:hasB m (ln h.Mons)=true)(hx:SmG x):Keep h (ze2 h m g x):=⟨z0N hs hm hx,zTl hm (by simp),rfl⟩
theorem zCw {h:Host}{b:List Entry}{m g page need:Int}{io:Bool}(hs:SmH h)(hh:zbE h m g=true):Keep h (lookOf h b m g page need io).1:=by
 have k:=ztf (b:=b) (page:=page) (need:=need) (io:=io) hs hh;exact ⟨k.shape,z9f k.gs,z8v _ _ _ _ _ _ _⟩
theorem z2f {h:Host}{p c v:Int}(hs:Shape h):Keep h { h with Memory:=zbv h.Memory p c v }:=⟨zQW hs (zzA hs.1.1),rfl,z8u _ _ _ _⟩
theorem zZ1 {h:Host}{m:Int}(hs:Shape h)(hm:hasB m (ln h.Mons)=true):Keep h (owned h m):=by
 obtain ⟨g1,g2⟩:=zcg hs hm;unfold owned;cases ilt (ix h.Mons m mZ).Own 1000000000
 .exact Keep.rfl' hs
 .exact ⟨zib hs g1 g2,zTl hm rfl,rfl⟩
theorem zZ0 {h:Host}{m n:Int}(hs:Shape h)(hm:hasB m (ln h.Mons)=true):Keep h (zfx h m n):=by
 obtain ⟨g1,g2⟩:=zcg hs hm;unfold zfx;cases h3:ilt (ln (ix h.Mons m mZ).Outs) 40
 .exact Keep.rfl' hs
 .have h4:=qE h3;simp only[ln]at h4;refine ⟨zib hs ⟨g1.1,g1.2.1,g1.2.2.1,g1.2.2.2.1,?_,g1.2.2.2.2.2⟩ g2,zTl hm rfl,rfl⟩;simp[ap];omega
theorem z2h {h:Host}{m g:Int}{x:Guest}{w:Int}(hs:Shape h)(hm:hasB m (ln h.Mons)=true)(hx:SmG x):Keep h (zhV h m g x w):=by
 have k1:Keep h (zcW h m x w):=by
  unfold zcW;cases (cond (ine w 6) (ieq (zh4 (ix h.Mons m mZ).Traps x.Ctl.Traps (zdL w)) 2) false)
  .exact Keep.rfl' hs
  .exact zZ1 hs hm
 have k2:Keep (zcW h m x w) (zfs (zcW h m x w) m x w):=by
  unfold zfs;cases (cond (zfg x.Ctl.Traps w) (ieq w 5) false)
  .exact Keep.rfl' k1.shape
  .exact zZ0 k1.shape (k1.has hm)
 have k3:=k1.trans k2;exact k3.trans (znG k3.shape (k3.has hm) (zDV _ _ hx))
theorem z2g {h:Host}{m g:Int}(hs:SmH h)(hh:zbE h m g=true):Keep h (zS h m g).1:=by
 obtain ⟨g1,g2,g3⟩:=zcH hh;have hx:=zjG hs g2 g3;have hS:=(zeZ hs g1).1;rw[zic hh];unfold zDY;cases ieq (zC (gOf h m g)) 0
 .cases ieq (zC (gOf h m g)) 1
  .cases ieq (zC (gOf h m g)) 2
   .cases (cond (ieq (zC (gOf h m g)) 3) true (ieq (zC (gOf h m g)) 4))
    .exact z2h hS g2 hx
    .have k:=zCw (b:=h.Buffer) (page:=zW (address (gOf h m g))) (need:=zbM (ieq (zC (gOf h m g)) 4)) (io:=false) hs hh
     show Keep h (zff (zhn h m g (gOf h m g) (ieq (zC (gOf h m g)) 4)) m g (gOf h m g) (ieq (zC (gOf h m g)) 4))
     unfold zff;cases (zhn h m g (gOf h m g) (ieq (zC (gOf h m g)) 4)).2.2
     .exact k.trans (znG k.shape (k.has g2) hx)
     .cases ieq (zC (gOf h m g)) 4
      .have k:=zCw (b:=h.Buffer) (page:=zW (address (gOf h m g))) (need:=zbM false) (io:=false) hs hh;exact k.trans (znG k.shape (k.has g2) (zMz _ hx))
      .have k:=zCw (b:=h.Buffer) (page:=zW (address (gOf h m g))) (need:=zbM true) (io:=false) hs hh;have k2:=z2f (p:=(zhn h m g (gOf h m g) true).2.1) (c:=zcG (address (gOf h m g))) (v:=(gOf h m g).A) k.shape;have k3:=k.trans k2;exact k3.trans (znG k3.shape (k3.has g2) (zkY hx))
   .exact znG hS g2 (zG1 hx)
  .exact znG hS g2 (zYQ hx)
 .exact Keep.rfl' hS
structure Same (h r:Host):Prop where
 sm:SmH r
 cnt:cnt r.Mons=cnt h.Mons
 mem:r.Memory.length=h.Memory.length
 st:r=h\/Shape r
theorem Same.rfl' {h:Host}(hs:SmH h):Same h h:=⟨hs,rfl,rfl,.inl rfl⟩
theorem Same.trans {a b c:Host}(h:Same a b)(k:Same b c):Same a c:=⟨k.sm,k.cnt.trans h.cnt,k.mem.trans h.mem,by
 rcases k.st with e|e
 .rw [e];exact h.st
 .exact .inr e⟩
theorem zDS {h:Host}(m g:Int)(hs:SmH h):Same h (zS h m g).1:=by
 cases hh:zbE h m g
 .rw [zhA hh];exact Same.rfl' hs
 .have k:=z2g hs hh;exact ⟨k.shape.1,k.cnt,k.mem,.inr k.shape⟩
def z6L:zO:=[(64,zpM),(242,zr5)]++zZq
theorem zty:zG z6L:=zh ztG (zh zu9 zpq)
theorem zTh {a b:Bool}(h:(a=true)↔(b=true)):a=b:=by cases a<;>cases b<;>simp_all
@[simp] theorem z9Y (x:Int):win x 0 3=hasB x 4:=zTh (by rw[zfh];unfold hasB;rw[decide_eq_true_iff];omega)
@[simp] theorem z3u (x:Int):win x 0 7=hasB x 8:=zTh (by rw[zfh];unfold hasB;rw[decide_eq_true_iff];omega)
def zd5 (t:List Slot)(p:Int)(s:Slot):List Slot:=bif hasB p (ln t) then up t p s else t
@[simp] theorem z9Z (t:List Slot)(p:Int)(s:Slot):(zd5 t p s).length=t.length:=by
 unfold zd5;cases hasB p (ln t)<;>simp
@[simp] abbrev zo8 (t:List Slot)(p:Int)(s:Slot):Bool:=pc (t.length<=1048576)
@[simp] abbrev zlP (t:List Slot)(p:Int)(s:Slot):List Slot:=zd5 t p s
def zx6:Run:=rF3 (dS .slot) dI (dT .slot) fun b c d=>(zo8 b c d,[aS .slot (zlP b c d)])
def zBJ (N:Nat)(a0:lS)(a1:Int)(a2:Slot):OA:=
 (oN (few (ln (ap [] a0))) (oN (zJ a1 0 (wsub .i64 (ln a0) 1)) (cond (zL a1 0 (wsub .i64 (ln a0) 1)) (oN (inb a1 (ln (ap [] a0))) (share (up (ap [] a0) a1 a2) (fun x4=>(some [(aS .slot x4)])))) (some [(aS .slot (ap [] a0))]))))
theorem zOV (a0:List Slot)(a1:Int)(a2:Slot)(hc:zo8 a0 a1 a2=true):∃N,zBJ N a0 a1 a2=some [aS .slot (zlP a0 a1 a2)]:=by
 have hs:=zF.1 hc;refine ⟨0,?_⟩;unfold zBJ oN;refine mu (must rfl (br (fun _=>mu (shr ?_)) (fun _=>?_)))
 all_goals first|rfl|(simp only [*,zlP,zd5,cT,cF]<;>rfl)|simp_all[Ty.cells,zlP,zd5]
theorem zIb:vJ 308 zx6:=kF3 zty zk zl zo (zq []) zOV
def zgb (p n:Int):Bool:=bif zcR p then win n 0 7 else false
def zsJ (p n:Int):Int:=bif zgb p n then wor .i64 p (zk1 .i64 1 n) else p
theorem cv7 {n:Int}(h:hasB n 8=true):wcv .u64 n=n/\ile 0 n=true:=by
 have:=qE h;exact ⟨zPE (by omega) (by omega),qJ (by omega)⟩
@[simp] abbrev zjW (p n:Int):Bool:=true
@[simp] abbrev zgM (p n:Int):Int:=zsJ p n
@[simp] abbrev zmC (p n:Int):Bool:=zgb p n
def zAz:Run:=rF2 dI dI fun b c=>(zjW b c,[aI (zgM b c),aB (zmC b c)])
def zF2 (N:Nat)(a0 a1:Int):OA:=
 (oN (ze9 a0) (cond (nB (ze8 a0)) (some [(aI a0),(aB false)]) (oN (zJ a1 0 7) (cond (nB (zL a1 0 7)) (some [(aI a0),(aB false)]) (oN (ile 0 (wcv .u64 a1)) (some [(aI (wor .i64 a0 (zk1 .i64 1 (wcv .u64 a1)))),(aB true)]))))))
theorem zR6 (a0 a1:Int)(hc:zjW a0 a1=true):∃N,zF2 N a0 a1=some [aI (zgM a0 a1),aB (zmC a0 a1)]:=by
 have hw:=@cv7 a1;refine ⟨0,?_⟩;unfold zF2 oN nB;refine must rfl (brN (fun _=>?_) (fun _=>must rfl (brN (fun _=>?_) (fun _=>mu ?_))))
 all_goals first|rfl|(simp only [*,zgM,zmC,zsJ,zgb,cT,cF]<;>rfl)|simp_all[Ty.cells,zgM,zmC,zsJ,zgb]
theorem zK6:vJ 310 zAz:=kF2 zty zk zl zo (zq []) zR6
def posts (c:Ctl)(n:Int):Bool:=bif zhm c then (cond (win n 0 7) (ieq (wand .i64 (zjn .i64 c.Post n) 1) 1) false) else false
@[simp] abbrev zDP (c:Ctl)(n:Int):Bool:=true
@[simp] abbrev zye (c:Ctl)(n:Int):Bool:=posts c n
def zGQ:Run:=rF2 dC dI fun b c=>(zDP b c,[aB (zye b c)])
def zP1 (N:Nat)(a0:Ctl)(a1:Int):OA:=
 (oN (zrt a0) (cond (zpW a0) (oN (zJ a1 0 7) (cond (zL a1 0 7) (oN (ile 0 (wcv .u64 a1)) (some [(aB (ieq (wand .i64 (zjn .i64 a0.Post (wcv .u64 a1)) 1) 1))])) oF)) oF))
theorem zXl (a0:Ctl)(a1:Int)(hc:zDP a0 a1=true):∃N,zP1 N a0 a1=some [aB (zye a0 a1)]:=by
 have hw:=@cv7 a1;refine ⟨0,?_⟩;unfold zP1 oN;refine must rfl (br (fun _=>must rfl (br (fun _=>mu ?_) (fun _=>?_))) (fun _=>?_))
 all_goals first|rfl|(simp only [*,zye,posts,cT,cF]<;>rfl)|simp_all[Ty.cells,zye,posts]
theorem zRr:vJ 321 zGQ:=kF2 zty zk zl zo (zq []) zXl
def zb1 (b:Bare)(g:Int):Bool:=bif zbC b then hasB g (ln b.Guests) else false
theorem zdD {b:Bare}{g:Int}:(zb1 b g=true)↔zbC b=true/\hasB g (ln b.Guests)=true:=by
 unfold zb1;cases zbC b<;>simp
@[simp] abbrev ziS (b:Bare)(g:Int):Bool:=pc (SmB b)
@[simp] abbrev zj0 (b:Bare)(g:Int):Bool:=zb1 b g
def zGT:Run:=rF2 (dT .bare) dI fun b c=>(ziS b c,[aB (zj0 b c)])
def zP4 (N:Nat)(a0:Bare)(a1:Int):OA:=
 (oN (zoN a0) (cond (zeH a0) (oN (zJ a1 0 (wsub .i64 (ln a0.Guests) 1)) (some [(aB (zL a1 0 (wsub .i64 (ln a0.Guests) 1)))])) oF))
theorem zXo (a0:Bare)(a1:Int)(hc:ziS a0 a1=true):∃N,zP4 N a0 a1=some [aB (zj0 a0 a1)]:=by
 have hs:=zF.1 hc;have hl:a0.Guests.length<=1048576:=hs.2.1.1
 refine ⟨0,?_⟩;unfold zP4 oN;refine must rfl (br (fun _=>must rfl ?_) (fun _=>?_))
 all_goals first|rfl|(simp only [*,zj0,zb1,cT,cF]<;>rfl)|simp_all[Ty.cells,zj0,zb1]
theorem zRu:vJ 307 zGT:=kF2 zty zk zl zo (zq []) zXo
def z6M:zO:=[(308,zx6),(310,zAz),(321,zGQ),(307,zGT)]++z6L
theorem zkj:zG z6M:=zh zIb (zh zK6 (zh zRr (zh zRu zty)))
theorem z5E {α:Type}{l:List α}{i:Int}{d:α}(h:hasB i (ln l)=true):up l i (ix l i d)=l:=by
 obtain ⟨k,rfl,hk⟩:=zdH (n:=l.length) h;unfold up;rw[zbg hk,kV];exact uX hk
theorem ztB {b:Bare}{g:Int}(h:hasB g (ln b.Guests)=true):gAt b g=ix b.Guests g zi:=by
 unfold gAt;rw[h];rfl
theorem z3c {b:Bare}{g:Int}(h:hasB g (ln b.Guests)=true):zdB b g (gAt b g)=b:=by
 unfold zdB;rw[ztB h,z5E h]
def chg (b:Bare)(g:Int)(c:Bool)(x:Guest):Bare:=bif (cond (zb1 b g) c false) then zdB b g x else b
def zbU (b:Bare)(g:Int)(c:Bool):Bool:=bif zb1 b g then c else false
def zsh (p:Int)(s:Slot):Bool:=bif hasB p 4 then zdC s 8 else false
def zzw (x:Guest)(p:Int)(s:Slot):Guest:={ x with Written:=zd5 x.Written p s }
def zdK (x:Guest)(p:Int):Guest:={ x with Live:=zd5 x.Live p (zbk x.Written p) }
def zkD:GExit:=⟨0,0,false,0⟩
def zrN (x:Guest)(v:Int):Bool:=bif win v 0 99 then (cond (ieq x.Exit.Kind 2) true (ieq x.Exit.Kind 3)) else false
def zwc (x:Guest)(v:Int):Guest:=zbH (stopped (cond (ieq x.Exit.Kind 2) { x with A:=v } x) zkD)
def zwv (x:Guest):Bool:=bif ieq x.Exit.Kind 1 then true else ieq x.Exit.Kind 4
def zww (x:Guest):Guest:=bif ieq x.Exit.Kind 1 then stopped x zkD else held (stopped x zkD)
def znb (x:Guest)(n:Int):Guest:={ x with Pending:=zsJ x.Pending n }
def zHj (x:Guest)(c:Ctl):Guest:={ x with Ctl:=c }
theorem z8p {x:Guest}{n:Int}(h:zgb x.Pending n=false):znb x n=x:=by
 unfold znb zsJ;rw[h];rfl
theorem z5s {x:Guest}(p:Int)(s:Slot)(h:SmG x):SmG (zzw x p s):=⟨h.1,by simpa [zzw] using h.2.1,h.2.2.1,h.2.2.2⟩
theorem zMy {x:Guest}(p:Int)(h:SmG x):SmG (zdK x p):=⟨h.1,h.2.1,by simpa [zdK] using h.2.2.1,h.2.2.2⟩
theorem z5q {x:Guest}(v:Int)(h:SmG x):SmG (zwc x v):=by
 unfold zwc;cases ieq x.Exit.Kind 2<;>exact zkY h
theorem z5r {x:Guest}(h:SmG x):SmG (zww x):=by
 unfold zww;cases ieq x.Exit.Kind 1
 .exact zVV (g:=stopped x zkD) h
 .exact h
theorem zp6 {b:Bare}{g:Int}{c:Bool}{x:Guest}(h:SmB b)(hx:SmG x):SmB (chg b g c x):=by
 unfold chg;cases (cond (zb1 b g) c false)
 .exact h
 .exact znt h hx
@[simp] abbrev zqE (b:Bare)(g p:Int)(s:Slot):Bool:=pc (SmB b)
@[simp] abbrev zh7 (b:Bare)(g p:Int)(s:Slot):Bare:=chg b g (zsh p s) (zzw (gAt b g) p s)
@[simp] abbrev zjV (b:Bare)(g p:Int)(s:Slot):Bool:=zbU b g (zsh p s)
def zr4:Run:=rF4 (dT .bare) dI dI (dT .slot) fun b c d e=>(zqE b c d e,[aT .bare (zh7 b c d e),aB (zjV b c d e)])
def zFN (N:Nat)(a0:Bare)(a1 a2:Int)(a3:Slot):OA:=
 let y0:=(zcf a0);let y1:=(ix y0.Guests a1 zi); (oN (zeT a0) (oN (ziS y0 a1) (cond (nB (zj0 y0 a1)) (some [(aT .bare y0),(aB false)]) (oN (zJ a2 0 3) (cond (nB (zL a2 0 3)) (some [(aT .bare y0),(aB false)]) (oN (zsS a3 8) (cond (nB (zp0 a3 8)) (some [(aT .bare y0),(aB false)]) (oN (inb a1 (ln y0.Guests)) (oN (zo8 y1.Written a2 a3) (oN (inb a1 (ln y0.Guests)) (share (up y0.Guests a1 ({ y1 with Written:=(zlP y1.Written a2 a3) }:Guest)) (fun x5=>(some [(aT .bare ({ y0 with Guests:=x5 }:Bare)),(aB true)])))))))))))))
theorem zRQ (a0:Bare)(a1 a2:Int)(a3:Slot)(hc:zqE a0 a1 a2 a3=true):∃N,zFN N a0 a1 a2 a3=some [aT .bare (zh7 a0 a1 a2 a3),aB (zjV a0 a1 a2 a3)]:=by
 have hs:=zF.1 hc;have hx:=ziJ a1 hs;have hz:zb1 a0 a1=true->hasB a1 (ln a0.Guests)=true:=fun h=>(zdD.1 h).2;have hz2:zb1 a0 a1=true->gAt a0 a1=ix a0.Guests a1 zi:=fun h=>ztB (zdD.1 h).2;have hw:=hx.2.1
 refine ⟨0,?_⟩;unfold zFN oN nB
 conv=>zeta
 refine mu (mu (brN (fun _=>?_) (fun _=>must rfl (brN (fun _=>?_) (fun _=>must rfl (brN (fun _=>?_) (fun _=>mu (mu (mu (shr ?_))))))))))
 all_goals first|rfl|(simp only [*,zh7,zjV,chg,zbU,zsh,zzw,zdB,cT,cF]<;>rfl)|simp_all[Ty.cells,zh7,zjV,chg,zbU,zsh,zzw,zdB]
theorem zu8:vJ 258 zr4:=kF4 zkj zk zl zo (zq []) zRQ
@[simp] abbrev zsa (b:Bare)(g p:Int):Bool:=pc (SmB b)
@[simp] abbrev zeC (b:Bare)(g p:Int):Bare:=chg b g (hasB p 4) (zdK (gAt b g) p)
@[simp] abbrev zhx (b:Bare)(g p:Int):Bool:=zbU b g (hasB p 4)
def zoE:Run:=rF3 (dT .bare) dI dI fun b c d=>(zsa b c d,[aT .bare (zeC b c d),aB (zhx b c d)])
def zzT (N:Nat)(a0:Bare)(a1 a2:Int):OA:=
 let y1:=(zcf a0);let y2:=(inb a1 (ln y1.Guests));let y0:=(ix y1.Guests a1 zi); (oN (zeT a0) (oN (ziS y1 a1) (cond (nB (zj0 y1 a1)) (some [(aT .bare y1),(aB false)]) (oN (zJ a2 0 3) (cond (nB (zL a2 0 3)) (some [(aT .bare y1),(aB false)]) (oN y2 (oN y2 (oN (zjh y0.Written a2) (oN (zo8 y0.Live a2 (zhk y0.Written a2)) (oN y2 (share (up y1.Guests a1 ({ y0 with Live:=(zlP y0.Live a2 (zhk y0.Written a2)) }:Guest)) (fun x4=>(some [(aT .bare ({ y1 with Guests:=x4 }:Bare)),(aB true)])))))))))))))
theorem zLK (a0:Bare)(a1 a2:Int)(hc:zsa a0 a1 a2=true):∃N,zzT N a0 a1 a2=some [aT .bare (zeC a0 a1 a2),aB (zhx a0 a1 a2)]:=by
 have hs:=zF.1 hc;have hx:=ziJ a1 hs;have hz:zb1 a0 a1=true->hasB a1 (ln a0.Guests)=true:=fun h=>(zdD.1 h).2;have hz2:zb1 a0 a1=true->gAt a0 a1=ix a0.Guests a1 zi:=fun h=>ztB (zdD.1 h).2;have hw:=hx.2.2.1
 refine ⟨0,?_⟩;unfold zzT oN nB
 conv=>zeta
 refine mu (mu (brN (fun _=>?_) (fun _=>must rfl (brN (fun _=>?_) (fun _=>mu (mu (must rfl (mu (mu (shr ?_))))))))))
 all_goals first|rfl|(simp only [*,zeC,zhx,chg,zbU,zdK,zdB,cT,cF]<;>rfl)|simp_all[Ty.cells,zeC,zhx,chg,zbU,zdK,zdB]
theorem zsm:vJ 261 zoE:=kF3 zkj zk zl zo (zq []) zLK
@[simp] abbrev zlz (b:Bare)(g v:Int):Bool:=pc (SmB b)
@[simp] abbrev zfG (b:Bare)(g v:Int):Bare:=chg b g (zrN (gAt b g) v) (zwc (gAt b g) v)
@[simp] abbrev zg1 (b:Bare)(g v:Int):Bool:=zbU b g (zrN (gAt b g) v)
def zng:Run:=rF3 (dT .bare) dI dI fun b c d=>(zlz b c d,[aT .bare (zfG b c d),aB (zg1 b c d)])
def zw0 (N:Nat)(a0:Bare)(a1 a2:Int):OA:=
 let y2:=(zcf a0);let y4:=(inb a1 (ln y2.Guests));let y1:=(⟨0,0,false,0⟩:GExit);let y0:=(ix y2.Guests a1 zi);let y3:=({ y0 with A:=a2 }:Guest); (oN (zeT a0) (oN (ziS y2 a1) (cond (nB (zj0 y2 a1)) (some [(aT .bare y2),(aB false)]) (oN (zJ a2 0 99) (cond (nB (zL a2 0 99)) (some [(aT .bare y2),(aB false)]) (oN y4 (cond (ieq y0.Exit.Kind 2) (oN (zd6 y3 y1) (oN (zd2 (zdG y3 y1)) (oN y4 (share (up y2.Guests a1 (zgk (zdG y3 y1))) (fun x4=>(some [(aT .bare ({ y2 with Guests:=x4 }:Bare)),(aB true)])))))) (cond (ieq y0.Exit.Kind 3) (oN (zd6 y0 y1) (oN (zd2 (zdG y0 y1)) (oN y4 (share (up y2.Guests a1 (zgk (zdG y0 y1))) (fun x4=>(some [(aT .bare ({ y2 with Guests:=x4 }:Bare)),(aB true)])))))) (some [(aT .bare y2),(aB false)])))))))))
theorem zIs (a0:Bare)(a1 a2:Int)(hc:zlz a0 a1 a2=true):∃N,zw0 N a0 a1 a2=some [aT .bare (zfG a0 a1 a2),aB (zg1 a0 a1 a2)]:=by
 have hs:=zF.1 hc;have hx:=ziJ a1 hs;have hz:zb1 a0 a1=true->hasB a1 (ln a0.Guests)=true:=fun h=>(zdD.1 h).2;have hz2:zb1 a0 a1=true->gAt a0 a1=ix a0.Guests a1 zi:=fun h=>ztB (zdD.1 h).2;have ho:_/\_/\_/\_:=hx
 refine ⟨0,?_⟩;unfold zw0 oN nB
 conv=>zeta
 refine mu (mu (brN (fun _=>?_) (fun _=>must rfl (brN (fun _=>?_) (fun _=>mu (br (fun _=>mu (mu (mu (shr ?_)))) (fun _=>br (fun _=>mu (mu (mu (shr ?_)))) (fun _=>?_))))))))
 all_goals first|rfl|(simp only [*,zfG,zg1,chg,zbU,zrN,zwc,zkD,zdB,SmG,stopped,cT,cF]<;>rfl)|simp_all[Ty.cells,zfG,zg1,chg,zbU,zrN,zwc,zkD,zdB,SmG,stopped]
theorem zrg:vJ 263 zng:=kF3 zkj zk zl zo (zq []) zIs
@[simp] abbrev zlB (b:Bare)(g:Int):Bool:=pc (SmB b)
@[simp] abbrev zfI (b:Bare)(g:Int):Bare:=chg b g (zwv (gAt b g)) (zww (gAt b g))
@[simp] abbrev zg3 (b:Bare)(g:Int):Bool:=zbU b g (zwv (gAt b g))
def zni:Run:=rF2 (dT .bare) dI fun b c=>(zlB b c,[aT .bare (zfI b c),aB (zg3 b c)])
def zw2 (N:Nat)(a0:Bare)(a1:Int):OA:=
 let y2:=(zcf a0);let y3:=(inb a1 (ln y2.Guests));let y1:=(⟨0,0,false,0⟩:GExit);let y0:=(ix y2.Guests a1 zi); (oN (zeT a0) (oN (ziS y2 a1) (cond (nB (zj0 y2 a1)) (some [(aT .bare y2),(aB false)]) (oN y3 (cond (ieq y0.Exit.Kind 1) (oN (zd6 y0 y1) (oN y3 (share (up y2.Guests a1 (zdG y0 y1)) (fun x3=>(some [(aT .bare ({ y2 with Guests:=x3 }:Bare)),(aB true)]))))) (cond (ieq y0.Exit.Kind 4) (oN (zd6 y0 y1) (oN (znk (zdG y0 y1)) (oN y3 (share (up y2.Guests a1 (zyc (zdG y0 y1))) (fun x3=>(some [(aT .bare ({ y2 with Guests:=x3 }:Bare)),(aB true)])))))) (some [(aT .bare y2),(aB false)])))))))
theorem zIu (a0:Bare)(a1:Int)(hc:zlB a0 a1=true):∃N,zw2 N a0 a1=some [aT .bare (zfI a0 a1),aB (zg3 a0 a1)]:=by
 have hs:=zF.1 hc;have hx:=ziJ a1 hs;have hz:zb1 a0 a1=true->hasB a1 (ln a0.Guests)=true:=fun h=>(zdD.1 h).2;have hz2:zb1 a0 a1=true->gAt a0 a1=ix a0.Guests a1 zi:=fun h=>ztB (zdD.1 h).2;have ho:_/\_/\_/\_:=hx
 refine ⟨0,?_⟩;unfold zw2 oN nB
 conv=>zeta
 refine mu (mu (brN (fun _=>?_) (fun _=>mu (br (fun _=>mu (mu (shr ?_))) (fun _=>br (fun _=>mu (mu (mu (shr ?_)))) (fun _=>?_))))))
 all_goals first|rfl|(simp only [*,zfI,zg3,chg,zbU,zwv,zww,zkD,zdB,SmG,stopped,cT,cF]<;>rfl)|simp_all[Ty.cells,zfI,zg3,chg,zbU,zwv,zww,zkD,zdB,SmG,stopped]
theorem zri:vJ 264 zni:=kF2 zkj zk zl zo (zq []) zIu
theorem z9c {b:Bare}{g:Int}{c:Bool}{x:Guest}(h:zb1 b g=false):chg b g c x=b:=by
 unfold chg;rw[h];rfl
theorem z7D {b:Bare}{g n:Int}(h:zb1 b g=true):chg b g (zgb (gAt b g).Pending n) (znb (gAt b g) n)=zdB b g (znb (gAt b g) n):=by
 unfold chg;rw[h];cases hp:zgb (gAt b g).Pending n
 .rw [z8p hp,z3c (zdD.1 h).2];rfl
 .rfl
@[simp] abbrev zlA (b:Bare)(g n:Int):Bool:=pc (SmB b)
@[simp] abbrev zfH (b:Bare)(g n:Int):Bare:=chg b g (zgb (gAt b g).Pending n) (znb (gAt b g) n)
@[simp] abbrev zg2 (b:Bare)(g n:Int):Bool:=zbU b g (zgb (gAt b g).Pending n)
def znh:Run:=rF3 (dT .bare) dI dI fun b c d=>(zlA b c d,[aT .bare (zfH b c d),aB (zg2 b c d)])
def zw1 (N:Nat)(a0:Bare)(a1 a2:Int):OA:=
 let y1:=(zcf a0);let y0:=(ix y1.Guests a1 zi); (oN (zeT a0) (oN (ziS y1 a1) (cond (nB (zj0 y1 a1)) (some [(aT .bare y1),(aB false)]) (oN (inb a1 (ln y1.Guests)) (oN (zjW y0.Pending a2) (oN (inb a1 (ln y1.Guests)) (share (up y1.Guests a1 ({ y0 with Pending:=(zgM y0.Pending a2) }:Guest)) (fun x4=>(some [(aT .bare ({ y1 with Guests:=x4 }:Bare)),(aB (zmC y0.Pending a2))])))))))))
theorem zIt (a0:Bare)(a1 a2:Int)(hc:zlA a0 a1 a2=true):∃N,zw1 N a0 a1 a2=some [aT .bare (zfH a0 a1 a2),aB (zg2 a0 a1 a2)]:=by
 have hs:=zF.1 hc;have hz:zb1 a0 a1=true->hasB a1 (ln a0.Guests)=true:=fun h=>(zdD.1 h).2;have hz2:zb1 a0 a1=true->gAt a0 a1=ix a0.Guests a1 zi:=fun h=>ztB (zdD.1 h).2;have hj:=@z7D a0 a1 a2;have hj0:=@z9c a0 a1 (zgb (gAt a0 a1).Pending a2) (znb (gAt a0 a1) a2)
 refine ⟨0,?_⟩;unfold zw1 oN nB
 conv=>zeta
 refine mu (mu (brN (fun _=>?_) (fun _=>mu (must rfl (mu (shr ?_))))))
 all_goals first|rfl|(simp only [*,zfH,zg2,zbU,zdB,znb,cT,cF]<;>rfl)|simp_all[Ty.cells,zfH,zg2,zbU,zdB,znb]
theorem zrh:vJ 265 znh:=kF3 zkj zk zl zo (zq []) zIt
@[simp] abbrev zqD (b:Bare)(g:Int)(c:Ctl):Bool:=pc (SmB b)
@[simp] abbrev zh6 (b:Bare)(g:Int)(c:Ctl):Bare:=chg b g (zhm c) (zHj (gAt b g) c)
@[simp] abbrev zjU (b:Bare)(g:Int)(c:Ctl):Bool:=zbU b g (zhm c)
def zr3:Run:=rF3 (dT .bare) dI dC fun b c d=>(zqD b c d,[aT .bare (zh6 b c d),aB (zjU b c d)])
def zFM (N:Nat)(a0:Bare)(a1:Int)(a2:Ctl):OA:=
 let y0:=(zcf a0); (oN (zeT a0) (oN (ziS y0 a1) (cond (nB (zj0 y0 a1)) (some [(aT .bare y0),(aB false)]) (oN (zrt a2) (cond (nB (zpW a2)) (some [(aT .bare y0),(aB false)]) (oN (inb a1 (ln y0.Guests)) (share (up y0.Guests a1 ({ (ix y0.Guests a1 zi) with Ctl:=a2 }:Guest)) (fun x4=>(some [(aT .bare ({ y0 with Guests:=x4 }:Bare)),(aB true)])))))))))
theorem zRP (a0:Bare)(a1:Int)(a2:Ctl)(hc:zqD a0 a1 a2=true):∃N,zFM N a0 a1 a2=some [aT .bare (zh6 a0 a1 a2),aB (zjU a0 a1 a2)]:=by
 have hs:=zF.1 hc;have hz:zb1 a0 a1=true->hasB a1 (ln a0.Guests)=true:=fun h=>(zdD.1 h).2;have hz2:zb1 a0 a1=true->gAt a0 a1=ix a0.Guests a1 zi:=fun h=>ztB (zdD.1 h).2
 refine ⟨0,?_⟩;unfold zFM oN nB
 conv=>zeta
 refine mu (mu (brN (fun _=>?_) (fun _=>must rfl (brN (fun _=>?_) (fun _=>mu (shr ?_))))))
 all_goals first|rfl|(simp only [*,zh6,zjU,chg,zbU,zHj,zdB,cT,cF]<;>rfl)|simp_all[Ty.cells,zh6,zjU,chg,zbU,zHj,zdB]
theorem zu7:vJ 266 zr3:=kF3 zkj zk zl zo (zq []) zRP
def z7h (p c v:Int):Bool:=bif hasB p 8 then (cond (hasB c 4) (win v 0 99) false) else false
def zxx (b:Bare)(p c v:Int):Bool:=bif zbC b then z7h p c v else false
def zSP (b:Bare)(p c v:Int):Bare:=bif zxx b p c v then { b with Memory:=zbv b.Memory p c v } else b
def zlW (b:Bare):Bare:=bif zbC b then { b with Pending:=zgW b.Pending } else b
def zrM (b:Bare):Int:=bif zbC b then zml b.Pending else -1
def zk9 (b:Bare):Bool:=bif zbC b then !ilt (zde b.Pending) 0 else false
def zn5 (b:Bare)(g a n:Int):Bool:=bif zb1 b g then (cond (win a 0 15) (zdU (gAt b g).Live (zW a) n) false) else false
def zEe (b:Bare)(g a n:Int):Int:=zbY (gAt b g).Live (zW a) n
def zyy (b:Bare)(g a v:Int):Bool:=bif zn5 b g a 2 then win v 0 99 else false
def zZD (b:Bare)(g a v:Int):Bare:=bif zyy b g a v then { b with Memory:=zbv b.Memory (zEe b g a 2) (zcG a) v } else b
def zST (b:Bare)(g a:Int):Int:=bif zn5 b g a 1 then cellAt b.Memory (zEe b g a 1) (zcG a) else 0
@[simp] abbrev zqC (b:Bare):Bool:=pc (SmB b)
@[simp] abbrev zh5 (b:Bare):Bare:=zlW b
@[simp] abbrev zjS (b:Bare):Int:=zrM b
@[simp] abbrev zjT (b:Bare):Bool:=zk9 b
def zr2:Run:=rF1 (dT .bare) fun b=>(zqC b,[aT .bare (zh5 b),aI (zjS b),aB (zjT b)])
def zFL (N:Nat)(a0:Bare):OA:=
 let y0:=(zcf a0); (oN (zeT a0) (oN (zoN y0) (cond (nB (zeH y0)) (some [(aT .bare y0),(aI (-1)),(aB false)]) (oN (zqU y0.Pending) (some [(aT .bare ({ y0 with Pending:=(zjX y0.Pending) }:Bare)),(aI (zjY y0.Pending)),(aB (zmE y0.Pending))])))))
theorem zRO (a0:Bare)(hc:zqC a0=true):∃N,zFL N a0=some [aT .bare (zh5 a0),aI (zjS a0),aB (zjT a0)]:=by
 have hs:=zF.1 hc;refine ⟨0,?_⟩;unfold zFL oN nB
 conv=>zeta
 refine mu (must rfl (brN (fun _=>?_) (fun _=>must rfl ?_)))
 all_goals first|rfl|(simp only [*,zh5,zjS,zjT,zlW,zrM,zk9,zgW,zml,cT,cF]<;>rfl)|simp_all[Ty.cells,zh5,zjS,zjT,zlW,zrM,zk9,zgW,zml]
theorem zu6:vJ 270 zr2:=kF1 zkj zk zl zo (zq []) zRO
def z6N:zO:=z6M
theorem zTz:zG z6N:=zkj
def zd1 (l:List Guest)(n:Int):List Int:=idxs (fun (x:Guest)=>posts x.Ctl n) l 0
theorem zT1 {α:Type}(p:α->Bool):∀(l:List α) (i:Nat),∀k∈idxs p l i,(i:Int)<=k/\k<(i:Int)+l.length
 | [],_,k,hk=>by cases hk
 | x :: l,i,k,hk=>by
  have hr:=zT1 p l (i+1);simp only[qW];unfold idxs at hk;cases hp:p x
  .rw [hp]at hk;have:=hr k hk;omega
  .rw [hp]at hk;rcases qI.1 hk with rfl|hk
   .omega
   .have:=hr k hk;omega
@[simp] abbrev zus (b:Bare)(n:Int):Bool:=pc (SmB b)
@[simp] abbrev zlN (b:Bare)(n:Int):List Int:=zd1 b.Guests n
def zxZ:Run:=rF2 (dT .bare) dI fun b c=>(zus b c,[aS .int (zlN b c)])
def zBD (N:Nat)(a0:Bare)(a1:Int):OA:=
 (iter (σ:=(Int×(Int×(Int×((List Int)×(lM×(lG×((List Int)×Unit)))))))) N (fun r3 s4=>let y0:=s4.2.2.2.2.2.1;let y1:=(ix y0 s4.2.1 zi).Ctl; (cond (ilt s4.2.1 (ln y0)) (oN (inb s4.2.1 (ln y0)) (oN (zDP y1 s4.1) (cond (zye y1 s4.1) (oN (few (ln (ap s4.2.2.2.1 [s4.2.1]))) (r3 (s4.1,((zI .i64 s4.2.1 1),(s4.2.2.1,((ap s4.2.2.2.1 [s4.2.1]),(s4.2.2.2.2.1,(y0,(s4.2.2.2.2.2.2.1,()))))))))) (r3 (s4.1,((zI .i64 s4.2.1 1),(s4.2.2.1,(s4.2.2.2.1,(s4.2.2.2.2.1,(y0,(s4.2.2.2.2.2.2.1,()))))))))))) (some [(aS .int s4.2.2.2.1)]))) (a1,(0,(a0.Pending,([],(a0.Memory,(a0.Guests,(a0.Outs,()))))))))
def zPv:FuncId->Nat->Option Tmpl:=zq [(313,0,{ n:=28,tm:=[(1,ti),(2,.lp 0 0),(5,.sl 0 []),(6,ti)],lo:=[(0,[.sl 1 [],.sl 2 [],.sl 3 [],ti])],ro:=[(0,.int,true),(1,(.sl .int),false),(2,.guest,false),(3,.int,false)] })]
theorem zON (a0:Bare)(a1:Int)(hc:zus a0 a1=true):∃N,zBD N a0 a1=some [aS .int (zlN a0 a1)]:=by
 have hs:=zF.1 hc;have hl:=zcJ hs.2.1.1;refine zce fun N hNN=>?_;unfold zBD oN
 conv=>zeta
 refine (zbd a0.Guests (fun i (t:(List Int))=>(a1,(i:Int),a0.Pending,t,a0.Memory,a0.Guests,a0.Outs,())) _ (fun i (x:Guest) (t:List Int) κ=>bif posts x.Ctl a1 then (cond (few (ln (ap t [(i:Int)]))) (κ (ap t [(i:Int)])) none) else κ t) (fun (t:(List Int))=>(some [(.one (.s .int t))])) (fun i hi t rec=>?_) (fun t rec=>?_) _ ([]) (hNN hl.1)).trans ?_
 .simp only [zbx hi,zbb hi,zbg hi,zZ hi hl.1,cT]
 .simp only [zbp,cF]
 exact ztD (fun (x:Guest)=>posts x.Ctl a1) _ a0.Guests 0 [] (by simpa using hl.2)
theorem zH4:vJ 313 zxZ:=kF2 zTz zk zl zo zPv zON
def z6O:zO:=[(313,zxZ)]++z6N
theorem zTA:zG z6O:=zh zH4 zTz
def zEu (n:Int)(l:List Guest)(k:Int):List Guest:=up l k (znb (ix l k zi) n)
def zlx (n:Int)(ks:List Int)(l:List Guest):List Guest:=ks.foldl (zEu n) l
theorem zCI (n:Int)(l:List Guest)(k:Int):(zEu n l k).length=l.length:=zgv _ _ _
theorem z0Q {n:Int}{l:List Guest}{k:Int}(hk:hasB k (ln l)=true)(h:zmY l):zmY (zEu n l k):=zEC h (zVW h hk _)
theorem zDW {n:Int}:∀(ks:List Int) {l:List Guest},(∀k∈ks,hasB k (ln l)=true)->zmY l->zmY (zlx n ks l)/\(zlx n ks l).length=l.length
 | [],_,_,h=>⟨h,rfl⟩
 | k :: ks,l,hk,h=>by
  have h1:=z0Q (n:=n) (hk k (by simp)) h
  obtain ⟨g1,g2⟩:=zDW (n:=n) ks (l:=zEu n l k) (fun j hj=>by rw[ln,zCI];exact hk j (by simp[hj])) h1
  exact ⟨g1,g2.trans (zCI _ _ _)⟩
theorem zTN {ρ:Type}(n:Int)(K:List Guest->Option ρ):∀(ks:List Int) (i:Nat) (l:List Guest),(∀k∈ks,hasB k (ln l)=true) ->
 goL (fun _ k (t:List Guest) κ=>bif inb k (ln t) then (cond (inb k (ln t)) (κ (up t k (znb (ix t k zi) n))) none) else none) K ks i l=K (zlx n ks l)
 | [],_,_,_=>rfl
 | k :: ks,i,l,h=>by
  have hk:inb k (ln l)=true:=h k (by simp)
  simp only[goL,hk,cT];exact zTN n K ks (i+1) (zEu n l k) (fun j hj=>by rw[ln,zCI];exact h j (by simp[hj]))
def zEv (b:Bare)(n:Int):Bare:=bif ieq (ln (zd1 b.Guests n)) 0 then { b with Pending:=zsJ b.Pending n } else { b with Guests:=zlx n (zd1 b.Guests n) b.Guests }
def zeM (b:Bare)(n:Int):Bool:=bif zbC b then hasB n 8 else false
def zjd (b:Bare)(n:Int):Bare:=bif zeM b n then zEv b n else b
theorem zMc {b:Bare}{n:Int}:∀k∈zd1 b.Guests n,hasB k (ln b.Guests)=true:=fun k hk=>by
 have:=zT1 _ _ _ k hk;exact qJ (by simp only[ln];omega)
theorem z0y {b:Bare}{n:Int}(h:ieq (ln (zd1 b.Guests n)) 0=true):zlx n (zd1 b.Guests n) b.Guests=b.Guests:=by
 have h1:((zd1 b.Guests n).length:Int)=0:=qE h;have:zd1 b.Guests n=[]:=List.length_eq_zero_iff.1 (by omega)
 rw[this];rfl
theorem z0x {b:Bare}{n:Int}:(cond (ieq (ln (zd1 b.Guests n)) 0) (some [AV.agg (Ty.cells .bare ⟨b.Memory,zlx n (zd1 b.Guests n) b.Guests,b.Outs,zsJ b.Pending n⟩),AV.one (.b true)]) (some [AV.agg (Ty.cells .bare ⟨b.Memory,zlx n (zd1 b.Guests n) b.Guests,b.Outs,b.Pending⟩),AV.one (.b true)]))=some [AV.agg (Ty.cells .bare (zEv b n)),AV.one (.b true)]:=by
 unfold zEv;cases h:ieq (ln (zd1 b.Guests n)) 0
 .rfl
 .simp only [cT,z0y h]
@[simp] abbrev zoO (b:Bare)(n:Int):Bool:=pc (SmB b)
@[simp] abbrev ziB (b:Bare)(n:Int):Bare:=zjd b n
@[simp] abbrev zkJ (b:Bare)(n:Int):Bool:=zeM b n
def zpP:Run:=rF2 (dT .bare) dI fun b c=>(zoO b c,[aT .bare (ziB b c),aB (zkJ b c)])
def zBv (N:Nat)(a0:Bare)(a1:Int):OA:=
 let y2:=(zcf a0); (oN (zeT a0) (oN (zoN y2) (cond (nB (zeH y2)) (some [(aT .bare y2),(aB false)]) (oN (zJ a1 0 7) (cond (nB (zL a1 0 7)) (some [(aT .bare y2),(aB false)]) (oN (zus y2 a1) (iter (σ:=(Int×(Int×(Int×(Int×((List Int)×(lM×(lG×((List Int)×(lM×(lG×((List Int)×Unit)))))))))))) N (fun r3 s4=>let y5:=s4.2.2.2.2.2.2.2.1;let y3:=s4.2.2.2.2.1;let y1:=s4.2.2.2.2.2.2.1;let y0:=(ix y3 s4.2.1 0);let y4:=(ix y1 y0 zi); (cond (ilt s4.2.1 (ln y3)) (oN (inb s4.2.1 (ln y3)) (oN (inb s4.2.1 (ln y3)) (oN (inb y0 (ln y1)) (oN (zjW y4.Pending s4.1) (oN (inb y0 (ln y1)) (r3 (s4.1,((zI .i64 s4.2.1 1),(s4.2.2.1,(s4.2.2.2.1,(y3,(s4.2.2.2.2.2.1,((up y1 y0 ({ y4 with Pending:=(zgM y4.Pending s4.1) }:Guest)),(y5,(s4.2.2.2.2.2.2.2.2.1,(s4.2.2.2.2.2.2.2.2.2.1,(s4.2.2.2.2.2.2.2.2.2.2.1,()))))))))))))))))) (cond (ieq (ln y3) 0) (oN (zjW s4.2.2.1 s4.1) (some [(aT .bare (⟨s4.2.2.2.2.2.1,y1,y5,(zgM s4.2.2.1 s4.1)⟩:Bare)),(aB true)])) (some [(aT .bare (⟨s4.2.2.2.2.2.1,y1,y5,s4.2.2.1⟩:Bare)),(aB true)])))) (a1,(0,(y2.Pending,(0,((zlN y2 a1),(y2.Memory,(y2.Guests,(y2.Outs,([],([],([],()))))))))))))))))))
def zPr:FuncId->Nat->Option Tmpl:=zq [(269,0,{ n:=62,tm:=[(1,ti),(2,.lp 0 0),(4,.lp 1 0),(6,.sl 0 []),(7,ti)],lo:=[(0,[.sl 1 [],.sl 2 [],.sl 3 [],ti]),(1,[.sl 4 [],.sl 5 [],.sl 6 [],ti])],ro:=[(0,.int,true),(1,(.sl .int),true),(2,.guest,true),(3,.int,true),(4,(.sl .int),true),(5,.guest,true),(6,.int,true)] })]
theorem zOE (a0:Bare)(a1:Int)(hc:zoO a0 a1=true):∃N,zBv N a0 a1=some [aT .bare (ziB a0 a1),aB (zkJ a0 a1)]:=by
 have hs:=zF.1 hc;have hk:(zd1 a0.Guests a1).length<=big:=jD (zy2 _ _ _) (zcJ hs.2.1.1).1;refine zce fun N hNN=>?_;unfold zBv ziB zkJ zjd zeM oN nB
 conv=>zeta
 refine must (zU hs) (must rfl (brN (fun h1=>?_) (fun h1=>must rfl (brN (fun h2=>?_) (fun h2=>must (zU hs) ?_)))))
 .simp only [show zbC a0=false from h1,cF]
 .simp only [show zbC a0=true from h1,show hasB a1 8=false from by first|exact h2|exact (z3u a1).symm.trans h2,cT,cF]
 simp only[show zbC a0=true from h1,show hasB a1 8=true from by first|exact h2|exact (z3u a1).symm.trans h2,cT]
 refine (zbd (zlN (zcf a0) a1) (fun i (t:lG)=>(a1,(i:Int),(zcf a0).Pending,0,(zlN (zcf a0) a1),(zcf a0).Memory,t,(zcf a0).Outs,[],[],[],())) _ (fun _ k (t:List Guest) κ=>bif inb k (ln t) then (cond (inb k (ln t)) (κ (up t k (znb (ix t k zi) a1))) none) else none) (fun (t:lG)=>(cond (ieq (ln (zlN (zcf a0) a1)) 0) (cond (zjW (zcf a0).Pending a1) (some [(.agg (Ty.cells .bare (⟨(zcf a0).Memory,t,(zcf a0).Outs,(zgM (zcf a0).Pending a1)⟩:Bare))),(.one (.b true))]) none) (some [(.agg (Ty.cells .bare (⟨(zcf a0).Memory,t,(zcf a0).Outs,(zcf a0).Pending⟩:Bare))),(.one (.b true))]))) (fun i hi t rec=>?_) (fun t rec=>?_) _ ((zcf a0).Guests) (hNN hk)).trans ?_
 .simp only [zbx hi,zbb hi,zbg hi,zZ hi hk,cT];rfl
 .simp only [zbp,cF];rfl
 exact (zTN a1 _ _ 0 _ zMc).trans z0x
theorem ztJ:vJ 269 zpP:=kF2 zTA zk zl zo zPr zOE
def z1d:zO:=[(258,zr4),(261,zoE),(263,zng),(264,zni),(265,znh),(266,zr3),(270,zr2),(269,zpP)]++z6O
theorem zBX:zG z1d:=zh zu8 (zh zsm (zh zrg (zh zri (zh zrh (zh zu7 (zh zu6 (zh ztJ zTA)))))))
theorem z3p {n:Int}(h:(ieq n 4||ieq n 8)=true):n=4\/n=8:=by
 rcases jU _ _ ▸ h with h|h
 .exact .inl (qE h)
 .exact .inr (qE h)
theorem z2v {n:Int}(h:(ieq n 8||ieq n 12)=true):n=8\/n=12:=by
 rcases jU _ _ ▸ h with h|h
 .exact .inl (qE h)
 .exact .inr (qE h)
@[simp] abbrev ziE (n:Int):Bool:=ieq n 4||ieq n 8
@[simp] abbrev zgE (n:Int):List Slot:=List.replicate n.toNat ⟨-1,0⟩
def zpS:Run:=rF1 dI fun b=>(ziE b,[aS .slot (zgE b)])
def zS7 (N:Nat)(a0:Int):OA:=
 (oN (zqF a0 0 24) (iter (σ:=(Int×(lS×Unit))) N (fun r2 s3=>(cond (igt s3.1 0) (oN zcq (oN (few (ln (ap s3.2.1 [zbs]))) (r2 ((wsub .i64 s3.1 1),((ap s3.2.1 [zbs]),()))))) (some [(aS .slot s3.2.1)]))) ((zrr a0 0 24),([],()))))
def zPw:FuncId->Nat->Option Tmpl:=zq [(243,0,{ n:=17,tm:=[(3,.sl 0 []),(4,ti)],lo:=[],ro:=[(0,.slot,true)] })]
theorem zOR (a0:Int)(hc:ziE a0=true):∃N,zS7 N a0=some [aS .slot (zgE a0)]:=by
 refine ⟨30,?_⟩;have h:a0=4\/a0=8:=z3p hc;rcases h with rfl|rfl<;>(change _=_;kernel_rfl)
theorem ztL:vJ 243 zpS:=kF1 zBX zk zl zo zPw zOR
@[simp] abbrev zo2 (n:Int):Bool:=ieq n 8||ieq n 12
@[simp] abbrev zjf (n:Int):List (List Int):=List.replicate n.toNat [0,0,0,0]
def zuf:Run:=rF1 dI fun b=>(zo2 b,[aS (.sl .int) (zjf b)])
def zY8 (N:Nat)(a0:Int):OA:=
 (oN (zqF a0 0 24) (iter (σ:=(Int×(lM×Unit))) N (fun r2 s3=>(cond (igt s3.1 0) (oN (cond (few 4) (ieq 4 4) false) (oN (few (ln (ap s3.2.1 [(rp 4 0)]))) (r2 ((wsub .i64 s3.1 1),((ap s3.2.1 [(rp 4 0)]),()))))) (some [(aS (.sl .int) s3.2.1)]))) ((zrr a0 0 24),([],()))))
def zWm:FuncId->Nat->Option Tmpl:=zq [(185,0,{ n:=17,tm:=[(3,.sl 0 []),(4,ti)],lo:=[],ro:=[(0,(.sl .int),true)] })]
theorem zUH (a0:Int)(hc:zo2 a0=true):∃N,zY8 N a0=some [aS (.sl .int) (zjf a0)]:=by
 refine ⟨30,?_⟩;have h:a0=8\/a0=12:=z2v hc;rcases h with rfl|rfl<;>(change _=_;kernel_rfl)
theorem zxk:vJ 185 zuf:=kF1 zBX zk zl zo zWm zUH
def z1e:zO:=[(243,zpS),(185,zuf)]++z1d
theorem zQd:zG z1e:=zh ztL (zh zxk zBX)
def zkX:List Slot:=List.replicate 4 ⟨-1,0⟩
def zeE (p:List Ins):Guest:=⟨p,0,0,zkX,zkX,⟨0,0,false⟩,0,⟨0,0,false,0⟩,false,[]⟩
@[simp] abbrev zoT (p:List Ins):Bool:=pc (p.length<=1048576)
@[simp] abbrev zoS (p:List Ins):Guest:=zeE p
def zpQ:Run:=rF1 (dS .ins) fun b=>(zoT b,[aT .guest (zoS b)])
def zBy (N:Nat)(a0:lI):OA:=
 (oN (few (ln (ap [] a0))) (oN (ziE 4) (oN (ziE 4) (some [(aT .guest (⟨(ap [] a0),0,0,(zgE 4),(zgE 4),⟨0,0,false⟩,0,⟨0,0,false,0⟩,false,[]⟩:Guest))]))))
theorem zOI (a0:List Ins)(hc:zoT a0=true):∃N,zBy N a0=some [aT .guest (zoS a0)]:=by
 have hs:=zF.1 hc;refine ⟨0,?_⟩;unfold zBy oN;refine mu (must rfl (must rfl ?_))
 first|rfl|(simp only [*,zoS,zeE,zkX,cT,cF]<;>rfl)|simp_all[Ty.cells,zoS,zeE,zkX]
theorem ztK:vJ 244 zpQ:=kF1 zQd zk zl zo (zq []) zOI
def z9o:zO:=[(244,zpQ)]++z1e
theorem zBY:zG z9o:=zh ztK zQd
def zO8:List (List Int):=List.replicate 8 [0,0,0,0]
def z81 (ps:List (List Ins)):Prop:=ps.length<=1048576/\∀p∈ps,p.length<=1048576
theorem zQB {α β ρ:Type}(m:Nat)(f:α->β)(K:List β->Option ρ):∀(l:List α) (i:Nat) (acc:List β),acc.length+l.length<=2147483648 ->
 goL (fun (i:Nat) x acc k=>bif ilt (i:Int) (m:Int) then (cond (few (ln (ap acc [f x]))) (k (ap acc [f x])) none) else K acc) K l i acc=K (acc++(l.take (m-i)).map f)
 | [],i,acc,_=>by simp[goL]
 | x :: l,i,acc,hn=>by
  simp only[qW]at hn;have hf:few (ln (ap acc [f x]))=true:=zgt (by simp[ap];omega)
  by_cases h:i<m
  .have hi:ilt (i:Int) (m:Int)=true:=qJ (by omega)
   simp only[goL,hi,hf,cT];rw[zQB m f K l (i+1) (ap acc [f x]) (by simp[ap];omega)]
   rw[show m-i=m-(i+1)+1 by omega]
   simp[ap]
  .have hi:ilt (i:Int) (m:Int)=false:=qG (by omega)
   simp only[goL,hi,cF];rw[show m-i=0 by omega]
   simp
@[simp] abbrev zDF (a:GAct):Bool:=true
@[simp] abbrev zx9 (a:GAct):Bool:=win a.Kind 1 17
def zGH:Run:=rF1 (dT .act) fun b=>(zDF b,[aB (zx9 b)])
def zPR (N:Nat)(a0:GAct):OA:=
 (oN (zJ a0.Kind 1 17) (some [(aB (zL a0.Kind 1 17))]))
theorem zXb (a0:GAct)(hc:zDF a0=true):∃N,zPR N a0=some [aB (zx9 a0)]:=by
 refine ⟨0,?_⟩;unfold zPR oN;refine must rfl ?_
 first|rfl|(simp only [*,zx9,cT,cF]<;>rfl)|simp_all[Ty.cells,zx9]
theorem zRi:vJ 187 zGH:=kF1 zBY zk zl zo (zq []) zXb
@[simp] abbrev zwF (k:Int):Bool:=true
@[simp] abbrev zru (k:Int):Bool:=win k 13 17
def zAt:Run:=rF1 dI fun b=>(zwF b,[aB (zru b)])
def zFX (N:Nat)(a0:Int):OA:=
 (oN (zJ a0 13 17) (some [(aB (zL a0 13 17))]))
theorem zR0 (a0:Int)(hc:zwF a0=true):∃N,zFX N a0=some [aB (zru a0)]:=by
 refine ⟨0,?_⟩;unfold zFX oN;refine must rfl ?_
 first|rfl|(simp only [*,zru,cT,cF]<;>rfl)|simp_all[Ty.cells,zru]
theorem zKZ:vJ 188 zAt:=kF1 zBY zk zl zo (zq []) zR0
@[simp] abbrev zDG (a:GAct):Bool:=true
@[simp] abbrev zpV (a:GAct):Ctl:=⟨a.X,a.Y,ieq a.Z 1⟩
def zGI:Run:=rF1 (dT .act) fun b=>(zDG b,[.agg (zBW (zpV b))])
def zPS (N:Nat)(a0:GAct):OA:=
 (some [(.agg [(.i .i64 a0.X),(.i .i64 a0.Y),(.b (ieq a0.Z 1))])])
theorem zXc (a0:GAct)(hc:zDG a0=true):∃N,zPS N a0=some [.agg (zBW (zpV a0))]:=by
 refine ⟨0,?_⟩;unfold zPS
 first|rfl|(simp only [*,zpV,cT,cF]<;>rfl)|simp_all[Ty.cells,zpV]
theorem zRj:vJ 197 zGI:=kF1 zBY zk zl zo (zq []) zXc
def zTu:zO:=[(258,zr4),(261,zoE),(263,zng),(264,zni),(265,znh),(266,zr3),(270,zr2),(269,zpP),(185,zuf)]++z6K
theorem zB0:zG zTu:=zh zu8 (zh zsm (zh zrg (zh zri (zh zrh (zh zu7 (zh zu6 (zh ztJ (zh zxk z4i))))))))
def zcK (x:Mon):Bare:=⟨zO8,x.Guests,x.Outs,x.Pending⟩
def zuU (x:Mon)(b:Bare):Mon:={ x with Guests:=b.Guests,Pending:=b.Pending }
def zcZ (h:Host)(m:Int)(b:Bare):Host:={ h with Mons:=up h.Mons m (zuU (ix h.Mons m mZ) b) }
@[simp] abbrev zey (x:Mon):Bool:=pc (zfr x)
@[simp] abbrev zbA (x:Mon):Bare:=zcK x
def zAJ:Run:=rF1 (dT .mon) fun b=>(zey b,[aT .bare (zbA b)])
def zGc (N:Nat)(a0:Mon):OA:=
 (oN (zo2 8) (oN (zfq a0.Guests) (oN (few (ln (ap [] a0.Outs))) (some [(aT .bare (⟨(zjf 8),(zfV a0.Guests),(ap [] a0.Outs),a0.Pending⟩:Bare))]))))
theorem zSo (a0:Mon)(hc:zey a0=true):∃N,zGc N a0=some [aT .bare (zbA a0)]:=by
 have hs:=zF.1 hc;refine ⟨0,?_⟩;unfold zGc oN;exact must rfl (must (zU ((zuX _).2 hs.2.2.2.1)) (must (zny hs.2.2.2.2.1) rfl))
theorem zLo:vJ 259 zAJ:=kF1 zB0 zk zbT zgm (zq []) zSo
@[simp] abbrev zex (h:Host)(m:Int)(b:Bare):Bool:=pc (hasB m (ln h.Mons)=true/\zmY b.Guests)
@[simp] abbrev zgQ (h:Host)(m:Int)(b:Bare):Host:=zcZ h m b
theorem z9X {l:List Mon}{m:Int}(hm:hasB m (ln l)=true)(b:Bare):inb m (ln (up l m { ix l m mZ with Guests:=b.Guests }))=true /\
 up (up l m { ix l m mZ with Guests:=b.Guests }) m { ix (up l m { ix l m mZ with Guests:=b.Guests }) m mZ with Pending:=b.Pending }=up l m (zuU (ix l m mZ) b):=by
 obtain ⟨k,rfl,hk⟩:=zdH (n:=l.length) hm;refine ⟨zx (by rw[ln,zgv];exact hm),?_⟩
 rw[zv8,zdN hk];rfl
def zr9:List AV->Option (Bool×List AV)
 | [.agg [.s (.sl .int) b,.s .mon c,.s .entry d,.s .entry e],.one (.i .i64 f),.agg [.s (.sl .int) g,.s .guest h,.s .int j,.i .i64 k]]=>some ((zex (⟨b,c,d,e⟩:Host) f (⟨g,h,j,k⟩:Bare)),[aH (zgQ (⟨b,c,d,e⟩:Host) f (⟨g,h,j,k⟩:Bare))])
 | _=>none
def zwb (N:Nat)(a0:Host)(a1:Int)(a2:Bare):OA:=
 (oN (zfq a2.Guests) (oN (inb a1 (ln a0.Mons)) (share (up a0.Mons a1 ({ (ix a0.Mons a1 zf) with Guests:=(zfV a2.Guests) }:Mon)) (fun x4=>(oN (inb a1 (ln x4)) (share (up x4 a1 ({ (ix x4 a1 zf) with Pending:=a2.Pending }:Mon)) (fun x5=>(some [(aH ({ a0 with Mons:=x5 }:Host))]))))))))
theorem zVo (N:Nat)(a0:Host)(a1:Int)(a2:Bare):zZF (cQ zTu zow z0w z5D) (zq []) N 12 260 [true,true,true,true,false,false,false,false,false] [aH a0,aI a1,aT .bare a2]=zwb N a0 a1 a2:=by kernel_rfl
theorem zSn (a0:Host)(a1:Int)(a2:Bare)(hb:zbN big [aH a0,aI a1,aT .bare a2])(hc:zex a0 a1 a2=true):∃N,zwb N a0 a1 a2=some [aH (zgQ a0 a1 a2)]:=by
 obtain ⟨hm,hg⟩:=zF.1 hc;obtain ⟨h1,h2⟩:=z9X hm a2;refine ⟨0,?_⟩;unfold zwb oN;refine must (zU ((zuX _).2 hg)) (must (zx hm) (shr (must h1 (shr ?_))));have e:zfV a2.Guests=a2.Guests:=rfl;rw[e]
 show some [AV.agg (zbc { a0 with Mons:=_ })]=some [AV.agg (zbc { a0 with Mons:=_ })]
 rw[show zf=mZ from rfl,h2]
theorem zLn:zdY Tryz.prog 260 [true,true,true,true,false,false,false,false,false] none zr9:=by
 refine zNe (zc7 zB0 zk zbT zgm) (zem (by kernel_rfl)) (by kernel_rfl) ?_
 intro avs rs hl hr h;have hb:=zih hr;unfold zr9 at h;split at h
 .obtain ⟨hc,rfl⟩:=zdQ h;obtain ⟨N,hN⟩:=zSn _ _ _ (by exact hb) hc
  exact ⟨_,N,12,(zVo N _ _ _ ).trans hN⟩
 .cases h
def z1k:zO:=[(259,zAJ)]++zTu
theorem ziM:zG z1k:=zh zLo zB0
def zbar:zeX:=[(260,([true,true,true,true,false,false,false,false,false],none,zr9))]++z5D
theorem zcY:zdZ zbar:=zp9 zgm (by
 intro x hx;simp only[qI,qX,or_false]at hx;rcases hx with rfl
 .exact zLn)
def z7o (h:Host)(m:Int)(cB:Bool)(B:Bare)(o0 o1:Host->Ans):OA:=
 bif zbG h then (cond (zfe h m) (cond (cond (zfd h m) false true) (some (o0 h)) (cond (inb m (ln h.Mons)) (cond (zey (ix h.Mons m mZ)) (cond cB (cond (zex h m B) (some (o1 (zcZ h m B))) none) none) none) none)) none) else none
theorem zcp {h:Host}{m:Int}:(zcw h m=true)↔zbQ h=true/\hasB m (ln h.Mons)=true:=by
 unfold zcw;cases zbQ h<;>simp
theorem znw {h:Host}{m:Int}{cB:Bool}{B:Bare}{o0 o1:Host->Ans}(hs:SmH h)(hc:zcw h m=true->cB=true)(hB:zcw h m=true->SmB B):z7o h m cB B o0 o1=some (cond (zcw h m) (o1 (zcZ h m B)) (o0 h)):=by
 unfold z7o;refine must (zU ((zK h).2 hs)) (must rfl ?_);rw[show zfd h m=zcw h m from rfl]
 cases h0:zcw h m
 .rfl
 .have h2:=(zcp.1 h0).2;exact zcB rfl (must (zx h2) (must (zU (hs.2.1.2 _ (zbu h2 _))) (must (hc h0) (must (zU ⟨h2,(hB h0).2.1⟩) rfl))))
structure SameB (b c:Bare):Prop where
 g:b.Guests=c.Guests
 p:b.Pending=c.Pending
 o:zbC b=zbC c
theorem SameB.at {b c:Bare}(h:SameB b c)(g:Int):gAt b g=gAt c g:=by unfold gAt;rw[h.g]
theorem SameB.has {b c:Bare}(h:SameB b c)(g:Int):zb1 b g=zb1 c g:=by unfold zb1;rw[h.g,h.o]
theorem back_eq {h:Host}{m:Int}{b c:Bare}(hg:b.Guests=c.Guests)(hp:b.Pending=c.Pending):zcZ h m b=zcZ h m c:=by
 unfold zcZ zuU;rw[hg,hp]
theorem zpm {b c:Bare}(hS:SameB b c)(h:Host)(m g:Int)(k:Bool)(x:Guest):zcZ h m (chg b g k x)=zcZ h m (chg c g k x):=by
 unfold chg;rw[hS.has];cases (cond (zb1 c g) k false)
 .exact back_eq hS.g hS.p
 .exact back_eq (by simp only[cT,zdB,hS.g]) hS.p
theorem zlc {b c:Bare}(hS:SameB b c)(g:Int)(k:Bool):zbU b g k=zbU c g k:=by
 unfold zbU;rw[hS.has]
theorem ziU {h:Host}{m:Int}(h0:zcw h m=true)(hv:zbC (zcK (ix h.Mons m mZ))=true):SameB (zcK (ix h.Mons m mZ)) (zy h m):=by
 obtain ⟨h1,h2⟩:=zcp.1 h0;refine ⟨?_,?_,hv.trans (zwd h1 h2).symm⟩<;>unfold zy zcK<;>rw [h2]<;>rfl
theorem z8t:zho zO8 8=true:=by decide
theorem znS {h:Host}{m:Int}(h0:zcw h m=true):zbC (zcK (ix h.Mons m mZ))=true:=by
 obtain ⟨h1,h2⟩:=zcp.1 h0;have:=zwd h1 h2;unfold zy at this;rw[h2,cT] at this;unfold zbC at this ⊢;simp only[zcK,z8t] at *
 simp_all
theorem zeI {x:Mon}(h:zfr x):SmB (zcK x):=⟨show SmM zO8 from ⟨by decide,by decide⟩,h.2.2.2.1,h.2.2.2.2.1⟩
def zeB (h:Host)(m:Int)(b:Bare):Host:=bif zcw h m then zcZ h m b else h
def zdX (h:Host)(m:Int)(ok:Bool):Bool:=bif zcw h m then ok else false
@[simp] abbrev zjQ (b:Bare)(g p:Int)(s:Slot):Bare:=chg b g (zsh p s) (zzw (gAt b g) p s)
@[simp] abbrev zms (b:Bare)(g p:Int)(s:Slot):Bool:=zbU b g (zsh p s)
@[simp] abbrev zgY (b:Bare)(g v:Int):Bare:=chg b g (zrN (gAt b g) v) (zwc (gAt b g) v)
@[simp] abbrev ziu (b:Bare)(g v:Int):Bool:=zbU b g (zrN (gAt b g) v)
@[simp] abbrev zg0 (b:Bare)(g:Int):Bare:=chg b g (zwv (gAt b g)) (zww (gAt b g))
@[simp] abbrev ziw (b:Bare)(g:Int):Bool:=zbU b g (zwv (gAt b g))
@[simp] abbrev zgZ (b:Bare)(g n:Int):Bare:=chg b g (zgb (gAt b g).Pending n) (znb (gAt b g) n)
@[simp] abbrev ziv (b:Bare)(g n:Int):Bool:=zbU b g (zgb (gAt b g).Pending n)
@[simp] abbrev zjP (b:Bare)(g:Int)(c:Ctl):Bare:=chg b g (zhm c) (zHj (gAt b g) c)
@[simp] abbrev zmr (b:Bare)(g:Int)(c:Ctl):Bool:=zbU b g (zhm c)
@[simp] abbrev zmq (b:Bare):Bare:=zlW b
@[simp] abbrev zqs (b:Bare):Int:=zrM b
@[simp] abbrev zqu (b:Bare):Bool:=zk9 b
@[simp] abbrev zkC (b:Bare)(n:Int):Bare:=zjd b n
@[simp] abbrev zov (b:Bare)(n:Int):Bool:=zeM b n
@[simp] abbrev zXx (h:Host)(m:Int)(g p:Int)(s:Slot):Host:=zeB h m (zjQ (zy h m) g p s)
@[simp] abbrev zXy (h:Host)(m:Int)(g p:Int)(s:Slot):Bool:=zdX h m (zms (zy h m) g p s)
@[simp] abbrev zO1 (h:Host)(m:Int)(g v:Int):Host:=zeB h m (zgY (zy h m) g v)
@[simp] abbrev zO2 (h:Host)(m:Int)(g v:Int):Bool:=zdX h m (ziu (zy h m) g v)
@[simp] abbrev zO5 (h:Host)(m:Int)(g:Int):Host:=zeB h m (zg0 (zy h m) g)
@[simp] abbrev zO6 (h:Host)(m:Int)(g:Int):Bool:=zdX h m (ziw (zy h m) g)
@[simp] abbrev zO3 (h:Host)(m:Int)(g n:Int):Host:=zeB h m (zgZ (zy h m) g n)
@[simp] abbrev zO4 (h:Host)(m:Int)(g n:Int):Bool:=zdX h m (ziv (zy h m) g n)
@[simp] abbrev zXv (h:Host)(m:Int)(g:Int)(x:Ctl):Host:=zeB h m (zjP (zy h m) g x)
@[simp] abbrev zXw (h:Host)(m:Int)(g:Int)(x:Ctl):Bool:=zdX h m (zmr (zy h m) g x)
@[simp] abbrev zVa (h:Host)(m:Int)(n:Int):Host:=zeB h m (zkC (zy h m) n)
@[simp] abbrev zVb (h:Host)(m:Int)(n:Int):Bool:=zdX h m (zov (zy h m) n)
@[simp] abbrev zXs (h:Host)(m:Int):Host:=zeB h m (zmq (zy h m))
@[simp] abbrev zXt (h:Host)(m:Int):Int:=bif zcw h m then zqs (zy h m) else -1
@[simp] abbrev zXu (h:Host)(m:Int):Bool:=zdX h m (zqu (zy h m))
@[simp] abbrev zSq (h:Host)(m g p:Int):Bool:=zdX h m (zbU (zy h m) g (hasB p 4))
theorem z2O {b c:Bare}(hS:SameB b c)(n:Int):(zjd b n).Guests=(zjd c n).Guests/\(zjd b n).Pending=(zjd c n).Pending/\zeM b n=zeM c n:=by
 have e:zeM b n=zeM c n:=by unfold zeM;rw[hS.o]
 unfold zjd;rw[e];cases zeM c n
 .exact ⟨hS.g,hS.p,rfl⟩
 .unfold zEv;rw[hS.g];cases ieq (ln (zd1 c.Guests n)) 0
  .exact ⟨by simp only[cT,cF],by simp only[cT,cF,hS.p],rfl⟩
  .exact ⟨by simp only[cT,hS.g],by simp only[cT,hS.p],rfl⟩
theorem z3x {b c:Bare}(hS:SameB b c):(zlW b).Guests=(zlW c).Guests/\(zlW b).Pending=(zlW c).Pending/\zrM b=zrM c/\zk9 b=zk9 c:=by
 unfold zlW zrM zk9;rw[hS.o,hS.p];cases zbC c
 .exact ⟨hS.g,hS.p,rfl,rfl⟩
 .exact ⟨hS.g,rfl,rfl,rfl⟩
theorem z3i {b:Bare}{n:Int}(h:SmB b):SmB (zjd b n):=by
 unfold zjd;cases zeM b n
 .exact h
 .unfold zEv;cases ieq (ln (zd1 b.Guests n)) 0
  .exact ⟨h.1,(zDW _ zMc h.2.1).1,h.2.2⟩
  .exact h
theorem z5p {b:Bare}(h:SmB b):SmB (zlW b):=by
 unfold zlW;cases zbC b
 .exact h
 .exact h
theorem zs6 {H H':Host}{x y:Bool}(h1:H=H')(h2:x=y):some [AV.agg (zbc H),AV.one (.b x)]=some [AV.agg (zbc H'),AV.one (.b y)]:=by rw[h1,h2]
theorem z7G {H H':Host}{n k:Int}{x y:Bool}(h1:H=H')(h2:n=k)(h3:x=y):some [AV.agg (zbc H),AV.one (.i .i64 n),AV.one (.b x)]=some [AV.agg (zbc H'),AV.one (.i .i64 k),AV.one (.b y)]:=by rw[h1,h2,h3]
theorem zYO {b:Bare}(g p:Int)(s:Slot)(hb:SmB b):SmB (zjQ b g p s):=zp6 hb (z5s _ _ (ziJ _ hb))
theorem z5l {b c:Bare}(hS:SameB b c)(h:Host)(m:Int)(g p:Int)(s:Slot):zcZ h m (zjQ b g p s)=zcZ h m (zjQ c g p s)/\zms b g p s=zms c g p s:=by
 have e:=hS.at g;simp only[zjQ,zms,e];exact ⟨zpm hS _ _ _ _ _,zlc hS _ _⟩
@[simp] abbrev zwE (h:Host)(m:Int)(g p:Int)(s:Slot):Bool:=pc (zb2 h)
@[simp] abbrev zqP (h:Host)(m:Int)(g p:Int)(s:Slot):Host:=zeB h m (zjQ (zy h m) g p s)
@[simp] abbrev zqQ (h:Host)(m:Int)(g p:Int)(s:Slot):Bool:=zdX h m (zms (zy h m) g p s)
def zAs:Run:=rF5 dH dI dI dI (dT .slot) fun b c d e f=>(zwE b c d e f,[aH (zqP b c d e f),aB (zqQ b c d e f)])
def zFW (N:Nat)(a0:Host)(a1 a2 a3:Int)(a4:Slot):OA:=
 let y1:=(zu a0);let y0:=(ix y1.Mons a1 zf); (oN (zbG a0) (oN (zfe y1 a1) (cond (nB (zfd y1 a1)) (some [(aH y1),(aB false)]) (oN (inb a1 (ln y1.Mons)) (oN (zey y0) (oN (zqE (zbA y0) a2 a3 a4) (oN (zex y1 a1 (zh7 (zbA y0) a2 a3 a4)) (some [(aH (zgQ y1 a1 (zh7 (zbA y0) a2 a3 a4))),(aB (zjV (zbA y0) a2 a3 a4))]))))))))
theorem zRZ (a0:Host)(a1 a2 a3:Int)(a4:Slot)(hc:zwE a0 a1 a2 a3 a4=true):∃N,zFW N a0 a1 a2 a3 a4=some [aH (zqP a0 a1 a2 a3 a4),aB (zqQ a0 a1 a2 a3 a4)]:=by
 have hs:=(zK a0).1 (zF.1 hc);refine ⟨0,?_⟩;have key:=znw (h:=a0) (m:=a1) (cB:=zqE (zcK (ix a0.Mons a1 mZ)) a2 a3 a4) (B:=zh7 (zcK (ix a0.Mons a1 mZ)) a2 a3 a4) (o0:=fun H=>[.agg (zbc H),.one (.b false)]) (o1:=fun H=>[.agg (zbc H),.one (.b (zjV (zcK (ix a0.Mons a1 mZ)) a2 a3 a4))]) hs
  (fun h0=>zU (zeI (hs.2.1.2 _ (zbu (zcp.1 h0).2 _)))) (fun h0=>zYO _ _ _ (zeI (hs.2.1.2 _ (zbu (zcp.1 h0).2 _))))
 refine (show zFW 0 a0 a1 a2 a3 a4=_ from key).trans ?_
 unfold zqP zqQ zeB zdX;cases h0:zcw a0 a1
 .rfl
 .obtain ⟨e1,e2⟩:=z5l (ziU h0 (znS h0)) a0 a1 a2 a3 a4;simp only[cT];exact zs6 e1 e2
theorem zKY:vJ 191 zAs:=kF5 ziM zk zbT zcY (zq []) zRZ
theorem zMu {b:Bare}(g v:Int)(hb:SmB b):SmB (zgY b g v):=zp6 hb (z5q _ (ziJ _ hb))
theorem zXT {b c:Bare}(hS:SameB b c)(h:Host)(m:Int)(g v:Int):zcZ h m (zgY b g v)=zcZ h m (zgY c g v)/\ziu b g v=ziu c g v:=by
 have e:=hS.at g;simp only[zgY,ziu,e];exact ⟨zpm hS _ _ _ _ _,zlc hS _ _⟩
@[simp] abbrev zpX (h:Host)(m:Int)(g v:Int):Bool:=pc (zb2 h)
@[simp] abbrev zlG (h:Host)(m:Int)(g v:Int):Host:=zeB h m (zgY (zy h m) g v)
@[simp] abbrev zlH (h:Host)(m:Int)(g v:Int):Bool:=zdX h m (ziu (zy h m) g v)
def zt9:Run:=rF4 dH dI dI dI fun b c d e=>(zpX b c d e,[aH (zlG b c d e),aB (zlH b c d e)])
def zw5 (N:Nat)(a0:Host)(a1 a2 a3:Int):OA:=
 let y1:=(zu a0);let y0:=(ix y1.Mons a1 zf); (oN (zbG a0) (oN (zfe y1 a1) (cond (nB (zfd y1 a1)) (some [(aH y1),(aB false)]) (oN (inb a1 (ln y1.Mons)) (oN (zey y0) (oN (zlz (zbA y0) a2 a3) (oN (zex y1 a1 (zfG (zbA y0) a2 a3)) (some [(aH (zgQ y1 a1 (zfG (zbA y0) a2 a3))),(aB (zg1 (zbA y0) a2 a3))]))))))))
theorem zIy (a0:Host)(a1 a2 a3:Int)(hc:zpX a0 a1 a2 a3=true):∃N,zw5 N a0 a1 a2 a3=some [aH (zlG a0 a1 a2 a3),aB (zlH a0 a1 a2 a3)]:=by
 have hs:=(zK a0).1 (zF.1 hc);refine ⟨0,?_⟩;have key:=znw (h:=a0) (m:=a1) (cB:=zlz (zcK (ix a0.Mons a1 mZ)) a2 a3) (B:=zfG (zcK (ix a0.Mons a1 mZ)) a2 a3) (o0:=fun H=>[.agg (zbc H),.one (.b false)]) (o1:=fun H=>[.agg (zbc H),.one (.b (zg1 (zcK (ix a0.Mons a1 mZ)) a2 a3))]) hs
  (fun h0=>zU (zeI (hs.2.1.2 _ (zbu (zcp.1 h0).2 _)))) (fun h0=>zMu _ _ (zeI (hs.2.1.2 _ (zbu (zcp.1 h0).2 _))))
 refine (show zw5 0 a0 a1 a2 a3=_ from key).trans ?_
 unfold zlG zlH zeB zdX;cases h0:zcw a0 a1
 .rfl
 .obtain ⟨e1,e2⟩:=zXT (ziU h0 (znS h0)) a0 a1 a2 a3;simp only[cT];exact zs6 e1 e2
theorem zCj:vJ 193 zt9:=kF4 ziM zk zbT zcY (zq []) zIy
theorem zMw {b:Bare}(g:Int)(hb:SmB b):SmB (zg0 b g):=zp6 hb (z5r (ziJ _ hb))
theorem zXV {b c:Bare}(hS:SameB b c)(h:Host)(m:Int)(g:Int):zcZ h m (zg0 b g)=zcZ h m (zg0 c g)/\ziw b g=ziw c g:=by
 have e:=hS.at g;simp only[zg0,ziw,e];exact ⟨zpm hS _ _ _ _ _,zlc hS _ _⟩
@[simp] abbrev zpZ (h:Host)(m:Int)(g:Int):Bool:=pc (zb2 h)
@[simp] abbrev zlK (h:Host)(m:Int)(g:Int):Host:=zeB h m (zg0 (zy h m) g)
@[simp] abbrev zlL (h:Host)(m:Int)(g:Int):Bool:=zdX h m (ziw (zy h m) g)
def zue:Run:=rF3 dH dI dI fun b c d=>(zpZ b c d,[aH (zlK b c d),aB (zlL b c d)])
def zw7 (N:Nat)(a0:Host)(a1 a2:Int):OA:=
 let y1:=(zu a0);let y0:=(ix y1.Mons a1 zf); (oN (zbG a0) (oN (zfe y1 a1) (cond (nB (zfd y1 a1)) (some [(aH y1),(aB false)]) (oN (inb a1 (ln y1.Mons)) (oN (zey y0) (oN (zlB (zbA y0) a2) (oN (zex y1 a1 (zfI (zbA y0) a2)) (some [(aH (zgQ y1 a1 (zfI (zbA y0) a2))),(aB (zg3 (zbA y0) a2))]))))))))
theorem zIA (a0:Host)(a1 a2:Int)(hc:zpZ a0 a1 a2=true):∃N,zw7 N a0 a1 a2=some [aH (zlK a0 a1 a2),aB (zlL a0 a1 a2)]:=by
 have hs:=(zK a0).1 (zF.1 hc);refine ⟨0,?_⟩;have key:=znw (h:=a0) (m:=a1) (cB:=zlB (zcK (ix a0.Mons a1 mZ)) a2) (B:=zfI (zcK (ix a0.Mons a1 mZ)) a2) (o0:=fun H=>[.agg (zbc H),.one (.b false)]) (o1:=fun H=>[.agg (zbc H),.one (.b (zg3 (zcK (ix a0.Mons a1 mZ)) a2))]) hs
  (fun h0=>zU (zeI (hs.2.1.2 _ (zbu (zcp.1 h0).2 _)))) (fun h0=>zMw _ (zeI (hs.2.1.2 _ (zbu (zcp.1 h0).2 _))))
 refine (show zw7 0 a0 a1 a2=_ from key).trans ?_
 unfold zlK zlL zeB zdX;cases h0:zcw a0 a1
 .rfl
 .obtain ⟨e1,e2⟩:=zXV (ziU h0 (znS h0)) a0 a1 a2;simp only[cT];exact zs6 e1 e2
theorem zCl:vJ 194 zue:=kF3 ziM zk zbT zcY (zq []) zIA
theorem zMv {b:Bare}(g n:Int)(hb:SmB b):SmB (zgZ b g n):=zp6 hb (ziJ (b:=b) _ hb)
theorem zXU {b c:Bare}(hS:SameB b c)(h:Host)(m:Int)(g n:Int):zcZ h m (zgZ b g n)=zcZ h m (zgZ c g n)/\ziv b g n=ziv c g n:=by
 have e:=hS.at g;simp only[zgZ,ziv,e];exact ⟨zpm hS _ _ _ _ _,zlc hS _ _⟩
@[simp] abbrev zpY (h:Host)(m:Int)(g n:Int):Bool:=pc (zb2 h)
@[simp] abbrev zlI (h:Host)(m:Int)(g n:Int):Host:=zeB h m (zgZ (zy h m) g n)
@[simp] abbrev zlJ (h:Host)(m:Int)(g n:Int):Bool:=zdX h m (ziv (zy h m) g n)
def zua:Run:=rF4 dH dI dI dI fun b c d e=>(zpY b c d e,[aH (zlI b c d e),aB (zlJ b c d e)])
def zw6 (N:Nat)(a0:Host)(a1 a2 a3:Int):OA:=
 let y1:=(zu a0);let y0:=(ix y1.Mons a1 zf); (oN (zbG a0) (oN (zfe y1 a1) (cond (nB (zfd y1 a1)) (some [(aH y1),(aB false)]) (oN (inb a1 (ln y1.Mons)) (oN (zey y0) (oN (zlA (zbA y0) a2 a3) (oN (zex y1 a1 (zfH (zbA y0) a2 a3)) (some [(aH (zgQ y1 a1 (zfH (zbA y0) a2 a3))),(aB (zg2 (zbA y0) a2 a3))]))))))))
theorem zIz (a0:Host)(a1 a2 a3:Int)(hc:zpY a0 a1 a2 a3=true):∃N,zw6 N a0 a1 a2 a3=some [aH (zlI a0 a1 a2 a3),aB (zlJ a0 a1 a2 a3)]:=by
 have hs:=(zK a0).1 (zF.1 hc);refine ⟨0,?_⟩;have key:=znw (h:=a0) (m:=a1) (cB:=zlA (zcK (ix a0.Mons a1 mZ)) a2 a3) (B:=zfH (zcK (ix a0.Mons a1 mZ)) a2 a3) (o0:=fun H=>[.agg (zbc H),.one (.b false)]) (o1:=fun H=>[.agg (zbc H),.one (.b (zg2 (zcK (ix a0.Mons a1 mZ)) a2 a3))]) hs
  (fun h0=>zU (zeI (hs.2.1.2 _ (zbu (zcp.1 h0).2 _)))) (fun h0=>zMv _ _ (zeI (hs.2.1.2 _ (zbu (zcp.1 h0).2 _))))
 refine (show zw6 0 a0 a1 a2 a3=_ from key).trans ?_
 unfold zlI zlJ zeB zdX;cases h0:zcw a0 a1
 .rfl
 .obtain ⟨e1,e2⟩:=zXU (ziU h0 (znS h0)) a0 a1 a2 a3;simp only[cT];exact zs6 e1 e2
theorem zCk:vJ 195 zua:=kF4 ziM zk zbT zcY (zq []) zIz
theorem zYN {b:Bare}(g:Int)(x:Ctl)(hb:SmB b):SmB (zjP b g x):=zp6 hb (ziJ (b:=b) _ hb)
theorem z5k {b c:Bare}(hS:SameB b c)(h:Host)(m:Int)(g:Int)(x:Ctl):zcZ h m (zjP b g x)=zcZ h m (zjP c g x)/\zmr b g x=zmr c g x:=by
 have e:=hS.at g;simp only[zjP,zmr,e];exact ⟨zpm hS _ _ _ _ _,zlc hS _ _⟩
@[simp] abbrev zwB (h:Host)(m:Int)(g:Int)(x:Ctl):Bool:=pc (zb2 h)
@[simp] abbrev zqL (h:Host)(m:Int)(g:Int)(x:Ctl):Host:=zeB h m (zjP (zy h m) g x)
@[simp] abbrev zqM (h:Host)(m:Int)(g:Int)(x:Ctl):Bool:=zdX h m (zmr (zy h m) g x)
def zAp:Run:=rF4 dH dI dI dC fun b c d e=>(zwB b c d e,[aH (zqL b c d e),aB (zqM b c d e)])
def zFT (N:Nat)(a0:Host)(a1 a2:Int)(a3:Ctl):OA:=
 let y1:=(zu a0);let y0:=(ix y1.Mons a1 zf); (oN (zbG a0) (oN (zfe y1 a1) (cond (nB (zfd y1 a1)) (some [(aH y1),(aB false)]) (oN (inb a1 (ln y1.Mons)) (oN (zey y0) (oN (zqD (zbA y0) a2 a3) (oN (zex y1 a1 (zh6 (zbA y0) a2 a3)) (some [(aH (zgQ y1 a1 (zh6 (zbA y0) a2 a3))),(aB (zjU (zbA y0) a2 a3))]))))))))
theorem zRW (a0:Host)(a1 a2:Int)(a3:Ctl)(hc:zwB a0 a1 a2 a3=true):∃N,zFT N a0 a1 a2 a3=some [aH (zqL a0 a1 a2 a3),aB (zqM a0 a1 a2 a3)]:=by
 have hs:=(zK a0).1 (zF.1 hc);refine ⟨0,?_⟩;have key:=znw (h:=a0) (m:=a1) (cB:=zqD (zcK (ix a0.Mons a1 mZ)) a2 a3) (B:=zh6 (zcK (ix a0.Mons a1 mZ)) a2 a3) (o0:=fun H=>[.agg (zbc H),.one (.b false)]) (o1:=fun H=>[.agg (zbc H),.one (.b (zjU (zcK (ix a0.Mons a1 mZ)) a2 a3))]) hs
  (fun h0=>zU (zeI (hs.2.1.2 _ (zbu (zcp.1 h0).2 _)))) (fun h0=>zYN _ _ (zeI (hs.2.1.2 _ (zbu (zcp.1 h0).2 _))))
 refine (show zFT 0 a0 a1 a2 a3=_ from key).trans ?_
 unfold zqL zqM zeB zdX;cases h0:zcw a0 a1
 .rfl
 .obtain ⟨e1,e2⟩:=z5k (ziU h0 (znS h0)) a0 a1 a2 a3;simp only[cT];exact zs6 e1 e2
theorem zKV:vJ 196 zAp:=kF4 ziM zk zbT zcY (zq []) zRW
theorem zVU {b:Bare}(n:Int)(hb:SmB b):SmB (zkC b n):=z3i hb
theorem z3a {b c:Bare}(hS:SameB b c)(h:Host)(m n:Int):zcZ h m (zkC b n)=zcZ h m (zkC c n)/\zov b n=zov c n:=by
 obtain ⟨e1,e2,e3⟩:=z2O hS n;exact ⟨back_eq e1 e2,e3⟩
@[simp] abbrev zup (h:Host)(m:Int)(n:Int):Bool:=pc (zb2 h)
@[simp] abbrev zoW (h:Host)(m:Int)(n:Int):Host:=zeB h m (zkC (zy h m) n)
@[simp] abbrev zoX (h:Host)(m:Int)(n:Int):Bool:=zdX h m (zov (zy h m) n)
def zxX:Run:=rF3 dH dI dI fun b c d=>(zup b c d,[aH (zoW b c d),aB (zoX b c d)])
def zBB (N:Nat)(a0:Host)(a1 a2:Int):OA:=
 let y1:=(zu a0);let y0:=(ix y1.Mons a1 zf); (oN (zbG a0) (oN (zfe y1 a1) (cond (nB (zfd y1 a1)) (some [(aH y1),(aB false)]) (oN (inb a1 (ln y1.Mons)) (oN (zey y0) (oN (zoO (zbA y0) a2) (oN (zex y1 a1 (ziB (zbA y0) a2)) (some [(aH (zgQ y1 a1 (ziB (zbA y0) a2))),(aB (zkJ (zbA y0) a2))]))))))))
theorem zOL (a0:Host)(a1 a2:Int)(hc:zup a0 a1 a2=true):∃N,zBB N a0 a1 a2=some [aH (zoW a0 a1 a2),aB (zoX a0 a1 a2)]:=by
 have hs:=(zK a0).1 (zF.1 hc);refine ⟨0,?_⟩;have key:=znw (h:=a0) (m:=a1) (cB:=zoO (zcK (ix a0.Mons a1 mZ)) a2) (B:=ziB (zcK (ix a0.Mons a1 mZ)) a2) (o0:=fun H=>[.agg (zbc H),.one (.b false)]) (o1:=fun H=>[.agg (zbc H),.one (.b (zkJ (zcK (ix a0.Mons a1 mZ)) a2))]) hs
  (fun h0=>zU (zeI (hs.2.1.2 _ (zbu (zcp.1 h0).2 _)))) (fun h0=>zVU _ (zeI (hs.2.1.2 _ (zbu (zcp.1 h0).2 _))))
 refine (show zBB 0 a0 a1 a2=_ from key).trans ?_
 unfold zoW zoX zeB zdX;cases h0:zcw a0 a1
 .rfl
 .obtain ⟨e1,e2⟩:=z3a (ziU h0 (znS h0)) a0 a1 a2;simp only[cT];exact zs6 e1 e2
theorem zH1:vJ 199 zxX:=kF3 ziM zk zbT zcY (zq []) zOL
theorem zYM {b:Bare}(hb:SmB b):SmB (zmq b):=z5p hb
theorem z5j {b c:Bare}(hS:SameB b c)(h:Host)(m:Int):zcZ h m (zmq b)=zcZ h m (zmq c)/\zqs b=zqs c/\zqu b=zqu c:=by
 obtain ⟨e1,e2,e3,e4⟩:=z3x hS;exact ⟨back_eq e1 e2,e3,e4⟩
@[simp] abbrev zwA (h:Host)(m:Int):Bool:=pc (zb2 h)
@[simp] abbrev zqH (h:Host)(m:Int):Host:=zeB h m (zmq (zy h m))
@[simp] abbrev zqI (h:Host)(m:Int):Int:=bif zcw h m then zqs (zy h m) else -1
@[simp] abbrev zqJ (h:Host)(m:Int):Bool:=zdX h m (zqu (zy h m))
def zAn:Run:=rF2 dH dI fun b c=>(zwA b c,[aH (zqH b c),aI (zqI b c),aB (zqJ b c)])
def zFR (N:Nat)(a0:Host)(a1:Int):OA:=
 let y1:=(zu a0);let y0:=(ix y1.Mons a1 zf); (oN (zbG a0) (oN (zfe y1 a1) (cond (nB (zfd y1 a1)) (some [(aH y1),(aI (-1)),(aB false)]) (oN (inb a1 (ln y1.Mons)) (oN (zey y0) (oN (zqC (zbA y0)) (oN (zex y1 a1 (zh5 (zbA y0))) (some [(aH (zgQ y1 a1 (zh5 (zbA y0)))),(aI (zjS (zbA y0))),(aB (zjT (zbA y0)))]))))))))
theorem zRU (a0:Host)(a1:Int)(hc:zwA a0 a1=true):∃N,zFR N a0 a1=some [aH (zqH a0 a1),aI (zqI a0 a1),aB (zqJ a0 a1)]:=by
 have hs:=(zK a0).1 (zF.1 hc);refine ⟨0,?_⟩;have key:=znw (h:=a0) (m:=a1) (cB:=zqC (zcK (ix a0.Mons a1 mZ))) (B:=zh5 (zcK (ix a0.Mons a1 mZ))) (o0:=fun H=>[.agg (zbc H),.one (.i .i64 (-1)),.one (.b false)]) (o1:=fun H=>[.agg (zbc H),.one (.i .i64 (zjS (zcK (ix a0.Mons a1 mZ)))),.one (.b (zjT (zcK (ix a0.Mons a1 mZ))))]) hs
  (fun h0=>zU (zeI (hs.2.1.2 _ (zbu (zcp.1 h0).2 _)))) (fun h0=>zYM (zeI (hs.2.1.2 _ (zbu (zcp.1 h0).2 _))))
 refine (show zFR 0 a0 a1=_ from key).trans ?_
 unfold zqH zqI zqJ zeB zdX;cases h0:zcw a0 a1
 .rfl
 .obtain ⟨e1,e2,e3⟩:=z5j (ziU h0 (znS h0)) a0 a1;simp only[cT];exact z7G e1 e2 e3
theorem zKT:vJ 200 zAn:=kF2 ziM zk zbT zcY (zq []) zRU
def z1l:zO:=[(191,zAs),(193,zt9),(194,zue),(195,zua),(196,zAp),(199,zxX),(200,zAn)]++z1k
theorem zq9:zG z1l:=zh zKY (zh zCj (zh zCl (zh zCk (zh zKV (zh zH1 (zh zKT ziM))))))
def zbn (h:Host)(m t:Int):Host:=bif zbQ h then (cond (hasB m (ln h.Mons)) (cond (win t 0 3) { h with Mons:=up h.Mons m { ix h.Mons m mZ with Traps:=t } } h) h) else h
def zjl (h:Host)(m t:Int):Bool:=bif zbQ h then (cond (hasB m (ln h.Mons)) (win t 0 3) false) else false
@[simp] abbrev zut (h:Host)(m t:Int):Bool:=pc (zb2 h)
@[simp] abbrev zo5 (h:Host)(m t:Int):Host:=zbn h m t
@[simp] abbrev zo6 (h:Host)(m t:Int):Bool:=zjl h m t
@[simp] abbrev zoo (h:Host)(m t:Int):Bool:=pc (zb2 h)
@[simp] abbrev zkt (h:Host)(m t:Int):Host:=zbn h m t
@[simp] abbrev zon (h:Host)(m t:Int):Bool:=zjl h m t
def zx2:Run:=rF3 dH dI dI fun b c d=>(zut b c d,[aH (zo5 b c d),aB (zo6 b c d)])
def zBF (N:Nat)(a0:Host)(a1 a2:Int):OA:=
 let y0:=(zu a0); (oN (zbG a0) (oN (ze5 y0) (cond (nB (ze4 y0)) (some [(aH y0),(aB false)]) (oN (zJ a1 0 (wsub .i64 (ln y0.Mons) 1)) (cond (nB (zL a1 0 (wsub .i64 (ln y0.Mons) 1))) (some [(aH y0),(aB false)]) (oN (zJ a2 0 3) (cond (nB (zL a2 0 3)) (some [(aH y0),(aB false)]) (oN (inb a1 (ln y0.Mons)) (share (up y0.Mons a1 ({ (ix y0.Mons a1 zf) with Traps:=a2 }:Mon)) (fun x4=>(some [(aH ({ y0 with Mons:=x4 }:Host)),(aB true)])))))))))))
theorem zOQ (a0:Host)(a1 a2:Int)(hc:zut a0 a1 a2=true):∃N,zBF N a0 a1 a2=some [aH (zo5 a0 a1 a2),aB (zo6 a0 a1 a2)]:=by
 have hs:=(zK a0).1 (zF.1 hc);refine ⟨0,?_⟩;unfold zBF zo5 zo6 zbn zjl oN nB
 conv=>zeta
 refine must hc (must rfl ?_);rw[show ze4 (zu a0)=zbQ a0 from rfl]
 cases hh:zbQ a0
 .rfl
 .refine zcB rfl (must rfl ?_);rw[show zL a1 0 (wsub .i64 (ln (zu a0).Mons) 1)=hasB a1 (ln a0.Mons) from zPF hh a1]
  cases hm:hasB a1 (ln a0.Mons)
  .rfl
  .refine zcB rfl (must rfl ?_);rw[show zL a2 0 3=win a2 0 3 from rfl]
   cases ht:win a2 0 3
   .rfl
   .exact zcB rfl (must (zx hm) rfl)
theorem zH7:vJ 249 zx2:=kF3 zq9 zk zbT zcY (zq []) zOQ
def zpO:Run:=rF3 dH dI dI fun b c d=>(zoo b c d,[aH (zkt b c d),aB (zon b c d)])
def zBg (N:Nat)(a0:Host)(a1 a2:Int):OA:=
 let y0:=(zbL a0); (oN (zky a0) (oN (zoe a0) (cond (nB (zm7 a0)) (some [(aH y0),(aB false)]) (oN (zcm a1 (ln a0.Mons)) (cond (nB (zcO a1 (ln a0.Mons))) (some [(aH y0),(aB false)]) (oN (zbD a2 0 3) (cond (nB (zbR a2 0 3)) (some [(aH y0),(aB false)]) (oN (inb a1 (ln y0.Mons)) (share (up y0.Mons a1 ({ (ix y0.Mons a1 zf) with Traps:=a2 }:Mon)) (fun x4=>(some [(aH ({ y0 with Mons:=x4 }:Host)),(aB true)])))))))))))
theorem zOq (a0:Host)(a1 a2:Int)(hc:zoo a0 a1 a2=true):∃N,zBg N a0 a1 a2=some [aH (zkt a0 a1 a2),aB (zon a0 a1 a2)]:=by
 have hs:=(zK a0).1 (zF.1 hc);refine ⟨0,?_⟩;unfold zBg zkt zon zbn zjl oN nB
 conv=>zeta
 refine must hc (must rfl ?_);rw[show zm7 a0=zbQ a0 from rfl]
 cases hh:zbQ a0
 .rfl
 .refine zcB rfl (must rfl ?_);rw[show zcO a1 (ln a0.Mons)=hasB a1 (ln a0.Mons) from rfl]
  cases hm:hasB a1 (ln a0.Mons)
  .rfl
  .refine zcB rfl (must rfl ?_);rw[show zbR a2 0 3=win a2 0 3 from rfl]
   cases ht:win a2 0 3
   .rfl
   .exact zcB rfl (must (zx hm) rfl)
theorem ztI:vJ 17 zpO:=kF3 zq9 zk zbT zcY (zq []) zOq
theorem zjR {h:Host}{m p:Int}:(zci h m p=true)↔zbQ h=true/\hasB m (ln h.Mons)=true/\hasB p 8=true:=by
 unfold zci;cases zbQ h<;>cases hasB m (ln h.Mons)<;>simp
def zj9 (h:Host)(m p:Int):Bool:=ieq (ix (ix h.Mons m mZ).Outer p sZ).Page (-1)
def zpC (h:Host)(m p:Int):Host:=bif zci h m p then (cond (zj9 h m p) h (zdk h m p)) else h
def zCH (h:Host)(m p:Int):Bool:=bif zci h m p then !zj9 h m p else false
def ztZ (h:Host)(m p:Int):Host:=bif zci h m p then (cond (zj9 h m p) (fetched h m p) h) else h
def zIH (h:Host)(m p:Int):Bool:=bif zci h m p then zj9 h m p else false
@[simp] abbrev zwI (h:Host)(m p:Int):Bool:=pc (zb2 h)
@[simp] abbrev zqS (h:Host)(m p:Int):Host:=zpC h m p
@[simp] abbrev zqT (h:Host)(m p:Int):Bool:=zCH h m p
@[simp] abbrev zzm (h:Host)(m p:Int):Bool:=pc (zb2 h)
@[simp] abbrev zsP (h:Host)(m p:Int):Host:=ztZ h m p
@[simp] abbrev zsQ (h:Host)(m p:Int):Bool:=zIH h m p
theorem zL0 {h:Host}(hs:SmH h)(hh:zbQ h=true){m p:Int}(hm:hasB m (ln h.Mons)=true)(hp:hasB p 8=true) :
 (cond (ieq (ix (ix h.Mons m mZ).Outer p sZ).Page (-1)) (ieq (ix (ix h.Mons m mZ).Outer p sZ).Rights 0) false)=zj9 h m p:=by
 have hf:=(zsH (zgH hh _ (zbu hm mZ)) hp).no;unfold zcI at hf;unfold zj9;rw[<- hf];cases h1:ieq (ix (ix h.Mons m mZ).Outer p sZ).Page (-1)<;>simp [noSlot,h1]
theorem zQH {h:Host}(hs:SmH h)(hh:zbQ h=true){m p:Int}(hm:hasB m (ln h.Mons)=true)(hp:hasB p 8=true):inb p (ln (ix h.Mons m mZ).Outer)=true :=
 zx (by rw[ln,((zeZ hs hh).1.2 _ (zbu hm mZ)).1];exact hp)
def zAx:Run:=rF3 dH dI dI fun b c d=>(zwI b c d,[aH (zqS b c d),aB (zqT b c d)])
def zF0 (N:Nat)(a0:Host)(a1 a2:Int):OA:=
 let y1:=(zu a0);let y0:=(ix y1.Mons a1 zf).Outer; (oN (zbG a0) (oN (znN y1 a1 a2) (cond (nB (zhz y1 a1 a2)) (some [(aH y1),(aB false)]) (oN (inb a1 (ln y1.Mons)) (oN (inb a2 (ln y0)) (oN zcq (cond (cond (ieq (ix y0 a2 zN).Page zbs.Page) (ieq (ix y0 a2 zN).Rights zbs.Rights) false) (some [(aH y1),(aB false)]) (oN (zsZ y1 a1 a2) (some [(aH (zzv y1 a1 a2)),(aB true)])))))))))
theorem zR4 (a0:Host)(a1 a2:Int)(hc:zwI a0 a1 a2=true):∃N,zF0 N a0 a1 a2=some [aH (zqS a0 a1 a2),aB (zqT a0 a1 a2)]:=by
 have hs:=(zK a0).1 (zF.1 hc);refine ⟨0,?_⟩;unfold zF0 zqS zqT zpC zCH oN nB
 conv=>zeta
 refine must hc (must rfl ?_);rw[show zhz (zu a0) a1 a2=zci a0 a1 a2 from rfl]
 cases h0:zci a0 a1 a2
 .rfl
 .obtain ⟨hh,hm,hp⟩:=zjR.1 h0;refine zcB rfl (must (zx hm) (must (zQH hs hh hm hp) (must rfl ?_)));rw[show (cond (ieq (ix (ix (zu a0).Mons a1 zf).Outer a2 zN).Page zbs.Page) (ieq (ix (ix (zu a0).Mons a1 zf).Outer a2 zN).Rights zbs.Rights) false)=zj9 a0 a1 a2 from zL0 hs hh hm hp]
  cases h1:zj9 a0 a1 a2
  .exact zcB rfl (must (zU ⟨(zeZ hs hh).1,hm,hp⟩) rfl)
  .rfl
theorem zK4:vJ 246 zAx:=kF3 zq9 zk zbT zcY (zq []) zR4
def zDq:Run:=rF3 dH dI dI fun b c d=>(zzm b c d,[aH (zsP b c d),aB (zsQ b c d)])
def zJJ (N:Nat)(a0:Host)(a1 a2:Int):OA:=
 let y1:=(zu a0);let y0:=(ix y1.Mons a1 zf).Outer; (oN (zbG a0) (oN (znN y1 a1 a2) (cond (nB (zhz y1 a1 a2)) (some [(aH y1),(aB false)]) (oN (inb a1 (ln y1.Mons)) (oN (inb a2 (ln y0)) (oN zcq (cond (nB (cond (ieq (ix y0 a2 zN).Page zbs.Page) (ieq (ix y0 a2 zN).Rights zbs.Rights) false)) (some [(aH y1),(aB false)]) (oN (zv2 y1 a1 a2) (some [(aH (zyf y1 a1 a2)),(aB true)])))))))))
theorem zUM (a0:Host)(a1 a2:Int)(hc:zzm a0 a1 a2=true):∃N,zJJ N a0 a1 a2=some [aH (zsP a0 a1 a2),aB (zsQ a0 a1 a2)]:=by
 have hs:=(zK a0).1 (zF.1 hc);refine ⟨0,?_⟩;unfold zJJ zsP zsQ ztZ zIH oN nB
 conv=>zeta
 refine must hc (must rfl ?_);rw[show zhz (zu a0) a1 a2=zci a0 a1 a2 from rfl]
 cases h0:zci a0 a1 a2
 .rfl
 .obtain ⟨hh,hm,hp⟩:=zjR.1 h0;refine zcB rfl (must (zx hm) (must (zQH hs hh hm hp) (must rfl ?_)));rw[show (cond (ieq (ix (ix (zu a0).Mons a1 zf).Outer a2 zN).Page zbs.Page) (ieq (ix (ix (zu a0).Mons a1 zf).Outer a2 zN).Rights zbs.Rights) false)=zj9 a0 a1 a2 from zL0 hs hh hm hp]
  cases h1:zj9 a0 a1 a2
  .rfl
  .exact zcB rfl (must (zU ⟨zeZ hs hh,hm,hp⟩) rfl)
theorem zNU:vJ 247 zDq:=kF3 zq9 zk zbT zcY (zq []) zUM
def z1m:zO:=[(249,zx2),(17,zpO),(246,zAx),(247,zDq)]++z1l
theorem zQe:zG z1m:=zh zH7 (zh ztI (zh zK4 (zh zNU zq9)))
theorem z0S {x:Mon}{b:Bare}(h:zfr x)(hb:zmY b.Guests):zfr (zuU x b):=⟨h.1,h.2.1,h.2.2.1,hb,h.2.2.2.2⟩
theorem zIV {h:Host}{m:Int}{b:Bare}(hs:SmH h)(hm:hasB m (ln h.Mons)=true)(hb:zmY b.Guests):SmH (zcZ h m b) :=
 ⟨hs.1,ziV hs.2.1 (z0S (hs.2.1.2 _ (zbu hm _)) hb),hs.2.2⟩
theorem zTg {h:Host}{m:Int}(b:Bare)(hm:hasB m (ln h.Mons)=true):hasB m (ln (zcZ h m b).Mons)=true:=by
 show hasB m (ln (up h.Mons m _))=true
 rw[ln,zgv];exact hm
theorem z7x {h:Host}{m:Int}(b:Bare)(hm:hasB m (ln h.Mons)=true):ix (zcZ h m b).Mons m mZ=zuU (ix h.Mons m mZ) b:=by
 obtain ⟨k,rfl,hk⟩:=zdH (n:=h.Mons.length) hm;exact zdN hk _ _
def zB5 (h:Host)(m g p:Int):Host:=⟨h.Memory,up h.Mons m { ix h.Mons m mZ with Tables:=up (ix h.Mons m mZ).Tables g (zbK (ix (ix h.Mons m mZ).Tables g kZ) p) },zcr h.Buffer (zdF m g) p,zcr h.IoBuffer (zdF m g) p⟩
def z1T (H:Host)(m g p:Int)(o:Host->Ans):OA:=
 bif inb m (ln H.Mons) then (bif inb m (ln H.Mons) then (bif inb g (ln (ix H.Mons m mZ).Tables) then (bif zlE (ix (ix H.Mons m mZ).Tables g kZ) p then (bif inb g (ln (ix H.Mons m mZ).Tables) then (share (up H.Mons m { ix H.Mons m mZ with Tables:=up (ix H.Mons m mZ).Tables g (zbK (ix (ix H.Mons m mZ).Tables g kZ) p) }) fun x =>
  (cond (zkM m g) (cond (zgs H.Buffer (zdF m g) p) (cond (zkM m g) (cond (zgs H.IoBuffer (zdF m g) p) (some (o ⟨H.Memory,x,zcr H.Buffer (zdF m g) p,zcr H.IoBuffer (zdF m g) p⟩)) none) none) none) none)) else none) else none) else none) else none) else none
theorem z1U {H:Host}{m g p:Int}{o:Host->Ans}(hs:SmH H)(hm:hasB m (ln H.Mons)=true)(hg:hasB g (ln (ix H.Mons m mZ).Tables)=true):z1T H m g p o=some (o (zB5 H m g p)):=by
 have hx:=hs.2.1.2 _ (zbu hm mZ);unfold z1T;exact must (zx hm) (must (zx hm) (must (zx hg) (must (zU (hx.2.2.2.2.2.2 _ (zbu hg _))) (must (zx hg) (shr (must rfl (must (zU hs.2.2.1) (must rfl (must (zU hs.2.2.2) rfl)))))))))
def zko (h:Host)(m g p:Int):Host:=bif zcw h m then (cond (zbU (zy h m) g (hasB p 4)) (zB5 (zcZ h m (chg (zy h m) g (hasB p 4) (zdK (gAt (zy h m) g) p))) m g p) h) else h
@[simp] abbrev zsd (h:Host)(m g p:Int):Bool:=pc (zb2 h)
@[simp] abbrev zmV (h:Host)(m g p:Int):Host:=zko h m g p
@[simp] abbrev zmW (h:Host)(m g p:Int):Bool:=zdX h m (zbU (zy h m) g (hasB p 4))
theorem zXW {h:Host}{m:Int}(hm:hasB m (ln h.Mons)=true):(zy h m).Guests=(ix h.Mons m mZ).Guests:=by unfold zy;rw[hm];rfl
theorem zQs {h:Host}{m g:Int}{k:Bool}(hs:SmH h)(h0:zcw h m=true)(b:Bare)(hk:zbU (zy h m) g k=true):hasB g (ln (ix (zcZ h m b).Mons m mZ).Tables)=true:=by
 obtain ⟨hh,hm⟩:=zcp.1 h0;rw[z7x b hm]
 show hasB g (ln (ix h.Mons m mZ).Tables)=true
 rw[ln,((zeZ hs hh).1.2 _ (zbu hm mZ)).2.2.2,<- zXW hm];unfold zbU at hk;cases hb:zb1 (zy h m) g
 .rw [hb]at hk;cases hk
 .exact (zdD.1 hb).2
def zvy:Run:=rF4 dH dI dI dI fun b c d e=>(zsd b c d e,[aH (zmV b c d e),aB (zmW b c d e)])
def zz0 (N:Nat)(a0:Host)(a1 a2 a3:Int):OA:=
 let y5:=(ztn a1 a2);let y3:=(zu a0);let y2:=(ix y3.Mons a1 zf);let y0:=(zgQ y3 a1 (zeC (zbA y2) a2 a3));let y1:=(ix y0.Mons a1 zf);let y4:=(ix y1.Tables a2 zez); (oN (zbG a0) (oN (zfe y3 a1) (cond (nB (zfd y3 a1)) (some [(aH y3),(aB false)]) (oN (inb a1 (ln y3.Mons)) (oN (zey y2) (oN (zsa (zbA y2) a2 a3) (cond (nB (zhx (zbA y2) a2 a3)) (some [(aH y3),(aB false)]) (oN (zex y3 a1 (zeC (zbA y2) a2 a3)) (oN (inb a1 (ln y0.Mons)) (oN (inb a1 (ln y0.Mons)) (oN (inb a2 (ln y1.Tables)) (oN (zlE y4 a3) (oN (inb a2 (ln y1.Tables)) (share (up y0.Mons a1 ({ y1 with Tables:=(up y1.Tables a2 (zkK y4 a3)) }:Mon)) (fun x5=>(oN (zkM a1 a2) (oN (zgs y0.Buffer y5 a3) (oN (zkM a1 a2) (oN (zgs y0.IoBuffer y5 a3) (some [(aH (⟨y0.Memory,x5,(zmy y0.Buffer y5 a3),(zmy y0.IoBuffer y5 a3)⟩:Host)),(aB true)]))))))))))))))))))))
theorem zLR (a0:Host)(a1 a2 a3:Int)(hb:zbN big [aH a0,aI a1,aI a2,aI a3])(hc:zsd a0 a1 a2 a3=true):∃N,zz0 N a0 a1 a2 a3=some [aH (zmV a0 a1 a2 a3),aB (zmW a0 a1 a2 a3)]:=by
 have hs:=(zK a0).1 (zF.1 hc);refine ⟨0,?_⟩;unfold zz0 zmV zmW zko zdX oN nB
 conv=>zeta
 refine must hc (must rfl ?_);rw[show zfd (zu a0) a1=zcw a0 a1 from rfl]
 cases h0:zcw a0 a1
 .rfl
 .obtain ⟨hh,hm⟩:=zcp.1 h0;have hx:=hs.2.1.2 _ (zbu hm mZ);have hv:=zeI hx;have hS:=ziU h0 (znS h0);have hk:zbU (zcK (ix a0.Mons a1 mZ)) a2 (hasB a3 4)=zbU (zy a0 a1) a2 (hasB a3 4):=zlc hS _ _;have hB:zcZ a0 a1 (zeC (zcK (ix a0.Mons a1 mZ)) a2 a3)=zcZ a0 a1 (chg (zy a0 a1) a2 (hasB a3 4) (zdK (gAt (zy a0 a1) a2) a3)):=by
   rw[<- hS.at];exact zpm hS _ _ _ _ _
  refine zcB rfl (must (zx hm) (must (zU hx) (must (zU hv) ?_)));rw[show zhx (zbA (ix (zu a0).Mons a1 zf)) a2 a3=zbU (zy a0 a1) a2 (hasB a3 4) from hk]
  cases hf:zbU (zy a0 a1) a2 (hasB a3 4)
  .rfl
  .have hb:SmB (zeC (zcK (ix a0.Mons a1 mZ)) a2 a3):=zp6 hv (zMy _ (ziJ _ hv));refine zcB rfl (must (zU ⟨hm,hb.2.1⟩) ?_);have key:=z1U (H:=zcZ a0 a1 (zeC (zcK (ix a0.Mons a1 mZ)) a2 a3)) (m:=a1) (g:=a2) (p:=a3) (o:=fun H=>[.agg (zbc H),.one (.b true)]) (zIV hs hm hb.2.1) (zTg _ hm) (zQs hs h0 _ hf);refine (show _=_ from key).trans ?_
   rw[hB];rfl
theorem zEX:vJ 192 zvy:=hF4 zQe zk zbT zcY (zq []) zLR
def z1o:zO:=[(192,zvy)]++z1m
theorem zQf:zG z1o:=zh zEX zQe
def zVF (h:Host)(m p c v:Int):Host:={ mended h m p 2 with Memory:=zbv (mended h m p 2).Memory (ix (ix (mended h m p 2).Mons m mZ).Outer p sZ).Page c v }
def ze0 (h:Host)(m p c v:Int):Bool:=bif zci h m p then (cond (hasB c 4) (win v 0 99) false) else false
def zm3 (h:Host)(m p c v:Int):Host:=bif ze0 h m p c v then zVF h m p c v else h
@[simp] abbrev zuo (h:Host)(m p c v:Int):Bool:=pc (zb2 h)
@[simp] abbrev zoU (h:Host)(m p c v:Int):Host:=zm3 h m p c v
@[simp] abbrev zoV (h:Host)(m p c v:Int):Bool:=ze0 h m p c v
def z7i (H:Host)(m p c v:Int)(o:Host->Ans):OA:=
 bif zmJ H m p 2 then (cond (inb m (ln (mended H m p 2).Mons)) (cond (inb p (ln (ix (mended H m p 2).Mons m mZ).Outer)) (cond (ziF (mended H m p 2).Memory (ix (ix (mended H m p 2).Mons m mZ).Outer p sZ).Page c v) (some (o (zVF H m p c v))) none) none) none) else none
theorem z5b {h:Host}{m p c v:Int}{o:Host->Ans}(hs:SmH h)(h0:zci h m p=true):z7i h m p c v o=some (o (zVF h m p c v)):=by
 obtain ⟨hh,hm,hp⟩:=zjR.1 h0;have hf:=zeZ hs hh;obtain ⟨h1,h2⟩:=zuz (n:=2) hf hm hp;unfold z7i;refine must (zU ⟨hf,hm,hp,.inr rfl,zsH (zgH hh _ (zbu hm mZ)) hp⟩) (must (zx h2) (must (zx ?_) (must (zU h1.1.1) rfl)));rw[ln,(h1.2 _ (zbu h2 mZ)).1];exact hp
def zxW:Run:=rF5 dH dI dI dI dI fun b c d e f=>(zuo b c d e f,[aH (zoU b c d e f),aB (zoV b c d e f)])
def zBA (N:Nat)(a0:Host)(a1 a2:Int)(a3 a4:Int):OA:=
 let y2:=(zu a0);let y0:=(znO y2 a1 a2 2);let y1:=(ix y0.Mons a1 zf).Outer;let y3:=(ix y1 a2 zN).Page; (oN (zbG a0) (oN (znN y2 a1 a2) (cond (nB (zhz y2 a1 a2)) (some [(aH y2),(aB false)]) (oN (zJ a3 0 3) (cond (nB (zL a3 0 3)) (some [(aH y2),(aB false)]) (oN (zJ a4 0 99) (cond (nB (zL a4 0 99)) (some [(aH y2),(aB false)]) (oN (zmJ y2 a1 a2 2) (oN (inb a1 (ln y0.Mons)) (oN (inb a2 (ln y1)) (oN (ziF y0.Memory y3 a3 a4) (some [(aH ({ y0 with Memory:=(zji y0.Memory y3 a3 a4) }:Host)),(aB true)]))))))))))))
theorem zOK (a0:Host)(a1 a2:Int)(a3 a4:Int)(hc:zuo a0 a1 a2 a3 a4=true):∃N,zBA N a0 a1 a2 a3 a4=some [aH (zoU a0 a1 a2 a3 a4),aB (zoV a0 a1 a2 a3 a4)]:=by
 have hs:=(zK a0).1 (zF.1 hc);refine ⟨0,?_⟩;unfold zBA zoU zoV zm3 ze0 oN nB
 conv=>zeta
 refine must hc (must rfl ?_);rw[show zhz (zu a0) a1 a2=zci a0 a1 a2 from rfl]
 cases h0:zci a0 a1 a2
 .rfl
 .refine zcB rfl (must rfl ?_);rw[show zL a3 0 3=hasB a3 4 from z9Y a3]
  cases h1:hasB a3 4
  .rfl
  .refine zcB rfl (must rfl ?_);rw[show zL a4 0 99=win a4 0 99 from rfl]
   cases h2:win a4 0 99
   .rfl
   .have key:=z5b (c:=a3) (v:=a4) (o:=fun H=>[.agg (zbc H),.one (.b true)]) hs h0;exact zcB rfl (show _=_ from key)
theorem zH0:vJ 198 zxW:=kF5 zQf zk zbT zcY (zq []) zOK
def z1p:zO:=[(198,zxW)]++z1o
theorem z1q:zG z1p:=zh zH0 zQf
def z1r:zO:=z1p
theorem zB1:zG z1r:=z1q
theorem z2s (h:Host)(b:List Entry)(m g page need:Int)(io:Bool):(lookOf h b m g page need io).2.2=zbJ h m g page need:=by
 cases hl:zbJ h m g page need
 .rw [zgX hl]
 .rw [zIE hl];unfold zfQ zed;generalize zht b m g page need=x;cases x
  .generalize zd3 _ m g page need=y;cases y<;>rfl
  .rfl
theorem z8q {h:Host}{m g page need:Int}(b:List Entry)(io:Bool)(hs:SmH h)(hl:zbJ h m g page need=true):SmM (lookOf h b m g page need io).1.Memory:=by
 have hg:zbE h m g=true:=by
  unfold zbJ at hl;cases h1:zbE h m g
  .rw [h1]at hl;cases hl
  .rfl
 exact (ztf hs hg).shape.1.1
def zCu (h:Host)(m g a n:Int):Host×Int×Bool:=lookOf h h.IoBuffer m g (zW a) n true
def zgG (h:Host)(m g a v:Int):Bool:=bif win a 0 15 then (cond (win v 0 99) (zbJ h m g (zW a) 2) false) else false
def zpu (h:Host)(m g a v:Int):Host:=bif zgG h m g a v then { (zCu h m g a 2).1 with Memory:=zbv (zCu h m g a 2).1.Memory (zCu h m g a 2).2.1 (zcG a) v } else h
def zfM (h:Host)(m g a:Int):Bool:=bif win a 0 15 then zbJ h m g (zW a) 1 else false
def zm4 (h:Host)(m g a:Int):Host:=bif zfM h m g a then (zCu h m g a 1).1 else h
def zrj (h:Host)(m g a:Int):Int:=bif zfM h m g a then cellAt (zCu h m g a 1).1.Memory (zCu h m g a 1).2.1 (zcG a) else 0
@[simp] abbrev zwC (h:Host)(m g a v:Int):Bool:=pc (zb2 h)
@[simp] abbrev zqN (h:Host)(m g a v:Int):Host:=zpu h m g a v
@[simp] abbrev zqO (h:Host)(m g a v:Int):Bool:=zgG h m g a v
@[simp] abbrev zuq (h:Host)(m g a:Int):Bool:=pc (zb2 h)
@[simp] abbrev zoY (h:Host)(m g a:Int):Host:=zm4 h m g a
@[simp] abbrev zoZ (h:Host)(m g a:Int):Int:=zrj h m g a
@[simp] abbrev zo0 (h:Host)(m g a:Int):Bool:=zfM h m g a
def zAq:Run:=rF5 dH dI dI dI dI fun b c d e f=>(zwC b c d e f,[aH (zqN b c d e f),aB (zqO b c d e f)])
def zFU (N:Nat)(a0:Host)(a1 a2:Int)(a3 a4:Int):OA:=
 let y1:=(zu a0);let y2:=(zj1 y1 y1.IoBuffer a1 a2 (zcD a3) 2 true);let y0:=(zeV y1 y1.IoBuffer a1 a2 (zcD a3) 2 true); (oN (zbG a0) (oN (zJ a3 0 15) (cond (nB (zL a3 0 15)) (some [(aH y1),(aB false)]) (oN (zJ a4 0 99) (cond (nB (zL a4 0 99)) (some [(aH y1),(aB false)]) (oN (zgd a3) (oN (zj2 y1 y1.IoBuffer a1 a2 (zcD a3) 2 true) (cond (nB (zgO y1 y1.IoBuffer a1 a2 (zcD a3) 2 true)) (some [(aH y0),(aB false)]) (oN (ziA a3) (oN (ziF y0.Memory y2 (zee a3) a4) (some [(aH ({ y0 with Memory:=(zji y0.Memory y2 (zee a3) a4) }:Host)),(aB true)])))))))))))
theorem zRX (a0:Host)(a1 a2:Int)(a3 a4:Int)(hc:zwC a0 a1 a2 a3 a4=true):∃N,zFU N a0 a1 a2 a3 a4=some [aH (zqN a0 a1 a2 a3 a4),aB (zqO a0 a1 a2 a3 a4)]:=by
 have hs:=(zK a0).1 (zF.1 hc);refine ⟨0,?_⟩;unfold zFU zqN zqO zpu zgG oN nB
 conv=>zeta
 refine must hc (must rfl ?_);rw[show zL a3 0 15=win a3 0 15 from rfl]
 cases h1:win a3 0 15
 .rfl
 .refine zcB rfl (must rfl ?_);rw[show zL a4 0 99=win a4 0 99 from rfl]
  cases h2:win a4 0 99
  .rfl
  .refine zcB rfl (must rfl (must hc ?_));rw[show zgO (zu a0) (zu a0).IoBuffer a1 a2 (zcD a3) 2 true=zbJ a0 a1 a2 (zW a3) 2 from z2s _ _ _ _ _ _ _]
   cases h3:zbJ a0 a1 a2 (zW a3) 2
   .rw [show zeV (zu a0) (zu a0).IoBuffer a1 a2 (zcD a3) 2 true=a0 from congrArg Prod.fst (zgX h3)]
    rfl
   .exact zcB rfl (must rfl (must (zU (z8q a0.IoBuffer true hs h3)) rfl))
theorem zKW:vJ 201 zAq:=kF5 zB1 zk zbT zcY (zq []) zRX
def zxY:Run:=rF4 dH dI dI dI fun b c d e=>(zuq b c d e,[aH (zoY b c d e),aI (zoZ b c d e),aB (zo0 b c d e)])
def zBC (N:Nat)(a0:Host)(a1 a2 a3:Int):OA:=
 let y1:=(zu a0);let y2:=(zj1 y1 y1.IoBuffer a1 a2 (zcD a3) 1 true);let y0:=(zeV y1 y1.IoBuffer a1 a2 (zcD a3) 1 true); (oN (zbG a0) (oN (zJ a3 0 15) (cond (nB (zL a3 0 15)) (some [(aH y1),(aI 0),(aB false)]) (oN (zgd a3) (oN (zj2 y1 y1.IoBuffer a1 a2 (zcD a3) 1 true) (cond (nB (zgO y1 y1.IoBuffer a1 a2 (zcD a3) 1 true)) (some [(aH y0),(aI 0),(aB false)]) (oN (ziA a3) (oN (zsM y0.Memory y2 (zee a3)) (some [(aH y0),(aI (znj y0.Memory y2 (zee a3))),(aB true)])))))))))
theorem zOM (a0:Host)(a1 a2 a3:Int)(hc:zuq a0 a1 a2 a3=true):∃N,zBC N a0 a1 a2 a3=some [aH (zoY a0 a1 a2 a3),aI (zoZ a0 a1 a2 a3),aB (zo0 a0 a1 a2 a3)]:=by
 have hs:=(zK a0).1 (zF.1 hc);refine ⟨0,?_⟩;unfold zBC zoY zoZ zo0 zm4 zrj zfM oN nB
 conv=>zeta
 refine must hc (must rfl ?_);rw[show zL a3 0 15=win a3 0 15 from rfl]
 cases h1:win a3 0 15
 .rfl
 .refine zcB rfl (must rfl (must hc ?_));rw[show zgO (zu a0) (zu a0).IoBuffer a1 a2 (zcD a3) 1 true=zbJ a0 a1 a2 (zW a3) 1 from z2s _ _ _ _ _ _ _]
  cases h3:zbJ a0 a1 a2 (zW a3) 1
  .rw [show zeV (zu a0) (zu a0).IoBuffer a1 a2 (zcD a3) 1 true=a0 from congrArg Prod.fst (zgX h3)]
   rfl
  .exact zcB rfl (must rfl (must rfl rfl))
theorem zH2:vJ 202 zxY:=kF4 zB1 zk zbT zcY (zq []) zOM
def z1s:zO:=[(201,zAq),(202,zxY)]++z1r
theorem z1t:zG z1s:=zh zKW (zh zH2 zB1)
end
end Go.Proofs.YtdaahiceaagpdaaGreat.E
