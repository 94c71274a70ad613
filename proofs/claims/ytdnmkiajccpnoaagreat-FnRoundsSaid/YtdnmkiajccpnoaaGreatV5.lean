/- What is proved here: a part of the proof that the statement of this claim holds (several texts of wip/, laid together). -/
import Derived.Test.YtdnmkiajccpnoaaGreatV4
namespace Go.Proofs.YtdnmkiajccpnoaaGreat.E
open Go
set_option linter.unusedVariables false
set_option maxRecDepth 100000
set_option linter.unusedSimpArgs false
set_option linter.unusedSectionVars false
noncomputable section
def cz (l:List Slot):Nat:=l.countP fun s=>ieq s.Page 0
def zH:List Mon->Nat
 | []=>0
 | m :: l=>cz m.Outer+zH l
def bit (u:List Bool):Nat:=bif ix u 0 false then 1 else 0
theorem zxm (s:Slot)(l:List Slot):cz (s :: l)=cz l+bif ieq s.Page 0 then 1 else 0:=by
 unfold cz;rw[uY];cases ieq s.Page 0<;>rfl
theorem zbal {u:List Bool}{p:Int}(hp:0<=p)(hlt:p.toNat<u.length)(x:Bool):ix (up u p x) 0 false=bif ieq p 0 then x else ix u 0 false:=by
 unfold ix up;cases h:ieq p 0
 .have:p≠0:=by simpa [ieq] using h
  have hne:p.toNat≠0:=by omega
  simp[List.getD,jC,hne]
 .have:p=0:=by simpa [ieq] using h
  subst this;have hlt:0<u.length:=hlt;simp[List.getD,jC,hlt]
theorem zEn:∀(l:List Slot) (u u':List Bool),(∀s∈l,s.Page<12)->u.length=12->zgz l u=some u'->cz l+bit u=bit u'
 | [],u,u',_,_,h=>by cases h;simp[cz]
 | s :: l,u,u',hs,hu,h=>by
  simp only[zgz]at h;rw[zxm];cases h1:ilt s.Page 0
  .have h1:=jP h1;rw[show ilt s.Page 0=false from qH (by omega)]at h
   simp only[cF]at h;cases h2:ix u s.Page false
   .rw [h2]at h;simp only[cF]at h;have hlt:s.Page.toNat<u.length:=by have:=hs s (by simp);omega
    have ih:=zEn l _ u' (fun t ht=>hs t (by simp[ht])) (by simpa using hu) h
    have e:bit (up u s.Page true)=bif ieq s.Page 0 then 1 else bit u:=by
     unfold bit;rw[zbal (by omega) hlt]
     cases ieq s.Page 0<;>rfl
    rw[e] at ih;cases h3:ieq s.Page 0
    .rw [h3] at ih;simp only[cF] at ih ⊢;omega
    .have h4:s.Page=0:=by simpa [ieq] using h3
     rw[h4]at h2;have:bit u=0:=by unfold bit;rw[h2];rfl
     rw[h3] at ih;simp only[cT] at ih ⊢;omega
   .rw [h2]at h;cases h
  .have h1':=qD h1;rw[h1]at h;simp only[cT]at h;have ih:=zEn l u u' (fun t ht=>hs t (by simp[ht])) hu h
   have:ieq s.Page 0=false:=by simp[ieq];omega
   rw[this];simpa using ih
theorem zUE:∀(l:List Mon) (u:List Bool),u.length=12->zio l u=true->zH l+bit u<=1
 | [],u,_,_=>by unfold zH bit;cases ix u 0 false<;>simp
 | m :: l,u,hu,h=>by
  simp only[zio]at h;cases h1:zd3 m
  .rw [h1]at h;cases h
  .rw [h1]at h;simp only[cT]at h;cases h2:zgz m.Outer u with
   | none=>rw[h2]at h;cases h
   | some u' =>
    rw[h2]at h;have e:=zEn _ _ _ (zER (zmo h1)) hu h2;have ih:=zUE l u' ((zpd _ _ _ h2).trans hu) h;simp only[zH];omega
theorem z2F:∀(l:List Slot) (b:Nat) (s:Slot),l[b]?=some s->s.Page=0->cz (l.set b noSlot)+1=cz l
 | [],b,s,h,_=>by simp at h
 | t :: l,0,s,h,hs=>by
  simp only[qG,qC]at h;subst h;rw[List.set_cons_zero,zxm,zxm];have:ieq t.Page 0=true:=by simp[ieq,hs]
  rw[this];rfl
 | t :: l,b+1,s,h,hs=>by
  rw[List.set_cons_succ,zxm,zxm];have:=z2F l b s (by simpa using h) hs
  omega
theorem zXj:∀(l:List Mon) (a:Nat) (x y:Mon),l[a]?=some x->zH (l.set a y)+cz x.Outer=zH l+cz y.Outer
 | [],a,x,y,h=>by simp at h
 | m :: l,0,x,y,h=>by
  simp only[qG,qC]at h;subst h;rw[List.set_cons_zero];simp only[zH];omega
 | m :: l,a+1,x,y,h=>by
  rw[List.set_cons_succ];have:=zXj l a x y (by simpa using h)
  simp only[zH];omega
theorem z0p {l:List Slot}(h:cz l=0):zn2 l 0=none:=by
 unfold zn2;rw[List.findIdx?_eq_none_iff];intro s hs;have:=(uT.1 h) s hs;simpa using this
theorem zMA:∀(l:List Mon) (i:Nat),zH l=0->zhN 0 l i=(-1,-1)
 | [],_,_=>rfl
 | m :: l,i,h=>by
  simp only[zH]at h;simp only[zhN];rw[z0p (by omega)]
  exact zMA l (i+1) (by omega)
theorem z0q {l:List Slot}{k:Nat}(h:zn2 l 0=some k):∃s,l[k]?=some s/\s.Page=0:=by
 unfold zn2 at h;rw[uN]at h;obtain ⟨hlt,h1,_⟩:=h;exact ⟨l[k],qB hlt,by simpa [ieq] using h1⟩
theorem zGT:∀(l:List Mon) (i:Nat),zhN 0 l i=(-1,-1)\/∃a b x s,zhN 0 l i=(((i+a:Nat):Int),((b:Nat):Int))/\l[a]?=some x/\x.Outer[b]?=some s/\s.Page=0
 | [],_=>.inl rfl
 | m :: l,i=>by
  simp only[zhN];cases h:zn2 m.Outer 0 with
  | none =>
   rcases zGT l (i+1) with h1|⟨a,b,x,s,h1,h2,h3,h4⟩
   .exact .inl h1
   .refine .inr ⟨a+1,b,x,s,?_,by simpa using h2,h3,h4⟩
    have e:i+1+a=i+(a+1):=by omega
    rw[h1,e]
  | some k =>
   obtain ⟨s,h1,h2⟩:=z0q h;exact .inr ⟨0,k,m,s,rfl,rfl,h1,h2⟩
def Fit (h:Host):Prop:=Shape h/\0<h.Memory.length/\zH h.Mons<=1
theorem zGM {h:Host}(hm:0<h.Memory.length)(ho:ilt (zbw h 0).1 0=true):inb 0 (ln (zb1 h))=true:=by
 unfold zb1;obtain ⟨n,hn⟩:∃n,h.Memory.length=n+1:=⟨h.Memory.length-1,by omega⟩
 rw[hn];simp only[zwB];rw[show ilt (zbw h ((0:Nat):Int)).1 0=true from ho]
 exact qJ (by simp only[cT,ln,qV];omega)
theorem z0v {h:Host}(hm:0<h.Memory.length)(h0:ieq (ln (zb1 h)) 0=true):ilt (zbw h 0).1 0=false:=by
 cases ho:ilt (zbw h 0).1 0
 .rfl
 .have h1:=qD (zGM hm ho);have h2:ln (zb1 h)=0:=by simpa [ieq] using h0
  omega
def zcV (h:Host):Host:=bif ieq (ln (zb1 h)) 0 then zdl h (zbw h 0).1 (zbw h 0).2 else h
structure Room (h r:Host):Prop where
 shape:Shape r
 free:inb 0 (ln (zb1 r))=true
 len:r.Mons.length=h.Mons.length
 outer:∀m,(ix r.Mons m mZ).Outer.length=8\/True
theorem z3E {h:Host}(hf:Fit h)(h0:ieq (ln (zb1 h)) 0=true):∃(a b:Nat) (x:Mon) (s:Slot),zbw h 0=((a:Int),(b:Int))/\h.Mons[a]?=some x/\x.Outer[b]?=some s/\s.Page=0:=by
 have h1:=z0v hf.2.1 h0;have e:zbw h 0=zhN 0 h.Mons 0:=rfl;rcases zGT h.Mons 0 with h2|⟨a,b,x,s,h2,h3⟩
 .rw [e,h2]at h1;cases h1
 .exact ⟨a,b,x,s,by rw[e,h2,jV],h3⟩
theorem zEK {h:Host}(hf:Fit h)(h0:ieq (ln (zb1 h)) 0=true):hasB (zbw h 0).1 (ln h.Mons)=true/\hasB (zbw h 0).2 8=true:=by
 obtain ⟨a,b,x,s,h1,h2,h3,h4⟩:=z3E hf h0;rw[h1];have ha:=(qA.1 h2).1;have hb:=(qA.1 h3).1;have hx:=hf.1.2 x (qL h2);refine ⟨qJ (by simp only[ln];omega),qJ ?_⟩
 have:=hx.1
 show 0<=(b:Int)/\(b:Int)<8
 omega
theorem room {h:Host}(hf:Fit h):Room h (zcV h):=by
 unfold zcV;cases h0:ieq (ln (zb1 h)) 0
 .refine ⟨hf.1,qJ ?_,rfl,fun _=>.inr trivial⟩;have:ln (zb1 h)≠0:=by simpa [ieq] using h0
  show 0<=(0:Int)/\(0:Int)<ln (zb1 h)
  simp only[ln] at *;omega
 .obtain ⟨hm,hp⟩:=zEK hf h0;obtain ⟨a,b,x,s,h1,h2,h3,h4⟩:=z3E hf h0;simp only[cT];rw[h1]at hm hp ⊢;have ha:=(qA.1 h2).1;have hb:=(qA.1 h3).1;have hxa:ix h.Mons (a:Int) mZ=x:=by rw[zbd ha];exact (qA.1 h2).2
  have hmons:=(zgb (zeG h (a:Int) (b:Int)) (a:Int) (b:Int) noSlot).1;have ex:ix (zeG h (a:Int) (b:Int)).Mons (a:Int) mZ={ x with Out:=up x.Out (b:Int) (zca h.Memory (ix x.Outer (b:Int) sZ).Page) }:=by
   unfold zeG;rw[zdO ha,hxa]
  obtain ⟨y,hM,hy⟩:∃y,(zdl h (a:Int) (b:Int)).Mons=h.Mons.set a y/\y.Outer=x.Outer.set b noSlot:=by
   unfold zdl;rw[hmons,ex];unfold zeG;rw[zwi];exact ⟨_,by simp[up];rfl,by simp[up]⟩
  have hz:zH (zdl h (a:Int) (b:Int)).Mons=0:=by
   have e1:=zXj h.Mons a x y h2;have e2:=z2F x.Outer b s h3 h4;have e3:=hf.2.2;rw[hM];rw[hy] at e1;omega
  have hmem:(zdl h (a:Int) (b:Int)).Memory=h.Memory:=(zgb (zeG h (a:Int) (b:Int)) (a:Int) (b:Int) noSlot).2;refine ⟨zMW hf.1 hm,zGM (by rw[hmem];exact hf.2.1) ?_,by rw[hM];simp,fun _=>.inr trivial⟩
  have e:zbw (zdl h (a:Int) (b:Int)) 0=zhN 0 (zdl h (a:Int) (b:Int)).Mons 0:=rfl;rw[e,zMA _ _ hz];rfl
theorem zWF {m:List (List Int)}{p:Int}{c:List Int}(h:SmM m)(hc:c.length<=1048576):SmM (zhm m p c):=by
 unfold zhm;cases hasB p (ln m)
 .exact h
 .cases zb6 c
  .exact h
  .exact zM4 h hc
def landing (r:Host)(m p to:Int):Host:={ r with Memory:=zhm r.Memory to (ix (ix r.Mons m mZ).Out p []),Mons:=up r.Mons m { ix r.Mons m mZ with Out:=up (ix r.Mons m mZ).Out p [] } }
def zeP (r:Host)(m p to:Int):Host:=zb7 (landing r m p to) m p ⟨to,3⟩
def fetched (h:Host)(m p:Int):Host:=zeP (zcV h) m p (ix (zb1 (zcV h)) 0 0)
theorem zWH {r:Host}{m p:Int}(hr:Shape r)(hm:hasB m (ln r.Mons)=true)(hp:hasB p 8=true):(ix (ix r.Mons m mZ).Out p []).length<=1048576:=by
 obtain ⟨g1,g2⟩:=zcc hr hm;exact g1.2.1.2 _ (zbv (zdk g2.2.1 hp) _)
theorem zsi {r:Host}{m p to:Int}(hr:Shape r)(hm:hasB m (ln r.Mons)=true)(hp:hasB p 8=true):Shape (landing r m p to):=by
 obtain ⟨g1,g2⟩:=zcc hr hm;exact zRt (h:={ r with Mons:=up r.Mons m { ix r.Mons m mZ with Out:=up (ix r.Mons m mZ).Out p [] } }) (zic (x:={ ix r.Mons m mZ with Out:=up (ix r.Mons m mZ).Out p [] }) hr ⟨g1.1,zM4 g1.2.1 (by simp),g1.2.2⟩ ⟨g2.1,by simpa using g2.2.1,g2.2.2⟩) (zWF hr.1.1 (zWH hr hm hp))
theorem zS6 {r:Host}{m p to:Int}(hr:Shape r)(hm:hasB m (ln r.Mons)=true)(hp:hasB p 8=true):Shape (zeP r m p to):=zsj (zep hm) (zsi hr hm hp)
theorem zpI {h:Host}(hf:Fit h){m:Int}(hm:hasB m (ln h.Mons)=true):hasB m (ln (zcV h).Mons)=true:=by
 rw[ln,(room hf).len];exact hm
theorem zjF {h:Host}{m p:Int}(hf:Fit h)(hm:hasB m (ln h.Mons)=true)(hp:hasB p 8=true):Shape (fetched h m p)/\hasB m (ln (fetched h m p).Mons)=true :=
 ⟨zS6 (room hf).shape (zpI hf hm) hp,zGN (zep (zpI hf hm))⟩
@[simp] abbrev zwc (h:Host)(m p:Int):Bool:=pc (Fit h/\hasB m (ln h.Mons)=true/\hasB p 8=true)
@[simp] abbrev zyr (h:Host)(m p:Int):Host:=fetched h m p
def zwI:List AV->Option (Bool×List AV)
 | [.agg [.s (.sl .int) b,.s .mon c,.s .entry d,.s .entry e],.one (.i .i64 f),.one (.i .i64 g)]=>some ((zwc (⟨b,c,d,e⟩:Host) f g),[aH (zyr (⟨b,c,d,e⟩:Host) f g)])
 | _=>none
def zB7 (N:Nat)(a0:Host)(a1 a2:Int):OA:=
 let y6:=(ix (ze9 a0) 0 0);let y2:=(ix a0.Mons a1 zf);let y0:=(zzK a0 (zgn a0 0) (zhQ a0 0));let y5:=(ix (ze9 y0) 0 0);let y1:=(ix y0.Mons a1 zf); (oN (zlC a0) (cond (ieq (ln (ze9 a0)) 0) (oN (zkc a0 0) (oN (zsY a0 (zgn a0 0) (zhQ a0 0)) (oN (zlC y0) (oN (inb 0 (ln (ze9 y0))) (oN (inb a1 (ln y0.Mons)) (oN (inb a2 (ln y1.Out)) (oN (zkM y0.Memory y5 (ix y1.Out a2 [])) (oN (inb a1 (ln y0.Mons)) (oN (inb a2 (ln y1.Out)) (share (up y0.Mons a1 ({ y1 with Out:=(up y1.Out a2 []) }:Mon)) (fun x4=>let y3:=({ y0 with Memory:=(zjj y0.Memory y5 (ix y1.Out a2 [])),Mons:=x4 }:Host); (oN (ze1 y3 a1 a2 (⟨y5,3⟩:Slot)) (some [(aH (zgP y3 a1 a2 (⟨y5,3⟩:Slot)))]))))))))))))) (oN (zlC a0) (oN (inb 0 (ln (ze9 a0))) (oN (inb a1 (ln a0.Mons)) (oN (inb a2 (ln y2.Out)) (oN (zkM a0.Memory y6 (ix y2.Out a2 [])) (oN (inb a1 (ln a0.Mons)) (oN (inb a2 (ln y2.Out)) (share (up a0.Mons a1 ({ y2 with Out:=(up y2.Out a2 []) }:Mon)) (fun x4=>let y4:=({ a0 with Memory:=(zjj a0.Memory y6 (ix y2.Out a2 [])),Mons:=x4 }:Host); (oN (ze1 y4 a1 a2 (⟨y6,3⟩:Slot)) (some [(aH (zgP y4 a1 a2 (⟨y6,3⟩:Slot)))])))))))))))))
theorem z0X (N:Nat)(a0:Host)(a1 a2:Int):zEy (cQ zqe zop z04 z1H) (zq []) N 12 254 [true,true,true,true,false,false] 1 1 [[0],[1],[2],[4],[7]] .mon [aH a0,aI a1,aI a2]=zB7 N a0 a1 a2:=by kernel_rfl
theorem zX4 (a0:Host)(a1 a2:Int)(hb:zbD big [aH a0,aI a1,aI a2])(hc:zwc a0 a1 a2=true):∃N,zB7 N a0 a1 a2=some [aH (zyr a0 a1 a2)]:=by
 obtain ⟨hf,hm,hp⟩:=zD.1 hc;have tail:∀r,Shape r->inb 0 (ln (zb1 r))=true->hasB a1 (ln r.Mons)=true->(cond (zlC r) (cond (inb 0 (ln (ze9 r))) (cond (inb a1 (ln r.Mons)) (cond (inb a2 (ln (ix r.Mons a1 zf).Out)) (cond (zkM r.Memory (ix (ze9 r) 0 0) (ix (ix r.Mons a1 zf).Out a2 [])) (cond (inb a1 (ln r.Mons)) (cond (inb a2 (ln (ix r.Mons a1 zf).Out)) (share (up r.Mons a1 ({ (ix r.Mons a1 zf) with Out:=(up (ix r.Mons a1 zf).Out a2 []) }:Mon)) (fun x4=>(cond (ze1 ({ r with Memory:=(zjj r.Memory (ix (ze9 r) 0 0) (ix (ix r.Mons a1 zf).Out a2 [])),Mons:=x4 }:Host) a1 a2 (⟨(ix (ze9 r) 0 0),3⟩:Slot)) (some [(AV.agg (zba (zgP ({ r with Memory:=(zjj r.Memory (ix (ze9 r) 0 0) (ix (ix r.Mons a1 zf).Out a2 [])),Mons:=x4 }:Host) a1 a2 (⟨(ix (ze9 r) 0 0),3⟩:Slot))))]) none))) none) none) none) none) none) none) none)=some [AV.agg (zba (zeP r a1 a2 (ix (zb1 r) 0 0)))]:=by
  intro r hr hfree hrm;obtain ⟨g1,g2⟩:=zcc hr hrm;have hL:=zsi (to:=ix (zb1 r) 0 0) hr hrm hp;obtain ⟨k,rfl,hk⟩:=zdJ (n:=r.Mons.length) hrm;refine must (zbb hr.1.1.1) (must hfree (must (zx hrm) (must (zx (zdk g2.2.1 hp)) (must (zbb ⟨hr.1.1,zWH hr hrm hp⟩) (must (zx hrm) (must (zx (zdk g2.2.1 hp)) (shr (must (zbb ⟨(zJ _).2 hL.1,zep hrm,?_,?_⟩) rfl))))))))
  .simp only [zdO hk];exact zdk g2.1 hp
  .simp only [zdO hk];exact u1 g2.2.2.2
 have hR:=room hf;have hrm:=zpI hf hm;refine ⟨0,?_⟩;unfold zB7 zyr fetched oN
 conv=>zeta
 refine must (zbb hf.1.1.1.1) ?_;cases h0:ieq (ln (ze9 a0)) 0
 .have er:zcV a0=a0:=by unfold zcV;rw[show ieq (ln (zb1 a0)) 0=false from h0];rfl
  rw[er]at hR hrm ⊢;exact tail a0 hR.shape hR.free hrm
 .obtain ⟨o1,o2⟩:=zEK hf h0;have er:zcV a0=zdl a0 (zbw a0 0).1 (zbw a0 0).2:=by unfold zcV;rw[show ieq (ln (zb1 a0)) 0=true from h0];rfl
  rw[er]at hR hrm ⊢;exact must rfl (must rfl (must (zbb ⟨hf.1,o1,o2⟩) (tail _ hR.shape hR.free hrm)))
theorem zR3:zd6 Tryz.prog 254 [true,true,true,true,false,false] (some (1,1,[[0],[1],[2],[4],[7]])) zwI:=by
 refine zlh (kt:=.mon) (zcT zg8 zk zPJ zPQ) (zd2 (by kernel_rfl)) (by kernel_rfl) ?_
 intro avs rs hl hr h;have hb:=zij hr;unfold zwI at h;split at h
 .obtain ⟨hc,rfl⟩:=zdS h;obtain ⟨N,hN⟩:=zX4 _ _ _ (by exact hb) hc
  exact ⟨⟨_,rfl⟩,rfl,_,N,12,(z0X N _ _ _ ).trans hN⟩
 .cases h
@[simp] abbrev zrS (h:Host):Bool:=pc (Shape h/\hasB (zbw h 0).1 (ln h.Mons)=true/\hasB (zbw h 0).2 8=true)
@[simp] abbrev zrT (h:Host):Host:=zdl h (zbw h 0).1 (zbw h 0).2
def zm6:List CV->List AV->Option (Bool×List CV×List AV)
 | [.s (.sl .int) b,.s .mon c,.s .entry d,.s .entry e],[]=>some ((zrS (⟨b,c,d,e⟩:Host)),zba (zrT (⟨b,c,d,e⟩:Host)),[])
 | _,_=>none
def zrH (N:Nat)(c:Host)  : OA :=
 (oN (zj8 c 0) (oN (zIJ c (zgl c 0) (zhJ c 0)) (some [(aH (zIK c (zgl c 0) (zhJ c 0)))])))
theorem zPE (N:Nat)(c:Host)  : zfN (cQ zqe zop z04 z1H) (zq []) N 12 181 [true,true,true,true] (zba c) []=zrH N c:=by kernel_rfl
theorem zMa (c:Host)(hb:zbD big (.agg (zba c) :: []))(hc:zrS c=true):∃N,zrH N c=some (.agg (zba (zrT c)) :: []):=by
 have hs:=zD.1 hc;refine ⟨0,?_⟩;unfold zrH oN;exact must rfl (must (zbb hs) rfl)
theorem zE6:zdx Tryz.prog 181 [true,true,true,true] zm6:=by
 refine zbT (zcT zg8 zk zPJ zPQ) (zd2 (by kernel_rfl)) ?_
 intro cs avs cs' rs hl hr h;have hb:=zce hr;unfold zm6 at h;split at h
 .obtain ⟨hc,rfl,rfl⟩:=zct h;obtain ⟨N,hN⟩:=zMa _ (by exact hb) hc
  exact ⟨rfl,_,N,12,(zPE N _ ).trans hN⟩
 .cases h
def z5Q:zdy:=[(181,([true,true,true,true],zm6))]++z04
theorem zZm:zcv z5Q:=zdV zPJ (by
 intro x hx;simp only[qI,qU,or_false]at hx;rcases hx with rfl
 .exact zE6)
def zWP:ze4:=[(254,([true,true,true,true,false,false],(some (1,1,[[0],[1],[2],[4],[7]])),zwI))]++z1H
theorem zEU:zd7 zWP:=zp5 zPQ (by
 intro x hx;simp only[qI,qU,or_false]at hx;rcases hx with rfl
 .exact zR3)
@[simp] abbrev zCN (h:Host)(m p:Int):Bool:=pc (Fit h/\hasB m (ln h.Mons)=true/\hasB p 8=true)
@[simp] abbrev zvh (h:Host)(m p:Int):Host:=fetched h m p
theorem zZZ {r:Host}{m p to:Int}(hr:Shape r)(hm:hasB m (ln r.Mons)=true):zzj { landing r m p to with Mons:=up (landing r m p to).Mons m { ix (landing r m p to).Mons m mZ with Outer:=up (ix (landing r m p to).Mons m mZ).Outer p ⟨to,3⟩ } } m p (ix (ix (landing r m p to).Mons m mZ).Outer p sZ)=zeP r m p to:=by
 obtain ⟨g1,g2⟩:=zcc hr hm;obtain ⟨k,rfl,hk⟩:=zdJ (n:=r.Mons.length) hm;refine zzP (h:=landing r (k:Int) p to) (by simpa [landing] using hk) ?_
 unfold landing;simp only[zdO hk];exact g2.2.2.2
theorem zYC {r:Host}{m p to:Int}(hr:Shape r)(hm:hasB m (ln r.Mons)=true)(hp:hasB p 8=true):Shape { landing r m p to with Mons:=up (landing r m p to).Mons m { ix (landing r m p to).Mons m mZ with Outer:=up (ix (landing r m p to).Mons m mZ).Outer p ⟨to,3⟩ } }:=by
 have hL:=zsi (to:=to) hr hm hp;obtain ⟨q1,q2⟩:=zcc hL (zep hm);exact zic hL ⟨by simpa using q1.1,q1.2⟩ ⟨by simpa using q2.1,q2.2⟩
def zt4:List CV->List AV->Option (Bool×List CV×List AV)
 | [.s (.sl .int) b,.s .mon c,.s .entry d,.s .entry e],[.one (.i .i64 f),.one (.i .i64 g)]=>some ((zCN (⟨b,c,d,e⟩:Host) f g),zba (zvh (⟨b,c,d,e⟩:Host) f g),[])
 | _,_=>none
def zBJ (N:Nat)(c:Host)(a0 a1:Int):OA:=
 let y8:=(ix (zfG c) 0 0);let y6:=(zrT c);let y7:=(ix (zfG y6) 0 0);let y1:=(ix c.Mons a0 zf);let y0:=(ix y6.Mons a0 zf); (oN (zli c) (cond (ieq (ln (zfG c)) 0) (oN (zrS c) (oN (inb a0 (ln y6.Mons)) (oN (zli y6) (oN (inb 0 (ln (zfG y6))) (oN (inb a1 (ln y0.Out)) (oN (zkw y6.Memory y7 (ix y0.Out a1 [])) (oN (inb a1 (ln y0.Out)) (share (up y6.Mons a0 ({ y0 with Out:=(up y0.Out a1 []) }:Mon)) (fun x4=>let y2:=(ix x4 a0 zf);let y9:=(ix y2.Outer a1 zN); (oN (inb a1 (ln y2.Outer)) (oN (inb a1 (ln y2.Outer)) (share (up x4 a0 ({ y2 with Outer:=(up y2.Outer a1 (⟨y7,3⟩:Slot)) }:Mon)) (fun x5=>let y4:=({ y6 with Memory:=(zi9 y6.Memory y7 (ix y0.Out a1 [])),Mons:=x5 }:Host); (oN (zej y4 a0 a1 y9) (some [(aH (zek y4 a0 a1 y9))]))))))))))))))) (oN (inb a0 (ln c.Mons)) (oN (zli c) (oN (inb 0 (ln (zfG c))) (oN (inb a1 (ln y1.Out)) (oN (zkw c.Memory y8 (ix y1.Out a1 [])) (oN (inb a1 (ln y1.Out)) (share (up c.Mons a0 ({ y1 with Out:=(up y1.Out a1 []) }:Mon)) (fun x4=>let y3:=(ix x4 a0 zf);let y10:=(ix y3.Outer a1 zN); (oN (inb a1 (ln y3.Outer)) (oN (inb a1 (ln y3.Outer)) (share (up x4 a0 ({ y3 with Outer:=(up y3.Outer a1 (⟨y8,3⟩:Slot)) }:Mon)) (fun x5=>let y5:=({ c with Memory:=(zi9 c.Memory y8 (ix y1.Out a1 [])),Mons:=x5 }:Host); (oN (zej y5 a0 a1 y10) (some [(aH (zek y5 a0 a1 y10))]))))))))))))))))
theorem z0V (N:Nat)(c:Host)(a0 a1:Int):zfN (cQ zqe zop z5Q zWP) (zq []) N 12 99 [true,true,true,true] (zba c) [aI a0,aI a1]=zBJ N c a0 a1:=by kernel_rfl
theorem zXP (c:Host)(a0 a1:Int)(hb:zbD big (.agg (zba c) :: [aI a0,aI a1]))(hc:zCN c a0 a1=true):∃N,zBJ N c a0 a1=some (.agg (zba (zvh c a0 a1)) :: []):=by
 obtain ⟨hf,hm,hp⟩:=zD.1 hc;have tail:∀r,Shape r->inb 0 (ln (zb1 r))=true->hasB a0 (ln r.Mons)=true->(cond (inb a0 (ln r.Mons)) (cond (zli r) (cond (inb 0 (ln (zfG r))) (cond (inb a1 (ln (ix r.Mons a0 zf).Out)) (cond (zkw r.Memory (ix (zfG r) 0 0) (ix (ix r.Mons a0 zf).Out a1 [])) (cond (inb a1 (ln (ix r.Mons a0 zf).Out)) (share (up r.Mons a0 ({ (ix r.Mons a0 zf) with Out:=(up (ix r.Mons a0 zf).Out a1 []) }:Mon)) (fun x4=>(cond (inb a1 (ln (ix x4 a0 zf).Outer)) (cond (inb a1 (ln (ix x4 a0 zf).Outer)) (share (up x4 a0 ({ (ix x4 a0 zf) with Outer:=(up (ix x4 a0 zf).Outer a1 (⟨(ix (zfG r) 0 0),3⟩:Slot)) }:Mon)) (fun x5=>(cond (zej ({ r with Memory:=(zi9 r.Memory (ix (zfG r) 0 0) (ix (ix r.Mons a0 zf).Out a1 [])),Mons:=x5 }:Host) a0 a1 (ix (ix x4 a0 zf).Outer a1 zN)) (some [(AV.agg (zba (zek ({ r with Memory:=(zi9 r.Memory (ix (zfG r) 0 0) (ix (ix r.Mons a0 zf).Out a1 [])),Mons:=x5 }:Host) a0 a1 (ix (ix x4 a0 zf).Outer a1 zN))))]) none))) none) none))) none) none) none) none) none) none)=some [AV.agg (zba (zeP r a0 a1 (ix (zb1 r) 0 0)))]:=by
  intro r hr hfree hrm;obtain ⟨g1,g2⟩:=zcc hr hrm;have hL:=zYC (to:=ix (zb1 r) 0 0) hr hrm hp;have hE:=zZZ (p:=a1) (to:=ix (zb1 r) 0 0) hr hrm;obtain ⟨k,rfl,hk⟩:=zdJ (n:=r.Mons.length) hrm;have hh:∀(x y:Mon),hasB (k:Int) (ln (up (up r.Mons (k:Int) x) (k:Int) y))=true:=fun x y=>by simpa [ln] using hrm
  have hi:inb a1 (ln (ix (up r.Mons (k:Int) { ix r.Mons (k:Int) mZ with Out:=up (ix r.Mons (k:Int) mZ).Out a1 [] }) (k:Int) mZ).Outer)=true:=by
   rw[zdO hk];exact zx (zdk g2.1 hp)
  refine must (zx hrm) (must (zbb hr.1.1.1) (must hfree (must (zx (zdk g2.2.1 hp)) (must (zbb ⟨hr.1.1,zWH hr hrm hp⟩) (must (zx (zdk g2.2.1 hp)) (shr (must hi (must hi (shr (must (zbb ⟨hL,hh _ _⟩) ?_))))))))));exact congrArg (fun x=>some [AV.agg (zba x)]) hE
 have hR:=room hf;have hrm:=zpI hf hm;refine ⟨0,?_⟩;unfold zBJ zvh fetched oN
 conv=>zeta
 refine must (zbb hf.1.1.1.1) ?_;cases h0:ieq (ln (zfG c)) 0
 .have er:zcV c=c:=by unfold zcV;rw[show ieq (ln (zb1 c)) 0=false from h0];rfl
  rw[er]at hR hrm ⊢;exact tail c hR.shape hR.free hrm
 .obtain ⟨o1,o2⟩:=zEK hf h0;have er:zcV c=zdl c (zbw c 0).1 (zbw c 0).2:=by unfold zcV;rw[show ieq (ln (zb1 c)) 0=true from h0];rfl
  rw[er]at hR hrm ⊢;exact must rfl (must (zbb ⟨hf.1,o1,o2⟩) (tail _ hR.shape hR.free hrm))
theorem zRO:zdx Tryz.prog 99 [true,true,true,true] zt4:=by
 refine zbT (zcT zg8 zk zZm zEU) (zd2 (by kernel_rfl)) ?_
 intro cs avs cs' rs hl hr h;have hb:=zce hr;unfold zt4 at h;split at h
 .obtain ⟨hc,rfl,rfl⟩:=zct h;obtain ⟨N,hN⟩:=zXP _ _ _ (by exact hb) hc
  exact ⟨rfl,_,N,12,(z0V N _ _ _ ).trans hN⟩
 .cases h
def z05:zdy:=[(99,([true,true,true,true],zt4))]++z5Q
theorem zPK:zcv z05:=zdV zZm (by
 intro x hx;simp only[qI,qU,or_false]at hx;rcases hx with rfl
 .exact zRO)
def zbt (h:Host)(m p:Int):Host:={ h with Mons:=up h.Mons m { ix h.Mons m mZ with Dirty:=up (ix h.Mons m mZ).Dirty p true } }
def opened (h:Host)(m p:Int):Host:=bif ieq (wand .i64 (ix (ix h.Mons m mZ).Outer p sZ).Rights 2) 0 then zb7 h m p ⟨(ix (ix h.Mons m mZ).Outer p sZ).Page,3⟩ else h
def zjb (h:Host)(m p n:Int):Host:=bif ieq (wand .i64 n 2) 0 then h else opened (zbt h m p) m p
def mended (h:Host)(m p n:Int):Host:=bif ieq (ix (ix h.Mons m mZ).Outer p sZ).Page (-1) then zjb (fetched h m p) m p n else zjb h m p n
theorem z8R {r:Int}(h0:0<=r)(h3:r<=3):enough r 2 = !ieq (wand .i64 r 2) 0:=by
 have:r=0\/r=1\/r=2\/r=3:=by omega
 rcases this with rfl|rfl|rfl|rfl<;>rfl
structure SlotFit (s:Slot):Prop where
 no:zcJ s noSlot=ieq s.Page (-1)
 lo:0<=s.Rights
 hi:s.Rights<=3
theorem z1A {s:Slot}{n:Int}(h:zdD s n=true):SlotFit s:=by
 refine ⟨zRv h,?_,?_⟩<;>unfold zdD at h<;>cases h1:zcJ s noSlot
 .rw [h1]at h;simp only[cF,zcZ]at h;have:=(zfl.1 h.2.2).1;omega
 .unfold zcJ at h1;rw[qE]at h1;have:s.Rights=0:=qD h1.2;omega
 .rw [h1]at h;simp only[cF,zcZ]at h;have:=(zfl.1 h.2.2).2;omega
 .unfold zcJ at h1;rw[qE]at h1;have:s.Rights=0:=qD h1.2;omega
theorem zmS {h:Host}{m p:Int}(hs:Shape h)(hm:hasB m (ln h.Mons)=true):Shape (zbt h m p):=by
 obtain ⟨g1,g2⟩:=zcc hs hm;exact zic hs ⟨g1.1,g1.2.1,by simpa using g1.2.2.1,g1.2.2.2⟩ ⟨g2.1,g2.2.1,by simpa using g2.2.2.1,g2.2.2.2⟩
theorem zWy {h:Host}{m p:Int}(hs:Shape h)(hm:hasB m (ln h.Mons)=true):Shape (opened h m p)/\hasB m (ln (opened h m p).Mons)=true:=by
 unfold opened;cases ieq (wand .i64 (ix (ix h.Mons m mZ).Outer p sZ).Rights 2) 0
 .exact ⟨hs,hm⟩
 .exact ⟨zsj hm hs,zGN hm⟩
theorem zHp {h:Host}{m p n:Int}(hs:Shape h)(hm:hasB m (ln h.Mons)=true):Shape (zjb h m p n)/\hasB m (ln (zjb h m p n).Mons)=true:=by
 unfold zjb;cases ieq (wand .i64 n 2) 0
 .exact zWy (zmS hs hm) (zep hm)
 .exact ⟨hs,hm⟩
theorem zuD {h:Host}{m p n:Int}(hf:Fit h)(hm:hasB m (ln h.Mons)=true)(hp:hasB p 8=true):Shape (mended h m p n)/\hasB m (ln (mended h m p n).Mons)=true:=by
 unfold mended;cases ieq (ix (ix h.Mons m mZ).Outer p sZ).Page (-1)
 .exact zHp hf.1 hm
 .obtain ⟨h1,h2⟩:=zjF hf hm hp;exact zHp h1 h2
theorem zUk {h:Host}{m p:Int}(hf:Fit h)(hm:hasB m (ln h.Mons)=true)(hp:hasB p 8=true):(ix (ix (fetched h m p).Mons m mZ).Outer p sZ).Rights=3:=by
 have hR:=room hf;have hrm:=zpI hf hm;obtain ⟨g1,g2⟩:=zcc hR.shape hrm;obtain ⟨k,rfl,hk⟩:=zdJ (n:=(zcV h).Mons.length) hrm;obtain ⟨q,rfl,hq⟩:=zdJ (n:=8) hp;unfold fetched zeP;rw[(zgb _ _ _ _).1];have hk':k<(landing (zcV h) (k:Int) (q:Int) (ix (zb1 (zcV h)) 0 0)).Mons.length:=by simpa [landing] using hk
 rw[zdO hk'];have ho:q<(ix (landing (zcV h) (k:Int) (q:Int) (ix (zb1 (zcV h)) 0 0)).Mons (k:Int) mZ).Outer.length:=by
  unfold landing;rw[zdO hk]
  show q<(ix (zcV h).Mons (k:Int) mZ).Outer.length
  rw[g2.1];exact hq
 show (ix (up (ix (landing (zcV h) (k:Int) (q:Int) (ix (zb1 (zcV h)) 0 0)).Mons (k:Int) mZ).Outer (q:Int) ⟨_,3⟩) (q:Int) sZ).Rights=3
 rw[zdO ho]
def zTN (h:Host)(m p n:Int):Prop:=Fit h/\hasB m (ln h.Mons)=true/\hasB p 8=true/\(n=1\/n=2)/\SlotFit (ix (ix h.Mons m mZ).Outer p sZ)
@[simp] abbrev zmD (h:Host)(m p n:Int):Bool:=pc (zTN h m p n)
@[simp] abbrev znF (h:Host)(m p n:Int):Host:=mended h m p n
def zr7:List AV->Option (Bool×List AV)
 | [.agg [.s (.sl .int) b,.s .mon c,.s .entry d,.s .entry e],.one (.i .i64 f),.one (.i .i64 g),.one (.i .i64 h)]=>some ((zmD (⟨b,c,d,e⟩:Host) f g h),[aH (znF (⟨b,c,d,e⟩:Host) f g h)])
 | _=>none
def zwj (N:Nat)(a0:Host)(a1 a2 a3:Int):OA:=
 let y3:=(zyr a0 a1 a2);let y6:=(ix y3.Mons a1 zf);let y0:=(ix a0.Mons a1 zf);let y7:=(ix y0.Outer a2 zN); (oN (inb a1 (ln a0.Mons)) (oN (inb a2 (ln y0.Outer)) (oN zcn (cond (cond (ieq y7.Page zbr.Page) (ieq y7.Rights zbr.Rights) false) (oN (zwc a0 a1 a2) (cond (ieq (wand .i64 a3 2) 0) (some [(aH y3)]) (oN (inb a1 (ln y3.Mons)) (oN (inb a2 (ln y6.Dirty)) (share (up y3.Mons a1 ({ y6 with Dirty:=(up y6.Dirty a2 true) }:Mon)) (fun x5=>let y8:=(ix x5 a1 zf).Outer;let y4:=({ y3 with Mons:=x5 }:Host);let y1:=(ix y8 a2 zN);let y9:=({ y1 with Rights:=3 }:Slot); (oN (inb a1 (ln x5)) (oN (inb a2 (ln y8)) (cond (ieq (wand .i64 y1.Rights 2) 0) (oN (ze1 y4 a1 a2 y9) (some [(aH (zgP y4 a1 a2 y9))])) (some [(aH y4)])))))))))) (cond (ieq (wand .i64 a3 2) 0) (some [(aH a0)]) (oN (inb a1 (ln a0.Mons)) (oN (inb a2 (ln y0.Dirty)) (share (up a0.Mons a1 ({ y0 with Dirty:=(up y0.Dirty a2 true) }:Mon)) (fun x5=>let y10:=(ix x5 a1 zf).Outer;let y5:=({ a0 with Mons:=x5 }:Host);let y2:=(ix y10 a2 zN);let y11:=({ y2 with Rights:=3 }:Slot); (oN (inb a1 (ln x5)) (oN (inb a2 (ln y10)) (cond (ieq (wand .i64 y2.Rights 2) 0) (oN (ze1 y5 a1 a2 y11) (some [(aH (zgP y5 a1 a2 y11))])) (some [(aH y5)])))))))))))))
theorem zV2 (N:Nat)(a0:Host)(a1 a2 a3:Int):zEy (cQ zqe zop z05 zWP) (zq []) N 12 218 [true,true,true,true,false,false,false] 1 1 [[0],[1],[2],[4],[7]] .mon [aH a0,aI a1,aI a2,aI a3]=zwj N a0 a1 a2 a3:=by kernel_rfl
theorem zSV (a0:Host)(a1 a2 a3:Int)(hb:zbD big [aH a0,aI a1,aI a2,aI a3])(hc:zmD a0 a1 a2 a3=true):∃N,zwj N a0 a1 a2 a3=some [aH (znF a0 a1 a2 a3)]:=by
 obtain ⟨hf,hm,hp,hn,hs⟩:=zD.1 hc;obtain ⟨g1,g2⟩:=zcc hf.1 hm;have tail:∀r,Shape r->hasB a1 (ln r.Mons)=true->(cond (ieq (wand .i64 a3 2) 0) (some [(AV.agg (zba r))]) (cond (inb a1 (ln r.Mons)) (cond (inb a2 (ln (ix r.Mons a1 zf).Dirty)) (share (up r.Mons a1 ({ (ix r.Mons a1 zf) with Dirty:=(up (ix r.Mons a1 zf).Dirty a2 true) }:Mon)) (fun x5=>(cond (inb a1 (ln x5)) (cond (inb a2 (ln (ix x5 a1 zf).Outer)) (cond (ieq (wand .i64 (ix (ix x5 a1 zf).Outer a2 zN).Rights 2) 0) (cond (ze1 ({ r with Mons:=x5 }:Host) a1 a2 ({ (ix (ix x5 a1 zf).Outer a2 zN) with Rights:=3 }:Slot)) (some [(AV.agg (zba (zgP ({ r with Mons:=x5 }:Host) a1 a2 ({ (ix (ix x5 a1 zf).Outer a2 zN) with Rights:=3 }:Slot))))]) none) (some [(AV.agg (zba ({ r with Mons:=x5 }:Host)))])) none) none))) none) none))=some [AV.agg (zba (zjb r a1 a2 a3))]:=by
  intro r hr hrm;obtain ⟨q1,q2⟩:=zcc hr hrm;have hD:=zmS (p:=a2) hr hrm;unfold zjb;cases h0:ieq (wand .i64 a3 2) 0
  .obtain ⟨k,rfl,hk⟩:=zdJ (n:=r.Mons.length) hrm;have ex:ix (zbt r (k:Int) a2).Mons (k:Int) mZ={ ix r.Mons (k:Int) mZ with Dirty:=up (ix r.Mons (k:Int) mZ).Dirty a2 true }:=zdO hk _ _;refine zcH rfl (must (zx hrm) (must (zx (zdk q2.2.2.1 hp)) (shr (must (zx (zep hrm)) (must ?_ ?_)))))
   .rw [zdO hk];exact zx (zdk q2.1 hp)
   .unfold opened
    show (cond (ieq (wand .i64 (ix (ix (zbt r (k:Int) a2).Mons (k:Int) mZ).Outer a2 sZ).Rights 2) 0) _ _)=_
    cases h1:ieq (wand .i64 (ix (ix (zbt r (k:Int) a2).Mons (k:Int) mZ).Outer a2 sZ).Rights 2) 0
    .rfl
    .refine must rfl (must (zbb ⟨(zJ _).2 hD.1,zep hrm,?_,?_⟩) rfl)
     .show hasB a2 (ln (ix (zbt r (k:Int) a2).Mons (k:Int) mZ).Outer)=true
      rw[ex];exact zdk q2.1 hp
     .show (ix (zbt r (k:Int) a2).Mons (k:Int) mZ).Tables.length<=(ix (zbt r (k:Int) a2).Mons (k:Int) mZ).Guests.length
      rw[ex];exact u1 q2.2.2.2
  .rfl
 refine ⟨0,?_⟩;unfold zwj znF mended oN
 conv=>zeta
 refine must (zx hm) (must (zx (zdk g2.1 hp)) (must rfl ?_));have e:(cond (ieq (ix (ix a0.Mons a1 mZ).Outer a2 sZ).Page zbr.Page) (ieq (ix (ix a0.Mons a1 mZ).Outer a2 sZ).Rights zbr.Rights) false)=ieq (ix (ix a0.Mons a1 mZ).Outer a2 sZ).Page (-1):=by
  rw[<- hs.no];unfold zcJ zbr;cases ieq (ix (ix a0.Mons a1 mZ).Outer a2 sZ).Page noSlot.Page<;>rfl
 rw[e];cases h0:ieq (ix (ix a0.Mons a1 mZ).Outer a2 sZ).Page (-1)
 .exact tail a0 hf.1 hm
 .obtain ⟨h1,h2⟩:=zjF (p:=a2) hf hm hp;exact must rfl (must (zbb ⟨hf,hm,hp⟩) (tail _ h1 h2))
theorem zLM:zd6 Tryz.prog 218 [true,true,true,true,false,false,false] (some (1,1,[[0],[1],[2],[4],[7]])) zr7:=by
 refine zlh (kt:=.mon) (zcT zg8 zk zPK zEU) (zd2 (by kernel_rfl)) (by kernel_rfl) ?_
 intro avs rs hl hr h;have hb:=zij hr;unfold zr7 at h;split at h
 .obtain ⟨hc,rfl⟩:=zdS h;obtain ⟨N,hN⟩:=zSV _ _ _ _ (by exact hb) hc
  exact ⟨⟨_,rfl⟩,rfl,_,N,12,(zV2 N _ _ _ _ ).trans hN⟩
 .cases h
@[simp] abbrev zII (h:Host)(m p n:Int):Bool:=pc (zTN h m p n)
@[simp] abbrev ztW (h:Host)(m p n:Int):Host:=mended h m p n
def zwE:List CV->List AV->Option (Bool×List CV×List AV)
 | [.s (.sl .int) b,.s .mon c,.s .entry d,.s .entry e],[.one (.i .i64 f),.one (.i .i64 g),.one (.i .i64 h)]=>some ((zII (⟨b,c,d,e⟩:Host) f g h),zba (ztW (⟨b,c,d,e⟩:Host) f g h),[])
 | _,_=>none
def zHA (N:Nat)(c:Host)(a0 a1 a2:Int):OA:=
 let y3:=(zvh c a0 a1);let y6:=(ix y3.Mons a0 zf);let y2:=(ix c.Mons a0 zf); (oN (inb a0 (ln c.Mons)) (oN (inb a1 (ln y2.Outer)) (cond (ieq (ix y2.Outer a1 zN).Page (-1)) (oN (zCN c a0 a1) (oN (zds a2 2) (cond (nB (zdT a2 2)) (some [(aH y3)]) (oN (inb a0 (ln y3.Mons)) (oN (inb a1 (ln y6.Dirty)) (share (up y3.Mons a0 ({ y6 with Dirty:=(up y6.Dirty a1 true) }:Mon)) (fun x5=>let y4:=(ix x5 a0 zf);let y0:=(ix y4.Outer a1 zN); (oN (inb a1 (ln y4.Outer)) (oN (zds y0.Rights 2) (cond (nB (zdT y0.Rights 2)) (oN (inb a1 (ln y4.Outer)) (share (up x5 a0 ({ y4 with Outer:=(up y4.Outer a1 ({ y0 with Rights:=3 }:Slot)) }:Mon)) (fun x6=>let y7:=({ y3 with Mons:=x6 }:Host); (oN (zej y7 a0 a1 y0) (some [(aH (zek y7 a0 a1 y0))]))))) (some [(aH ({ y3 with Mons:=x5 }:Host))]))))))))))) (oN (zds a2 2) (cond (nB (zdT a2 2)) (some [(aH c)]) (oN (inb a0 (ln c.Mons)) (oN (inb a1 (ln y2.Dirty)) (share (up c.Mons a0 ({ y2 with Dirty:=(up y2.Dirty a1 true) }:Mon)) (fun x5=>let y5:=(ix x5 a0 zf);let y1:=(ix y5.Outer a1 zN); (oN (inb a1 (ln y5.Outer)) (oN (zds y1.Rights 2) (cond (nB (zdT y1.Rights 2)) (oN (inb a1 (ln y5.Outer)) (share (up x5 a0 ({ y5 with Outer:=(up y5.Outer a1 ({ y1 with Rights:=3 }:Slot)) }:Mon)) (fun x6=>let y8:=({ c with Mons:=x6 }:Host); (oN (zej y8 a0 a1 y1) (some [(aH (zek y8 a0 a1 y1))]))))) (some [(aH ({ c with Mons:=x5 }:Host))])))))))))))))
theorem z3x (N:Nat)(c:Host)(a0 a1 a2:Int):zfN (cQ zqe zop z05 zWP) (zq []) N 12 90 [true,true,true,true] (zba c) [aI a0,aI a1,aI a2]=zHA N c a0 a1 a2:=by kernel_rfl
theorem z0O (c:Host)(a0 a1 a2:Int)(hb:zbD big (.agg (zba c) :: [aI a0,aI a1,aI a2]))(hc:zII c a0 a1 a2=true):∃N,zHA N c a0 a1 a2=some (.agg (zba (ztW c a0 a1 a2)) :: []):=by
 obtain ⟨hf,hm,hp,hn,hs⟩:=zD.1 hc;obtain ⟨g1,g2⟩:=zcc hf.1 hm;have en:enough a2 2 = !ieq (wand .i64 a2 2) 0:=by rcases hn with rfl|rfl<;>rfl
 have tail:∀r,Shape r->hasB a0 (ln r.Mons)=true->enough (ix (ix r.Mons a0 mZ).Outer a1 sZ).Rights 2=(!ieq (wand .i64 (ix (ix r.Mons a0 mZ).Outer a1 sZ).Rights 2) 0)->(cond (zds a2 2) (cond (cond (zdT a2 2) false true) (some [(AV.agg (zba r))]) (cond (inb a0 (ln r.Mons)) (cond (inb a1 (ln (ix r.Mons a0 zf).Dirty)) (share (up r.Mons a0 ({ (ix r.Mons a0 zf) with Dirty:=(up (ix r.Mons a0 zf).Dirty a1 true) }:Mon)) (fun x5=>(cond (inb a1 (ln (ix x5 a0 zf).Outer)) (cond (zds (ix (ix x5 a0 zf).Outer a1 zN).Rights 2) (cond (cond (zdT (ix (ix x5 a0 zf).Outer a1 zN).Rights 2) false true) (cond (inb a1 (ln (ix x5 a0 zf).Outer)) (share (up x5 a0 ({ (ix x5 a0 zf) with Outer:=(up (ix x5 a0 zf).Outer a1 ({ (ix (ix x5 a0 zf).Outer a1 zN) with Rights:=3 }:Slot)) }:Mon)) (fun x6=>(cond (zej ({ r with Mons:=x6 }:Host) a0 a1 (ix (ix x5 a0 zf).Outer a1 zN)) (some [(AV.agg (zba (zek ({ r with Mons:=x6 }:Host) a0 a1 (ix (ix x5 a0 zf).Outer a1 zN))))]) none))) none) (some [(AV.agg (zba ({ r with Mons:=x5 }:Host)))])) none) none))) none) none)) none)=some [AV.agg (zba (zjb r a0 a1 a2))]:=by
  intro r hr hrm her;obtain ⟨q1,q2⟩:=zcc hr hrm;have hD:=zmS (p:=a1) hr hrm;unfold zjb;simp only[zds,zdT,en,cT];cases h0:ieq (wand .i64 a2 2) 0
  .obtain ⟨k,rfl,hk⟩:=zdJ (n:=r.Mons.length) hrm;have ex:ix (zbt r (k:Int) a1).Mons (k:Int) mZ={ ix r.Mons (k:Int) mZ with Dirty:=up (ix r.Mons (k:Int) mZ).Dirty a1 true }:=zdO hk _ _;have hk':k<(zbt r (k:Int) a1).Mons.length:=by simpa [zbt] using hk
   have hi:inb a1 (ln (ix (zbt r (k:Int) a1).Mons (k:Int) mZ).Outer)=true:=by
    rw[ex];exact zx (zdk q2.1 hp)
   refine zcH rfl (must (zx hrm) (must (zx (zdk q2.2.2.1 hp)) (shr (must hi ?_))));unfold opened
   show (cond (cond (enough (ix (ix (zbt r (k:Int) a1).Mons (k:Int) mZ).Outer a1 sZ).Rights 2) false true) _ _)=_
   have e2:(cond (enough (ix (ix (zbt r (k:Int) a1).Mons (k:Int) mZ).Outer a1 sZ).Rights 2) false true)=ieq (wand .i64 (ix (ix (zbt r (k:Int) a1).Mons (k:Int) mZ).Outer a1 sZ).Rights 2) 0:=by
    rw[ex]
    show (cond (enough (ix (ix r.Mons (k:Int) mZ).Outer a1 sZ).Rights 2) false true)=ieq (wand .i64 (ix (ix r.Mons (k:Int) mZ).Outer a1 sZ).Rights 2) 0
    rw[her];cases ieq (wand .i64 (ix (ix r.Mons (k:Int) mZ).Outer a1 sZ).Rights 2) 0<;>rfl
   rw[e2];cases h1:ieq (wand .i64 (ix (ix (zbt r (k:Int) a1).Mons (k:Int) mZ).Outer a1 sZ).Rights 2) 0
   .rfl
   .have hX:Shape { zbt r (k:Int) a1 with Mons:=up (zbt r (k:Int) a1).Mons (k:Int) { ix (zbt r (k:Int) a1).Mons (k:Int) mZ with Outer:=up (ix (zbt r (k:Int) a1).Mons (k:Int) mZ).Outer a1 ⟨(ix (ix (zbt r (k:Int) a1).Mons (k:Int) mZ).Outer a1 sZ).Page,3⟩ } }:=by
     obtain ⟨w1,w2⟩:=zcc hD (zep hrm);exact zic hD ⟨by simpa using w1.1,w1.2⟩ ⟨by simpa using w2.1,w2.2⟩
    have hh:∀(x y:Mon),hasB (k:Int) (ln (up (up r.Mons (k:Int) x) (k:Int) y))=true:=fun x y=>by simpa [ln] using hrm
    refine must rfl (must hi (shr (must (zbb ⟨hX,hh _ _⟩) ?_)));exact congrArg (fun x=>some [AV.agg (zba x)]) (zzP (h:=zbt r (k:Int) a1) (p:=a1) (s:=⟨(ix (ix (zbt r (k:Int) a1).Mons (k:Int) mZ).Outer a1 sZ).Page,3⟩) hk' (by rw[ex];exact q2.2.2.2))
  .rfl
 refine ⟨0,?_⟩;unfold zHA ztW mended oN nB
 conv=>zeta
 refine must (zx hm) (must (zx (zdk g2.1 hp)) ?_);cases h0:ieq (ix (ix c.Mons a0 mZ).Outer a1 sZ).Page (-1)
 .exact tail c hf.1 hm (z8R hs.lo hs.hi)
 .obtain ⟨h1,h2⟩:=zjF (p:=a1) hf hm hp;exact must rfl (must (zbb ⟨hf,hm,hp⟩) (tail _ h1 h2 (by rw[zUk hf hm hp];rfl)))
theorem zUz:zdx Tryz.prog 90 [true,true,true,true] zwE:=by
 refine zbT (zcT zg8 zk zPK zEU) (zd2 (by kernel_rfl)) ?_
 intro cs avs cs' rs hl hr h;have hb:=zce hr;unfold zwE at h;split at h
 .obtain ⟨hc,rfl,rfl⟩:=zct h;obtain ⟨N,hN⟩:=z0O _ _ _ _ (by exact hb) hc
  exact ⟨rfl,_,N,12,(z3x N _ _ _ _ ).trans hN⟩
 .cases h
def z1g:zdy:=[(90,([true,true,true,true],zwE))]++z05
theorem zbQ:zcv z1g:=zdV zPK (by
 intro x hx;simp only[qI,qU,or_false]at hx;rcases hx with rfl
 .exact zUz)
def z1I:ze4:=[(218,([true,true,true,true,false,false,false],(some (1,1,[[0],[1],[2],[4],[7]])),zr7))]++zWP
theorem zyx:zd7 z1I:=zp5 zEU (by
 intro x hx;simp only[qI,qU,or_false]at hx;rcases hx with rfl
 .exact zLM)
theorem z0D {h:Host}(hh:zbX h=true):h.Memory.length=12:=by
 unfold zbX at hh;simp only[zcZ]at hh;have h1:=hh.1;unfold zhp at h1;simp only[zcZ]at h1;have:ln h.Memory=12:=qD h1.2;simp only[ln] at this;omega
theorem zgJ {h:Host}(hh:zbX h=true):∀x∈h.Mons,zd3 x=true:=by
 unfold zbX at hh;simp only[zcZ]at hh;exact zyY _ _ hh.2.2.2.2
theorem zI6 {x:Mon}(hk:zd3 x=true):ShM x:=by
 have ho:=zrz (zmo hk);unfold zd3 at hk;simp only[zcZ]at hk;have e1:ln x.Tables=ln x.Guests:=qD hk.2.1;have e2:ln x.Out=8:=qD hk.2.2.2.1;have e3:ln x.Dirty=8:=qD hk.2.2.2.2.1;simp only[ln] at *;exact ⟨by omega,by omega,by omega,by omega⟩
theorem ze6 {h:Host}(hs:SmH h)(hh:zbX h=true):Fit h:=by
 refine ⟨⟨hs,fun x hx=>zI6 (zgJ hh x hx)⟩,by rw[z0D hh];decide,?_⟩
 unfold zbX at hh;simp only[zcZ]at hh;have:=zUE _ _ rfl hh.2.2.2.2;omega
theorem zsI {x:Mon}(hk:zd3 x=true){p:Int}(hp:hasB p 8=true):SlotFit (ix x.Outer p sZ):=by
 have ht:=zmo hk;unfold zcF at ht;simp only[zcZ]at ht;exact z1A (qO.1 ht.1 _ (zbv (zdk (zI6 hk).1 hp) _))
theorem zXy {h:Host}{m p:Int}(hf:Fit h)(hm:hasB m (ln h.Mons)=true):Fit (zbt h m p):=by
 refine ⟨zmS hf.1 hm,hf.2.1,?_⟩;obtain ⟨k,rfl,hk⟩:=zdJ (n:=h.Mons.length) hm;have:=zXj h.Mons k (ix h.Mons (k:Int) mZ) { ix h.Mons (k:Int) mZ with Dirty:=up (ix h.Mons (k:Int) mZ).Dirty p true } (by rw[zbd hk];exact qB hk)
 have h3:=hf.2.2;unfold zbt;simp only[up,kV]
 dsimp only at this
 simp only[up] at this;omega
abbrev gZ:Guest:=Ty.dflt .guest
@[simp] abbrev zri (h:Host)(m:Int):Bool:=pc (zcd h)
@[simp] abbrev zch (h:Host)(m:Int):Mon:=bif hasB m (ln h.Mons) then ix h.Mons m mZ else mZ
@[simp] abbrev zks (h:Host)(m:Int):Bool:=hasB m (ln h.Mons)
def zG2:Run:=rF2 dH dI fun b c=>(zri b c,[aT .mon (zch b c),aB (zks b c)])
def zQg (N:Nat)(a0:Host)(a1:Int):OA:=
 let y0:=(ix a0.Mons a1 zf); (oN (zcr a1 (ln a0.Mons)) (cond (nB (zcX a1 (ln a0.Mons))) (some [(aT .mon (⟨[],[],[],[],[],0,0,[],0⟩:Mon)),(aB false)]) (oN (inb a1 (ln a0.Mons)) (oN (zjO y0) (some [(aT .mon (zkx y0)),(aB true)])))))
theorem zXL (a0:Host)(a1:Int)(hc:zri a0 a1=true):∃N,zQg N a0 a1=some [aT .mon (zch a0 a1),aB (zks a0 a1)]:=by
 have hs:=(zJ a0).1 (zD.1 hc);refine ⟨0,?_⟩;unfold zQg zch zks oN nB
 conv=>zeta
 refine must rfl ?_;rw[show zcX a1 (ln a0.Mons)=hasB a1 (ln a0.Mons) from rfl]
 cases hh:hasB a1 (ln a0.Mons)
 .rfl
 .exact zcH rfl (must (zx hh) (must (zbb (hs.2.1.2 _ (zbv hh _))) rfl))
theorem zRK:u3 54 zG2:=kF2 zg8 zk zbQ zyx (zq []) zXL
def zbF (h:Host)(m g:Int):Bool:=bif zbX h then (cond (hasB m (ln h.Mons)) (hasB g (ln (ix h.Mons m mZ).Guests)) false) else false
@[simp] abbrev zgR (h:Host)(m g:Int):Bool:=pc (zcd h)
@[simp] abbrev ziK (h:Host)(m g:Int):Bool:=zbF h m g
def zHk:Run:=rF3 dH dI dI fun b c d=>(zgR b c d,[aB (ziK b c d)])
def zQy (N:Nat)(a0:Host)(a1 a2:Int):OA:=
 let y0:=(wsub .i64 (ln (ix a0.Mons a1 zf).Guests) 1); (oN (zfb a0) (cond (zfa a0) (oN (zK a1 0 (wsub .i64 (ln a0.Mons) 1)) (cond (zM a1 0 (wsub .i64 (ln a0.Mons) 1)) (oN (inb a1 (ln a0.Mons)) (oN (zK a2 0 y0) (some [(aB (zM a2 0 y0))]))) oF)) oF))
theorem zX6 (a0:Host)(a1 a2:Int)(hc:zgR a0 a1 a2=true):∃N,zQy N a0 a1 a2=some [aB (ziK a0 a1 a2)]:=by
 have hs:=(zJ a0).1 (zD.1 hc);refine ⟨0,?_⟩;unfold zQy ziK zbF oN
 conv=>zeta
 refine must rfl ?_;rw[show zfa a0=zbX a0 from rfl]
 cases hh:zbX a0
 .rfl
 .rw [show zM a1 0 (wsub .i64 (ln a0.Mons) 1)=hasB a1 (ln a0.Mons) from zp8 hs.2.1.1 a1]
  refine must rfl (must rfl ?_);cases h1:hasB a1 (ln a0.Mons)
  .rfl
  .have hg:(ix a0.Mons a1 mZ).Guests.length<=1048576:=(hs.2.1.2 _ (zbv h1 _)).2.2.2.1.1;rw[show zM a2 0 (wsub .i64 (ln (ix a0.Mons a1 zf).Guests) 1)=hasB a2 (ln (ix a0.Mons a1 mZ).Guests) from zp8 hg a2]
   exact must rfl (must (zx h1) (must rfl rfl))
theorem zR5:u3 199 zHk:=kF3 zg8 zk zbQ zyx (zq []) zX6
def zcf (h:Host)(m:Int):Nat->Nat->List (List Int)
 | 0,_=>[]
 | n+1,i=>zcp h m (i:Int) :: zcf h m n (i+1)
theorem zzt (h:Host)(m:Int):∀(n i:Nat),(zcf h m n i).length=n
 | 0,_=>rfl
 | n+1,i=>by simp[zcf,zzt h m n]
def zy (h:Host)(m:Int):Bare:=bif hasB m (ln h.Mons) then ⟨zcf h m 8 0,(ix h.Mons m mZ).Guests,(ix h.Mons m mZ).Outs,(ix h.Mons m mZ).Pending⟩ else ⟨[],[],[],0⟩
theorem zQ0 {ρ:Type}(h:Host)(m:Int)(K:List (List Int)->Option ρ):∀(n i:Nat) (acc:List (List Int)),acc.length+n<=2147483648 ->
 goN (fun i acc κ=>bif few (ln (ap acc [zcp h m (i:Int)])) then κ (ap acc [zcp h m (i:Int)]) else none) K n i acc=K (acc++zcf h m n i)
 | 0,_,acc,_=>by simp[goN,zcf]
 | n+1,i,acc,hl=>by
  simp only[goN,zcf];rw[zgw (by simp[ap];omega),cT,zQ0 h m K n (i+1) _ (by simp[ap];omega)]
  simp[ap]
@[simp] abbrev zza (h:Host)(m:Int):Bool:=pc (zcd h)
@[simp] abbrev zpv (h:Host)(m:Int):Bare:=zy h m
def z7x:zQ:=[(54,zG2),(199,zHk)]++zqe
theorem zUb:zI z7x:=zh zRK (zh zR5 zg8)
def zDp:Run:=rF2 dH dI fun b c=>(zza b c,[aT .bare (zpv b c)])
def zJP (N:Nat)(a0:Host)(a1:Int):OA:=
 (oN (zri a0 a1) (cond (nB (zks a0 a1)) (some [(aT .bare (⟨[],[],[],0⟩:Bare))]) (iter (σ:=(Int×(Int×(Int×(Int×(lM×(lN×(lE×(lE×(lM×(lG×((List Int)×(lM×(lG×((List Int)×Unit))))))))))))))) N (fun r3 s4=>let y3:=s4.2.2.2.2.2.2.2.2.2.2.2.2.1;let y2:=s4.2.2.2.2.2.2.2.2.2.2.2.2.2.1;let y0:=(⟨s4.2.2.2.2.1,s4.2.2.2.2.2.1,s4.2.2.2.2.2.2.1,s4.2.2.2.2.2.2.2.1⟩:Host);let y1:=(ap s4.2.2.2.2.2.2.2.2.2.2.2.1 [(zy6 y0 s4.1 s4.2.1)]); (cond (ilt s4.2.1 8) (oN (zy7 y0 s4.1 s4.2.1) (oN (few (ln y1)) (r3 (s4.1,((zG .i64 s4.2.1 1),(s4.2.2.1,(s4.2.2.2.1,(s4.2.2.2.2.1,(s4.2.2.2.2.2.1,(s4.2.2.2.2.2.2.1,(s4.2.2.2.2.2.2.2.1,(s4.2.2.2.2.2.2.2.2.1,(s4.2.2.2.2.2.2.2.2.2.1,(s4.2.2.2.2.2.2.2.2.2.2.1,(y1,(y3,(y2,()))))))))))))))))) (some [(aT .bare (⟨s4.2.2.2.2.2.2.2.2.2.2.2.1,y3,y2,s4.2.2.2.1⟩:Bare))]))) (a1,(0,(0,((zch a0 a1).Pending,(a0.Memory,(a0.Mons,(a0.Buffer,(a0.IoBuffer,([],([],([],([],((zch a0 a1).Guests,((zch a0 a1).Outs,())))))))))))))))))
def zWW:FuncId->Nat->Option Tmpl:=zq [(71,0,{ n:=39,tm:=[(1,ti),(2,.lp 0 0),(4,.lp 1 0),(7,.lp 2 0),(8,ti)],lo:=[(0,[.sl 0 [],.sl 1 [],.sl 2 [],.sl 3 []]),(1,[.sl 4 [],.sl 5 [],.sl 6 [],ti]),(2,[.sl 7 [],.sl 8 [],.sl 9 [],ti])],ro:=[(0,(.sl .int),false),(1,.mon,false),(2,.entry,false),(3,.entry,false),(4,(.sl .int),true),(5,.guest,true),(6,.int,true),(7,(.sl .int),true),(8,.guest,true),(9,.int,true)] })]
theorem zU5 (a0:Host)(a1:Int)(hc:zza a0 a1=true):∃N,zJP N a0 a1=some [aT .bare (zpv a0 a1)]:=by
 have hs:=zD.1 hc;refine zb8 fun N hNN=>?_;unfold zJP zpv zy oN nB
 conv=>zeta
 refine must (zbb hs) ?_;rw[show zks a0 a1=hasB a1 (ln a0.Mons) from rfl]
 cases hh:hasB a1 (ln a0.Mons)
 .rfl
 .refine zcH rfl ?_;refine (zzk 8 (fun i (t:lM)=>(a1,(i:Int),0,(zch a0 a1).Pending,a0.Memory,a0.Mons,a0.Buffer,a0.IoBuffer,[],[],[],t,(zch a0 a1).Guests,(zch a0 a1).Outs,())) _ (fun i (acc:List (List Int)) κ=>bif few (ln (ap acc [zcp a0 a1 (i:Int)])) then κ (ap acc [zcp a0 a1 (i:Int)]) else none) (fun (t:lM)=>(some [(.agg (Ty.cells .bare (⟨t,(zch a0 a1).Guests,(zch a0 a1).Outs,(zch a0 a1).Pending⟩:Bare)))])) (fun i hi t rec=>?_) (fun t rec=>?_) _ ([]) (hNN (by decide))).trans ?_
  .simp only [show ilt (i:Int) 8=true from qJ (by omega),zW hi (show 8<=big by decide),cT]
   exact must (zbb hs) rfl
  .simp only [show ilt (((8:Nat)):Int) 8=false from qH (by omega),cF]
  rw[zQ0 a0 a1 _ 8 0 [] (by decide)]
  simp only[zch,hh,cT,jN]
theorem zN2:u3 71 zDp:=kF2 zUb zk zbQ zyx zWW zU5
theorem zYk:zb6 zzW=true:=by decide
theorem zYS {p:Nat->Bool}:∀{n i q:Nat},znT p n i=true->i<=q->q<i+n->p q=true
 | 0,i,q,_,h1,h2=>by omega
 | n+1,i,q,h,h1,h2=>by
  simp only[znT,qE]at h
  by_cases he:i=q
  .subst he;exact h.1
  .exact zYS h.2 (by omega) (by omega)
theorem z3H {h:Host}{m:Int}(hh:zbX h=true)(hm:hasB m (ln h.Mons)=true){p:Int}(hp:hasB p 8=true):zb6 (zcp h m p)=true:=by
 have hk:=zgJ hh _ (zbv hm mZ);have hsh:=zI6 hk;have hmem:h.Memory.all zb6=true:=by
  unfold zbX at hh;simp only[zcZ]at hh;have h1:=hh.1;unfold zhp at h1;simp only[zcZ]at h1;exact h1.1
 unfold zcp;rw[hm,hp];simp only[cT];have hsl:zbn (ix h.Mons m mZ).Outer p=ix (ix h.Mons m mZ).Outer p sZ:=by
  unfold zbn;rw[zdk hsh.1 hp];rfl
 rw[hsl];have hAt:∀(mm:List (List Int)) (q:Int),(hasB q (ln mm)=true->zb6 (ix mm q [])=true)->zb6 (zca mm q)=true:=by
  intro mm q hq;unfold zca;cases h1:hasB q (ln mm)
  .exact zYk
  .exact hq h1
 cases hpg:ine (ix (ix h.Mons m mZ).Outer p sZ).Page (-1)
 .refine hAt _ _ (fun hq=>?_);obtain ⟨q,rfl,hq8⟩:=zdJ (n:=8) hp;have hfit:fits (ix h.Mons m mZ) q=true:=by
   unfold zd3 at hk;simp only[zcZ]at hk;exact zYS hk.2.2.2.2.2.2.2.2.2.2 (by omega) (by omega)
  unfold fits zlt at hfit;have hno:zcJ (ix (ix h.Mons m mZ).Outer (q:Int) sZ) noSlot=true:=by
   rw[(zsI (zgJ hh _ (zbv hm mZ)) hp).no];rw[zln]at hpg;cases h1:ieq (ix (ix h.Mons m mZ).Outer (q:Int) sZ).Page (-1)
   .rw [h1]at hpg;cases hpg
   .rfl
  rw[hno]at hfit;exact hfit
 .exact hAt _ _ (fun hq=>qO.1 hmem _ (zbv hq _))
theorem zRf {h:Host}{m:Int}(hh:zbX h=true)(hm:hasB m (ln h.Mons)=true):∀(n i:Nat),i+n<=8->(zcf h m n i).all zb6=true
 | 0,_,_=>rfl
 | n+1,i,hi=>by
  simp only[zcf,k9,qE];exact ⟨z3H hh hm (qJ (by omega)),zRf hh hm n (i+1) (by omega)⟩
theorem zwn {h:Host}{m:Int}(hh:zbX h=true)(hm:hasB m (ln h.Mons)=true):zbC (zy h m)=true:=by
 have hk:=zgJ hh _ (zbv hm mZ);unfold zd3 at hk;simp only[zcZ]at hk;unfold zy zbC zhp;rw[hm];simp only[cT,hk.2.2.2.2.2.2.2.2.2.1,zRf hh hm 8 0 (by decide),ln,zzt]
 simp only[ln]at hk;rw[hk.1,hk.2.2.2.2.2.1,hk.2.2.2.2.2.2.1];rfl
def zmG:zQ:=[(71,zDp)]++z7x
theorem zg9:zI zmG:=zh zN2 zUb
def zd8 (l:List Mon):List (List Guest):=l.map fun x=>x.Guests
theorem zyX {l:List Mon}{m:Int}{x:Mon}(hm:hasB m (ln l)=true)(hx:x.Guests=(ix l m mZ).Guests):zd8 (up l m x)=zd8 l:=by
 obtain ⟨k,rfl,hk⟩:=zdJ (n:=l.length) hm;unfold zd8 up;rw[List.map_set,kV,hx,zbd hk];have:=@uQ _ (l.map fun x=>x.Guests) k (by simpa using hk)
 simpa using this
theorem zK1 {l l':List Mon}(h:zd8 l'=zd8 l)(m:Int):(ix l' m mZ).Guests=(ix l m mZ).Guests:=by
 unfold zd8 at h;have h2:(l'.map fun x=>x.Guests)[m.toNat]?=(l.map fun x=>x.Guests)[m.toNat]?:=by rw[h]
 rw[qM,qM]at h2;unfold ix;simp only[j7];cases h3:l'[m.toNat]? <;> cases h4:l[m.toNat]? <;> rw [h3,h4]at h2<;>simp at h2 ⊢;exact h2
theorem zyW {h:Host}{m p:Int}{s:Slot}(hm:hasB m (ln h.Mons)=true):zd8 (zb7 h m p s).Mons=zd8 h.Mons:=by
 rw[(zgb h m p s).1];exact zyX hm rfl
theorem z8Y {h:Host}{m p:Int}(hm:hasB m (ln h.Mons)=true):zd8 (zdl h m p).Mons=zd8 h.Mons:=(zyW (h:=zeG h m p) (zep hm)).trans (zyX hm rfl)
theorem z8X {h:Host}(hf:Fit h):zd8 (zcV h).Mons=zd8 h.Mons:=by
 unfold zcV;cases h0:ieq (ln (zb1 h)) 0
 .rfl
 .exact z8Y (zEK hf h0).1
theorem z0A {h:Host}{m p:Int}(hf:Fit h)(hm:hasB m (ln h.Mons)=true):zd8 (fetched h m p).Mons=zd8 h.Mons:=by
 have hr:=zpI hf hm;exact ((zyW (h:=landing (zcV h) m p (ix (zb1 (zcV h)) 0 0)) (zep hr)).trans (zyX hr rfl)).trans (z8X hf)
theorem zUu {h:Host}{m p n:Int}(hm:hasB m (ln h.Mons)=true):zd8 (zjb h m p n).Mons=zd8 h.Mons:=by
 have hd:zd8 (zbt h m p).Mons=zd8 h.Mons:=zyX hm rfl;unfold zjb;cases ieq (wand .i64 n 2) 0
 .unfold opened;cases ieq (wand .i64 (ix (ix (zbt h m p).Mons m mZ).Outer p sZ).Rights 2) 0
  .exact hd
  .exact (zyW (h:=zbt h m p) (zep hm)).trans hd
 .rfl
theorem z2X {h:Host}{m p n:Int}(hf:Fit h)(hm:hasB m (ln h.Mons)=true)(hp:hasB p 8=true):zd8 (mended h m p n).Mons=zd8 h.Mons:=by
 unfold mended;cases ieq (ix (ix h.Mons m mZ).Outer p sZ).Page (-1)
 .exact zUu hm
 .exact (zUu (zjF hf hm hp).2).trans (z0A hf hm)
theorem zbag {l l':List Mon}(h:zd8 l'=zd8 l):l'.length=l.length:=by
 have:=congrArg List.length h;simpa [zd8] using this
abbrev kZ:Kept:=Ty.dflt .kept
theorem zba7 {x:Guest}(hk:zcU x=true){p n:Int}(hw:zdZ x.Live p n=true):hasB (zbV x.Live p n) 8=true:=by
 have ht:zcF x.Live 4 8=true:=by
  unfold zcU at hk;simp only[qE]at hk;exact hk.2.2.2.2.1
 unfold zbV;rw[hw];simp only[cT];unfold zdZ at hw;cases h1:ieq (zbn x.Live p).Page (-1)
 .unfold zbn at h1 ⊢;cases h2:hasB p (ln x.Live)
  .rw [h2]at h1;cases h1
  .rw [h2]at h1;simp only[cT]at h1 ⊢;unfold zcF at ht;simp only[zcZ]at ht;have hs:=qO.1 ht.1 _ (zbv h2 sZ);unfold zdD at hs;cases h3:zcJ (ix x.Live p sZ) noSlot
   .rw [h3]at hs;simp only[cF,zcZ]at hs;have:=zfl.1 hs.2.1;rw[show wsub .i64 8 1=7 from rfl] at this
    show hasB (ix x.Live p sZ).Page 8=true
    exact qJ (by omega)
   .unfold zcJ at h3;rw[qE]at h3;have:(ix x.Live p sZ).Page = -1:=qD h3.1;rw[show ieq (ix x.Live p zN).Page (-1)=true from qJ this]at h1
    cases h1
 .rw [h1]at hw;cases hw
def zb5 (h:Host)(m g:Int):List Slot:=(ix (ix h.Mons m mZ).Guests g gZ).Live
def zbP (h:Host)(m g:Int):Kept:=ix (ix h.Mons m mZ).Tables g kZ
def zsx (h:Host)(io:Bool):List Entry:=bif io then h.IoBuffer else h.Buffer
def zq8 (b:List Entry)(m g page:Int):Option Entry:=zsy b (zdG m g) page
def zhs (b:List Entry)(m g page need:Int):Bool:=bif (zq8 b m g page).isSome then enough ((zq8 b m g page).getD ⟨0,0,0,0⟩).Rights need else false
def zeb (h:Host)(m g page need:Int):Bool:=bif ziv (zbP h m g) page then (cond (ieq (zdA (zbP h m g) page).Page (-1)) true (!enough (zdA (zbP h m g) page).Rights need)) else true
def zb9 (h:Host)(m g page:Int):Host:={ h with Mons:=up h.Mons m { ix h.Mons m mZ with Tables:=up (ix h.Mons m mZ).Tables g (filled (zbP h m g) (zb5 h m g) (ix h.Mons m mZ).Outer page) } }
def zTm (h:Host)(m g page:Int):Entry:=⟨zdG m g,page,(zdA (zbP h m g) page).Page,(zdA (zbP h m g) page).Rights⟩
def zvk (h:Host)(m g page:Int)(io:Bool):Host:=bif io then { h with IoBuffer:=zpG h.IoBuffer (zTm h m g page) } else { h with Buffer:=zpG h.Buffer (zTm h m g page) }
def zel (h:Host)(m g page:Int)(io:Bool):Host×Int×Bool:=(zvk h m g page io,(zdA (zbP h m g) page).Page,true)
def zfT (h:Host)(b:List Entry)(m g page need q:Int)(io:Bool):Host×Int×Bool :=
 bif zhs b m g page need then (h,((zq8 b m g page).getD ⟨0,0,0,0⟩).Host,true)
 else (cond (zeb h m g page need) (zel (zb9 (mended h m q need) m g page) m g page io) (zel h m g page io))
def zfA (need:Int):Bool:=bif ieq need 1 then true else ieq need 2
def zbM (h:Host)(m g page need:Int):Bool:=bif zbF h m g then (cond (zfA need) (zdZ (zb5 h m g) page need) false) else false
def lookOf (h:Host)(b:List Entry)(m g page need:Int)(io:Bool):Host×Int×Bool :=
 bif zbM h m g page need then zfT (cond (ieq need 2) (zbt h m (zbV (zb5 h m g) page need)) h) b m g page need (zbV (zb5 h m g) page need) io else (h,-1,false)
structure Kp (h r:Host):Prop where
 shape:Shape r
 gs:zd8 r.Mons=zd8 h.Mons
theorem Kp.has {h r:Host}(k:Kp h r){m:Int}(hm:hasB m (ln h.Mons)=true):hasB m (ln r.Mons)=true:=by
 rw[ln,zbag k.gs];exact hm
theorem z1x {h:Host}{m g page:Int}(hs:Shape h)(hm:hasB m (ln h.Mons)=true)(hg:hasB g (ln (ix h.Mons m mZ).Guests)=true):Shape (zb9 h m g page):=by
 obtain ⟨g1,g2⟩:=zcc hs hm;have ht:hasB g (ln (ix h.Mons m mZ).Tables)=true:=by rw[ln,g2.2.2.2];exact hg
 exact zic hs ⟨g1.1,g1.2.1,g1.2.2.1,g1.2.2.2.1,g1.2.2.2.2.1,zyt g1.2.2.2.2.2 (z1C (g1.2.2.2.2.2.2 _ (zbv ht _)))⟩ ⟨g2.1,g2.2.1,g2.2.2.1,by simpa using g2.2.2.2⟩
theorem z3f {h r:Host}{m g page:Int}{io:Bool}(k:Kp h r):Kp h (zvk r m g page io):=by
 obtain ⟨⟨h1,h2,h3,h4⟩,h5⟩:=k.shape;unfold zvk;cases io
 .exact ⟨⟨⟨h1,h2,(zzv _ h3).1,h4⟩,h5⟩,k.gs⟩
 .exact ⟨⟨⟨h1,h2,h3,(zzv _ h4).1⟩,h5⟩,k.gs⟩
structure LookAt (h:Host) (m g q need:Int):Prop where
 fit:Fit h
 hm:hasB m (ln h.Mons)=true
 hg:hasB g (ln (ix h.Mons m mZ).Guests)=true
 hq:hasB q 8=true
 hn:need=1\/need=2
 hs:SlotFit (ix (ix h.Mons m mZ).Outer q sZ)
theorem LookAt.mend {h:Host}{m g q need:Int}(A:LookAt h m g q need):zTN h m q need:=⟨A.fit,A.hm,A.hq,A.hn,A.hs⟩
theorem LookAt.kp {h:Host}{m g q need:Int}(A:LookAt h m g q need):Kp h (mended h m q need):=⟨(zuD A.fit A.hm A.hq).1,z2X A.fit A.hm A.hq⟩
theorem LookAt.fill {h:Host}{m g q need:Int}(A:LookAt h m g q need)(page:Int):Kp h (zb9 (mended h m q need) m g page):=by
 have k:=A.kp;have hg:hasB g (ln (ix (mended h m q need).Mons m mZ).Guests)=true:=by rw[zK1 k.gs];exact A.hg
 have e:zd8 (zb9 (mended h m q need) m g page).Mons=zd8 (mended h m q need).Mons:=zyX (k.has A.hm) rfl;exact ⟨z1x k.shape (k.has A.hm) hg,e.trans k.gs⟩
theorem zUK {h:Host}{b:List Entry}{m g page need q:Int}{io:Bool}(A:LookAt h m g q need):Kp h (zfT h b m g page need q io).1:=by
 unfold zfT;cases zhs b m g page need
 .cases zeb h m g page need
  .exact z3f ⟨A.fit.1,rfl⟩
  .exact z3f (A.fill page)
 .exact ⟨A.fit.1,rfl⟩
theorem zcI {h:Host}{m g:Int}(hh:zbF h m g=true):zbX h=true/\hasB m (ln h.Mons)=true/\hasB g (ln (ix h.Mons m mZ).Guests)=true:=by
 unfold zbF at hh;simp only[zcZ]at hh;exact hh
theorem z0B {h:Host}{m g:Int}(hh:zbF h m g=true):zcU (ix (ix h.Mons m mZ).Guests g gZ)=true:=by
 obtain ⟨h1,h2,h3⟩:=zcI hh;have hk:=zgJ h1 _ (zbv h2 mZ);unfold zd3 at hk;simp only[zcZ]at hk;exact qO.1 hk.2.2.2.2.2.2.2.2.2.1 _ (zbv h3 _)
theorem zMs {n:Int}(h:zfA n=true):n=1\/n=2:=by
 unfold zfA at h;cases h1:ieq n 1
 .rw [h1]at h;exact .inr (qD h)
 .exact .inl (qD h1)
theorem zCX {h:Host}{m g page need:Int}(hs:SmH h)(hh:zbM h m g page need=true) :
 LookAt h m g (zbV (zb5 h m g) page need) need/\LookAt (zbt h m (zbV (zb5 h m g) page need)) m g (zbV (zb5 h m g) page need) need:=by
 unfold zbM at hh;simp only[zcZ]at hh;obtain ⟨h1,h2,h3⟩:=hh;obtain ⟨g1,g2,g3⟩:=zcI h1;have hq:hasB (zbV (zb5 h m g) page need) 8=true:=zba7 (z0B h1) h3;have hsl:=zsI (zgJ g1 _ (zbv g2 mZ)) hq;have hf:=ze6 hs g1;refine ⟨⟨hf,g2,g3,hq,zMs h2,hsl⟩,⟨zXy hf g2,zep g2,?_,hq,zMs h2,?_⟩⟩
 .have e:zd8 (zbt h m (zbV (zb5 h m g) page need)).Mons=zd8 h.Mons:=zyX g2 rfl;rw[zK1 e];exact g3
 .obtain ⟨k,rfl,hk⟩:=zdJ (n:=h.Mons.length) g2;unfold zbt;rw[zdO hk];exact hsl
theorem ztf {h:Host}{b:List Entry}{m g page need:Int}{io:Bool}(hs:SmH h)(hh:zbF h m g=true):Kp h (lookOf h b m g page need io).1:=by
 have hf:=ze6 hs (zcI hh).1;unfold lookOf;cases h1:zbM h m g page need
 .exact ⟨hf.1,rfl⟩
 .obtain ⟨A,B⟩:=zCX hs h1;simp only[cT];cases ieq need 2
  .exact zUK A
  .have k:=zUK (b:=b) (page:=page) (io:=io) B;have e:zd8 (zbt h m (zbV (zb5 h m g) page need)).Mons=zd8 h.Mons:=zyX A.hm rfl;exact ⟨k.shape,k.gs.trans e⟩
def zjf (x:Host×Int×Bool):List AV:=[.agg (zba x.1),.one (.i .i64 x.2.1),.one (.b x.2.2)]
theorem zgZ {h:Host}{b:List Entry}{m g page need:Int}{io:Bool}(hh:zbM h m g page need=false):lookOf h b m g page need io=(h,-1,false):=by
 unfold lookOf;rw[hh];rfl
theorem znx {h:Host}{m g page need:Int}(hh:zbF h m g=false):zbM h m g page need=false:=by
 unfold zbM;rw[hh];rfl
theorem zNE {h:Host}{m g:Int}(hh:zbX h=false):zbF h m g=false:=by
 unfold zbF;rw[hh];rfl
theorem zNF {h:Host}{m g:Int}(hh:hasB m (ln h.Mons)=false):zbF h m g=false:=by
 unfold zbF;rw[hh];cases zbX h<;>rfl
theorem zNG {h:Host}{m g:Int}(hh:hasB g (ln (ix h.Mons m mZ).Guests)=false):zbF h m g=false:=by
 unfold zbF;rw[hh];cases zbX h<;>cases hasB m (ln h.Mons)<;>rfl
theorem zNH {h:Host}{m g:Int}(h1:zbX h=true)(h2:hasB m (ln h.Mons)=true)(h3:hasB g (ln (ix h.Mons m mZ).Guests)=true):zbF h m g=true:=by
 unfold zbF;rw[h1,h2,h3];rfl
structure LookF (r:Host) (m g:Int):Prop where
 hm:hasB m (ln r.Mons)=true
 hg:hasB g (ln (ix r.Mons m mZ).Guests)=true
 ht:hasB g (ln (ix r.Mons m mZ).Tables)=true
 hk:SmK (zbP r m g)
 hb:r.Buffer.length<=1048576
 hi:r.IoBuffer.length<=1048576
theorem zlr {h r:Host}{m g:Int}(k:Kp h r)(hm:hasB m (ln h.Mons)=true)(hg:hasB g (ln (ix h.Mons m mZ).Guests)=true):LookF r m g:=by
 obtain ⟨g1,g2⟩:=zcc k.shape (k.has hm);have hg':hasB g (ln (ix r.Mons m mZ).Guests)=true:=by rw[zK1 k.gs];exact hg
 have ht:hasB g (ln (ix r.Mons m mZ).Tables)=true:=by rw[ln,g2.2.2.2];exact hg'
 exact ⟨k.has hm,hg',ht,g1.2.2.2.2.2.2 _ (zbv ht _),k.shape.1.2.2.1,k.shape.1.2.2.2⟩
@[simp] abbrev zj3 (h:Host)(b:List Entry)(m g page need:Int)(io:Bool):Bool:=pc (zcd h)
@[simp] abbrev ze2 (h:Host)(b:List Entry)(m g page need:Int)(io:Bool):Host:=(lookOf h b m g page need io).1
@[simp] abbrev zj2 (h:Host)(b:List Entry)(m g page need:Int)(io:Bool):Int:=(lookOf h b m g page need io).2.1
@[simp] abbrev zgQ (h:Host)(b:List Entry)(m g page need:Int)(io:Bool):Bool:=(lookOf h b m g page need io).2.2
def zr9:List AV->Option (Bool×List AV)
 | [.agg [.s (.sl .int) c,.s .mon d,.s .entry e,.s .entry f],.one (.s .entry g),.one (.i .i64 h),.one (.i .i64 j),.one (.i .i64 k),.one (.i .i64 l),.one (.b m)]=>some ((zj3 (⟨c,d,e,f⟩:Host) g h j k l m),[aH (ze2 (⟨c,d,e,f⟩:Host) g h j k l m),aI (zj2 (⟨c,d,e,f⟩:Host) g h j k l m),aB (zgQ (⟨c,d,e,f⟩:Host) g h j k l m)])
 | _=>none
abbrev zRC (u9_11:lM)(u9_12:lN)(u9_13:lE)(u9_14:lE)(u9_0:Int)(u9_5:Int)(u9_3:Int):Mon :=
 (ix (znF (⟨u9_11,u9_12,u9_13,u9_14⟩:Host) u9_0 u9_5 u9_3).Mons u9_0 zf)
abbrev zRD (a0:Host)(a2 a3:Int)(a4 a5:Int):Int :=
 (zjA (ix (ix a0.Mons a2 zf).Guests a3 zi).Live a4 a5)
def zNs (N:Nat)(u11_0:Int)(u11_2:lM)(u11_3:lN)(u11_4:lE)(u11_5:lE):OA:=
 (some [(aH (⟨u11_2,u11_3,u11_4,u11_5⟩:Host)),(aI u11_0),(aB true)])
def zph (N:Nat)(u10_0:Int)(u10_1:Bool)(u10_2:Int)(u10_7:Int)(u10_8:Int)(u10_9:lM)(u10_10:lN)(u10_11:lE)(u10_12:lE)(u10_13:lM)(u10_14:lN)(u10_15:lE)(u10_16:lE):OA:=
 let y0:=(⟨u10_2,u10_0,u10_7,u10_8⟩:Entry); (share (fun (s11:(Int×(Int×(lM×(lN×(lE×(lE×(lM×(lN×(lE×(lE×Unit)))))))))))=>(zNs N s11.1 s11.2.2.1 s11.2.2.2.1 s11.2.2.2.2.1 s11.2.2.2.2.2.1)) (fun r11=>(cond u10_1 (oN (zoY u10_12 y0) (r11 (u10_7,(u10_8,(u10_9,(u10_10,(u10_11,((zoX u10_12 y0),(u10_13,(u10_14,(u10_15,(u10_16,())))))))))))) (oN (zoY u10_11 y0) (r11 (u10_7,(u10_8,(u10_9,(u10_10,((zoX u10_11 y0),(u10_12,(u10_13,(u10_14,(u10_15,(u10_16,())))))))))))))))
def zrI (N:Nat)(u9_11:lM)(u9_12:lN)(u9_13:lE)(u9_14:lE)(u9_0:Int)(u9_5:Int)(u9_3:Int)(u9_1:Int)(u9_2:Int)(r10:((Int×(Bool×(Int×(Int×(Int×(Int×(Int×(Int×(Int×(lM×(lN×(lE×(lE×(lM×(lN×(lE×(lE×Unit))))))))))))))))))->OA)(u9_4:Bool)(u9_6:Int)(u9_7:Int)(u9_8:Int)(u9_9:Int)(u9_10:Int)(u9_15:lM)(u9_16:lN)(u9_17:lE)(u9_18:lE):OA:=
 let y7:=(⟨u9_11,u9_12,u9_13,u9_14⟩:Host);let y1:=(znF y7 u9_0 u9_5 u9_3);let y3:=(inb u9_0 (ln y1.Mons));let y0:=(zRC u9_11 u9_12 u9_13 u9_14 u9_0 u9_5 u9_3);let y6:=(ix y0.Tables u9_1 zd0);let y4:=(ix y0.Guests u9_1 zi).Live; (oN (zmD y7 u9_0 u9_5 u9_3) (oN y3 (oN y3 (oN (inb u9_1 (ln y0.Tables)) (oN y3 (oN (inb u9_1 (ln y0.Guests)) (oN y3 (oN (zJe y6 y4 y0.Outer u9_2) (oN (inb u9_1 (ln y0.Tables)) (share (up y1.Mons u9_0 ({ y0 with Tables:=(up y0.Tables u9_1 (zMS y6 y4 y0.Outer u9_2)) }:Mon)) (fun x11=>let y5:=(ix x11 u9_0 zf).Tables;let y2:=(ix y5 u9_1 zd0); (oN (inb u9_0 (ln x11)) (oN (inb u9_1 (ln y5)) (oN (zEO y2 u9_2) (r10 (u9_2,(u9_4,(u9_6,(u9_7,(u9_8,(u9_9,(u9_10,((ztl y2 u9_2).Page,((ztl y2 u9_2).Rights,(y1.Memory,(x11,(y1.Buffer,(y1.IoBuffer,(u9_15,(u9_16,(u9_17,(u9_18,()))))))))))))))))))))))))))))))))
def zk7 (N:Nat)(u9_0:Int)(u9_1:Int)(u9_2:Int)(u9_3:Int)(u9_4:Bool)(u9_5:Int)(u9_6:Int)(u9_7:Int)(u9_8:Int)(u9_9:Int)(u9_10:Int)(u9_11:lM)(u9_12:lN)(u9_13:lE)(u9_14:lE)(u9_15:lM)(u9_16:lN)(u9_17:lE)(u9_18:lE):OA:=
 let y3:=(ix u9_12 u9_0 zf).Tables;let y0:=(ix y3 u9_1 zd0);let y2:=(ztl y0 u9_2); (oN (inb u9_0 (ln u9_12)) (oN (inb u9_1 (ln y3)) (oN (zEO y0 u9_2) (share (fun (s10:(Int×(Bool×(Int×(Int×(Int×(Int×(Int×(Int×(Int×(lM×(lN×(lE×(lE×(lM×(lN×(lE×(lE×Unit))))))))))))))))))=>(zph N s10.1 s10.2.1 s10.2.2.1 s10.2.2.2.2.2.2.2.1 s10.2.2.2.2.2.2.2.2.1 s10.2.2.2.2.2.2.2.2.2.1 s10.2.2.2.2.2.2.2.2.2.2.1 s10.2.2.2.2.2.2.2.2.2.2.2.1 s10.2.2.2.2.2.2.2.2.2.2.2.2.1 s10.2.2.2.2.2.2.2.2.2.2.2.2.2.1 s10.2.2.2.2.2.2.2.2.2.2.2.2.2.2.1 s10.2.2.2.2.2.2.2.2.2.2.2.2.2.2.2.1 s10.2.2.2.2.2.2.2.2.2.2.2.2.2.2.2.2.1)) (fun r10=>let y1:=(zrI N u9_11 u9_12 u9_13 u9_14 u9_0 u9_5 u9_3 u9_1 u9_2 r10 u9_4 u9_6 u9_7 u9_8 u9_9 u9_10 u9_15 u9_16 u9_17 u9_18); (cond (nB (zEN y0 u9_2)) y1 (cond (ieq y2.Page (-1)) y1 (oN (zgE y2.Rights u9_3) (cond (nB (zhl y2.Rights u9_3)) y1 (r10 (u9_2,(u9_4,(u9_6,(u9_7,(u9_8,(u9_9,(u9_10,(y2.Page,(y2.Rights,(u9_11,(u9_12,(u9_13,(u9_14,(u9_15,(u9_16,(u9_17,(u9_18,())))))))))))))))))))))))))))
def zrJ (N:Nat)(a2:Int)(a0:Host)(a3 a4 a5:Int)(a1:lE)(a6:Bool):OA:=
 let y3:=(ztn a2 a3);let y2:=(zRD a0 a2 a3 a4 a5);let y1:=(ix a0.Mons a2 zf);let y5:=(ix y1.Guests a3 zi).Live;let y0:=(zmO a1 y3 a4);let y4:=y0.Rights; (oN (inb a2 (ln a0.Mons)) (oN (inb a3 (ln y1.Guests)) (oN (zsf y5 a4 a5) (cond (nB (zjB y5 a4 a5)) (some [(aH a0),(aI (-1)),(aB false)]) (oN (zkL a2 a3) (cond (ieq a5 2) (oN (inb a2 (ln a0.Mons)) (oN (inb y2 (ln y1.Dirty)) (share (up a0.Mons a2 ({ y1 with Dirty:=(up y1.Dirty y2 true) }:Mon)) (fun x8=>(oN (zmP a1 y3 a4) (share (fun (s9:(Int×(Int×(Int×(Int×(Bool×(Int×(Int×(Int×(Int×(Int×(Int×(lM×(lN×(lE×(lE×(lM×(lN×(lE×(lE×Unit))))))))))))))))))))=>(zk7 N s9.1 s9.2.1 s9.2.2.1 s9.2.2.2.1 s9.2.2.2.2.1 s9.2.2.2.2.2.1 s9.2.2.2.2.2.2.1 s9.2.2.2.2.2.2.2.1 s9.2.2.2.2.2.2.2.2.1 s9.2.2.2.2.2.2.2.2.2.1 s9.2.2.2.2.2.2.2.2.2.2.1 s9.2.2.2.2.2.2.2.2.2.2.2.1 s9.2.2.2.2.2.2.2.2.2.2.2.2.1 s9.2.2.2.2.2.2.2.2.2.2.2.2.2.1 s9.2.2.2.2.2.2.2.2.2.2.2.2.2.2.1 s9.2.2.2.2.2.2.2.2.2.2.2.2.2.2.2.1 s9.2.2.2.2.2.2.2.2.2.2.2.2.2.2.2.2.1 s9.2.2.2.2.2.2.2.2.2.2.2.2.2.2.2.2.2.1 s9.2.2.2.2.2.2.2.2.2.2.2.2.2.2.2.2.2.2.1)) (fun r9=>(cond (zjy a1 y3 a4) (oN (zgE y4 a5) (cond (zhl y4 a5) (some [(aH ({ a0 with Mons:=x8 }:Host)),(aI y0.Host),(aB true)]) (r9 (a2,(a3,(a4,(a5,(a6,(y2,(y3,(y0.Tag,(y0.Page,(y0.Host,(y4,(a0.Memory,(x8,(a0.Buffer,(a0.IoBuffer,([],([],([],([],())))))))))))))))))))))) (r9 (a2,(a3,(a4,(a5,(a6,(y2,(y3,(y0.Tag,(y0.Page,(y0.Host,(y4,(a0.Memory,(x8,(a0.Buffer,(a0.IoBuffer,([],([],([],([],())))))))))))))))))))))))))))) (oN (zmP a1 y3 a4) (share (fun (s8:(Int×(Int×(Int×(Int×(Bool×(Int×(Int×(Int×(Int×(Int×(Int×(lM×(lN×(lE×(lE×(lM×(lN×(lE×(lE×Unit))))))))))))))))))))=>(zk7 N s8.1 s8.2.1 s8.2.2.1 s8.2.2.2.1 s8.2.2.2.2.1 s8.2.2.2.2.2.1 s8.2.2.2.2.2.2.1 s8.2.2.2.2.2.2.2.1 s8.2.2.2.2.2.2.2.2.1 s8.2.2.2.2.2.2.2.2.2.1 s8.2.2.2.2.2.2.2.2.2.2.1 s8.2.2.2.2.2.2.2.2.2.2.2.1 s8.2.2.2.2.2.2.2.2.2.2.2.2.1 s8.2.2.2.2.2.2.2.2.2.2.2.2.2.1 s8.2.2.2.2.2.2.2.2.2.2.2.2.2.2.1 s8.2.2.2.2.2.2.2.2.2.2.2.2.2.2.2.1 s8.2.2.2.2.2.2.2.2.2.2.2.2.2.2.2.2.1 s8.2.2.2.2.2.2.2.2.2.2.2.2.2.2.2.2.2.1 s8.2.2.2.2.2.2.2.2.2.2.2.2.2.2.2.2.2.2.1)) (fun r8=>(cond (zjy a1 y3 a4) (oN (zgE y4 a5) (cond (zhl y4 a5) (some [(aH a0),(aI y0.Host),(aB true)]) (r8 (a2,(a3,(a4,(a5,(a6,(y2,(y3,(y0.Tag,(y0.Page,(y0.Host,(y4,(a0.Memory,(a0.Mons,(a0.Buffer,(a0.IoBuffer,([],([],([],([],())))))))))))))))))))))) (r8 (a2,(a3,(a4,(a5,(a6,(y2,(y3,(y0.Tag,(y0.Page,(y0.Host,(y4,(a0.Memory,(a0.Mons,(a0.Buffer,(a0.IoBuffer,([],([],([],([],()))))))))))))))))))))))))))))))
def zp9 (N:Nat)(a0:Host)(a1:lE)(a2 a3:Int)(a4 a5:Int)(a6:Bool):OA:=
 let y1:=(zrJ N a2 a0 a3 a4 a5 a1 a6);let y0:=(wsub .i64 (ln (ix a0.Mons a2 zf).Guests) 1); (oN (zfb a0) (cond (nB (zfa a0)) (some [(aH a0),(aI (-1)),(aB false)]) (oN (zK a2 0 (wsub .i64 (ln a0.Mons) 1)) (cond (nB (zM a2 0 (wsub .i64 (ln a0.Mons) 1))) (some [(aH a0),(aI (-1)),(aB false)]) (oN (inb a2 (ln a0.Mons)) (oN (zK a3 0 y0) (cond (nB (zM a3 0 y0)) (some [(aH a0),(aI (-1)),(aB false)]) (cond (ine a5 1) (cond (ine a5 2) (some [(aH a0),(aI (-1)),(aB false)]) y1) y1))))))))
def zsl:FuncId->Nat->Option Tmpl:=zq [(222,999999,{ n:=0,tm:=[],lo:=[],ro:=[] }),(222,1007023,{ n:=210,tm:=[(2,ti),(3,ti),(4,ti),(5,ti),(6,.b),(7,.lp 0 0),(14,.lp 1 0),(17,ti),(19,ti),(20,.lp 2 0)],lo:=[(0,[.sl 0 [],.sl 1 [],.sl 2 [],.sl 3 []]),(1,[.sl 4 [],.sl 5 [],.sl 6 [],.sl 7 []]),(2,[ti,ti,ti,ti])],ro:=[(0,(.sl .int),true),(1,.mon,true),(2,.entry,true),(3,.entry,true),(4,(.sl .int),true),(5,.mon,true),(6,.entry,true),(7,.entry,true)],kr:=1 }),(222,1009011,{ n:=210,tm:=[(4,ti),(6,.b),(7,.lp 0 0),(14,.lp 1 0),(19,ti),(20,.lp 2 0),(22,.lp 3 0)],lo:=[(0,[.sl 0 [],.sl 1 [],.sl 2 [],.sl 3 []]),(1,[.sl 4 [],.sl 5 [],.sl 6 [],.sl 7 []]),(2,[ti,ti,ti,ti]),(3,[ti,ti])],ro:=[(0,(.sl .int),true),(1,.mon,true),(2,.entry,true),(3,.entry,true),(4,(.sl .int),true),(5,.mon,true),(6,.entry,true),(7,.entry,true)],kr:=1 }),(222,1005003,{ n:=210,tm:=[(7,.lp 0 0),(14,.lp 1 0),(22,.lp 2 0)],lo:=[(0,[.sl 0 [],.sl 1 [],.sl 2 [],.sl 3 []]),(1,[.sl 4 [],.sl 5 [],.sl 6 [],.sl 7 []]),(2,[ti,ti])],ro:=[(0,(.sl .int),true),(1,.mon,true),(2,.entry,true),(3,.entry,true),(4,(.sl .int),true),(5,.mon,true),(6,.entry,true),(7,.entry,true)],kr:=1 })]
theorem zPF (N:Nat)(a0:Host)(a2 a3:Int)(a4 a5:Int)(a6:Bool):zTn (cQ zmG zop z1g z1I) zsl N 12 222 [true,true,true,true,false,false,false,false,false,false] [(4,2)] 1 1 [[0],[1],[2],[4],[7]] .mon [aH a0,aS .entry a0.Buffer,aI a2,aI a3,aI a4,aI a5,aB a6]=zp9 N a0 a0.Buffer a2 a3 a4 a5 a6:=by kernel_rfl
theorem zPG (N:Nat)(a0:Host)(a2 a3:Int)(a4 a5:Int)(a6:Bool):zTn (cQ zmG zop z1g z1I) zsl N 12 222 [true,true,true,true,false,false,false,false,false,false] [(4,3)] 1 1 [[0],[1],[2],[4],[7]] .mon [aH a0,aS .entry a0.IoBuffer,aI a2,aI a3,aI a4,aI a5,aB a6]=zp9 N a0 a0.IoBuffer a2 a3 a4 a5 a6:=by kernel_rfl
theorem zEz {N:Nat}{r:Host}{m g page:Int}{io:Bool}{z1 z2 z3 z4}(hb:r.Buffer.length<=1048576)(hi:r.IoBuffer.length<=1048576) :
 zph N page io (zdG m g) (zdA (zbP r m g) page).Page (zdA (zbP r m g) page).Rights r.Memory r.Mons r.Buffer r.IoBuffer z1 z2 z3 z4=some (zjf (zel r m g page io)):=by
 unfold zph oN
 conv=>zeta
 refine shr ?_;cases io
 .exact zcH rfl (must (zbb hb) rfl)
 .exact must rfl (must (zbb hi) rfl)
theorem zUl {N:Nat}{r:Host}{m g page need q:Int}{io:Bool}{R:OA}{r11}{u6 u7 u8 u9 u10 z1 z2 z3 z4}(A:LookAt r m g q need)(hr:r11 (page,(io,(u6,(u7,(u8,(u9,(u10,((zdA (zbP (zb9 (mended r m q need) m g page) m g) page).Page,((zdA (zbP (zb9 (mended r m q need) m g page) m g) page).Rights,((zb9 (mended r m q need) m g page).Memory,((zb9 (mended r m q need) m g page).Mons,((zb9 (mended r m q need) m g page).Buffer,((zb9 (mended r m q need) m g page).IoBuffer,(z1,(z2,(z3,(z4,())))))))))))))))))=R) :
 zrI N r.Memory r.Mons r.Buffer r.IoBuffer m q need g page r11 io u6 u7 u8 u9 u10 z1 z2 z3 z4=R:=by
 have M:=zlr A.kp A.hm A.hg;have F:=zlr (A.fill page) A.hm A.hg;unfold zrI oN
 conv=>zeta
 exact must (zbb A.mend) (must (zx M.hm) (must (zx M.hm) (must (zx M.ht) (must (zx M.hm) (must (zx M.hg) (must (zx M.hm) (must (zbb M.hk) (must (zx M.ht) (shr (must (zx F.hm) (must (zx F.ht) (must (zbb F.hk) hr))))))))))))
theorem zZD {r:Host}{m g page need:Int}(h:ziv (zbP r m g) page=false):zeb r m g page need=true:=by
 unfold zeb;rw[h];rfl
theorem zZE {r:Host}{m g page need:Int}(h:ieq (zdA (zbP r m g) page).Page (-1)=true):zeb r m g page need=true:=by
 unfold zeb;rw[h];cases ziv (zbP r m g) page<;>rfl
theorem zZF {r:Host}{m g page need:Int}(h:enough (zdA (zbP r m g) page).Rights need=false):zeb r m g page need=true:=by
 unfold zeb;rw[h];cases ziv (zbP r m g) page<;>cases ieq (zdA (zbP r m g) page).Page (-1)<;>rfl
theorem zZG {r:Host}{m g page need:Int}(h1:ziv (zbP r m g) page=true)(h2:ieq (zdA (zbP r m g) page).Page (-1)=false)(h3:enough (zdA (zbP r m g) page).Rights need=true):zeb r m g page need=false:=by
 unfold zeb;rw[h1,h2,h3];rfl
theorem ztg {r:Host}{m g page need q:Int}{io:Bool}(h:zeb r m g page need=true):(cond (zeb r m g page need) (zel (zb9 (mended r m q need) m g page) m g page io) (zel r m g page io))=zel (zb9 (mended r m q need) m g page) m g page io:=by
 rw[h];rfl
theorem zZg {r:Host}{m g page need q:Int}{io:Bool}(h:zeb r m g page need=false):(cond (zeb r m g page need) (zel (zb9 (mended r m q need) m g page) m g page io) (zel r m g page io))=zel r m g page io:=by
 rw[h];rfl
theorem zEA {N:Nat}{r:Host}{m g page need q:Int}{io:Bool}{u7 u8 u9 u10 z1 z2 z3 z4}(A:LookAt r m g q need) :
 zk7 N m g page need io q (zdG m g) u7 u8 u9 u10 r.Memory r.Mons r.Buffer r.IoBuffer z1 z2 z3 z4=some (zjf (cond (zeb r m g page need) (zel (zb9 (mended r m q need) m g page) m g page io) (zel r m g page io))):=by
 have M:=zlr ⟨A.fit.1,rfl⟩ A.hm A.hg;have F:=zlr (A.fill page) A.hm A.hg;unfold zk7 oN nB
 conv=>zeta
 refine must (zx M.hm) (must (zx M.ht) (must (zbb M.hk) (shr (brN (fun h1=>?_) (fun h1=>br (fun h2=>?_) (fun h2=>must rfl (brN (fun h3=>?_) (fun h3=>?_))))))))
 .rw [ztg (zZD h1)];exact zUl A (zEz (r:=zb9 (mended r m q need) m g page) (m:=m) (g:=g) F.hb F.hi)
 .rw [ztg (zZE h2)];exact zUl A (zEz (r:=zb9 (mended r m q need) m g page) (m:=m) (g:=g) F.hb F.hi)
 .rw [ztg (zZF h3)];exact zUl A (zEz (r:=zb9 (mended r m q need) m g page) (m:=m) (g:=g) F.hb F.hi)
 .rw [zZg (zZG h1 h2 h3)];exact zEz (r:=r) (m:=m) (g:=g) M.hb M.hi
theorem zED {b:List Entry}{m g page need:Int}(h:(zq8 b m g page).isSome=false):zhs b m g page need=false:=by
 unfold zhs;rw[h];rfl
theorem znq {b:List Entry}{m g page need:Int}{x:Bool}(h1:(zq8 b m g page).isSome=true)(h:enough ((zq8 b m g page).getD ⟨0,0,0,0⟩).Rights need=x):zhs b m g page need=x:=by
 unfold zhs;rw[h1,h];rfl
theorem znw {r:Host}{b:List Entry}{m g page need q:Int}{io:Bool}(h:zhs b m g page need=false):zfT r b m g page need q io=bif zeb r m g page need then zel (zb9 (mended r m q need) m g page) m g page io else zel r m g page io:=by
 unfold zfT;rw[h];rfl
theorem zEI {r:Host}{b:List Entry}{m g page need q:Int}{io:Bool}(h:zhs b m g page need=true):zfT r b m g page need q io=(r,((zq8 b m g page).getD ⟨0,0,0,0⟩).Host,true):=by
 unfold zfT;rw[h];rfl
theorem zI5 {h:Host}{b:List Entry}{m g page need:Int}{io:Bool}(hh:zbM h m g page need=true):lookOf h b m g page need io=zfT (cond (ieq need 2) (zbt h m (zbV (zb5 h m g) page need)) h) b m g page need (zbV (zb5 h m g) page need) io:=by
 unfold lookOf;rw[hh];rfl
theorem z2K {N:Nat}{r:Host}{b:List Entry}{m g page need:Int}{io:Bool}(hs:SmH r)(hg:zbF r m g=true)(hn:zfA need=true) :
 zrJ N m r g page need b io=some (zjf (lookOf r b m g page need io)):=by
 obtain ⟨g1,g2,g3⟩:=zcI hg;unfold zrJ oN nB
 conv=>zeta
 refine must (zx g2) (must (zx g3) (must rfl (brN (fun hw=>?_) (fun hw=>must rfl ?_))))
 .have:zbM r m g page need=false:=by
   unfold zbM;rw[hg,hn,show zdZ (zb5 r m g) page need=false from hw]
   rfl
  rw[zgZ this];rfl
 .have hl:zbM r m g page need=true:=by
   unfold zbM;rw[hg,hn,show zdZ (zb5 r m g) page need=true from hw]
   rfl
  obtain ⟨A,B⟩:=zCX hs hl;rw[zI5 hl];have hd:hasB (zbV (zb5 r m g) page need) (ln (ix r.Mons m mZ).Dirty)=true:=zdk (zcc A.fit.1 g2).2.2.2.1 A.hq;refine br (fun h2=>?_) (fun h2=>?_)
  .rw [h2]
   show _=some (zjf (zfT (zbt r m (zbV (zb5 r m g) page need)) b m g page need (zbV (zb5 r m g) page need) io))
   refine must (zx g2) (must (zx hd) (shr (must rfl (shr (br (fun f1=>must rfl (br (fun f2=>?_) (fun f2=>?_))) (fun f1=>?_))))))
   .rw [zEI (znq f1 f2)];rfl
   .rw [znw (znq f1 f2)];exact zEA (r:=zbt r m (zbV (zb5 r m g) page need)) B
   .rw [znw (zED f1)];exact zEA (r:=zbt r m (zbV (zb5 r m g) page need)) B
  .rw [h2]
   show _=some (zjf (zfT r b m g page need (zbV (zb5 r m g) page need) io))
   refine must rfl (shr (br (fun f1=>must rfl (br (fun f2=>?_) (fun f2=>?_))) (fun f1=>?_)))
   .rw [zEI (znq f1 f2)];rfl
   .rw [znw (znq f1 f2)];exact zEA A
   .rw [znw (zED f1)];exact zEA A
theorem zSX (a0:Host)(a1:List Entry)(a2 a3:Int)(a4 a5:Int)(a6:Bool)(hb:zbD big [aH a0,aS .entry a1,aI a2,aI a3,aI a4,aI a5,aB a6])(hc:zj3 a0 a1 a2 a3 a4 a5 a6=true):∃N,zp9 N a0 a1 a2 a3 a4 a5 a6=some [aH (ze2 a0 a1 a2 a3 a4 a5 a6),aI (zj2 a0 a1 a2 a3 a4 a5 a6),aB (zgQ a0 a1 a2 a3 a4 a5 a6)]:=by
 have hs:=(zJ a0).1 (zD.1 hc);refine ⟨0,?_⟩
 show _=some (zjf (lookOf a0 a1 a2 a3 a4 a5 a6))
 unfold zp9 oN nB
 conv=>zeta
 refine must rfl (brN (fun h1=>?_) (fun h1=>must rfl ?_))
 .rw [zgZ (znx (zNE h1))];rfl
 rw[show zM a2 0 (wsub .i64 (ln a0.Mons) 1)=hasB a2 (ln a0.Mons) from zp8 hs.2.1.1 a2]
 refine brN (fun h2=>?_) (fun h2=>must (zx h2) (must rfl ?_))
 .rw [zgZ (znx (zNF h2))];rfl
 have hl:(ix a0.Mons a2 mZ).Guests.length<=1048576:=(hs.2.1.2 _ (zbv h2 _)).2.2.2.1.1;rw[show zM a3 0 (wsub .i64 (ln (ix a0.Mons a2 zf).Guests) 1)=hasB a3 (ln (ix a0.Mons a2 mZ).Guests) from zp8 hl a3]
 refine brN (fun h3=>?_) (fun h3=>?_)
 .rw [zgZ (znx (zNG h3))];rfl
 have hg:=zNH h1 h2 h3;have hno:∀{n:Int},zfA n=false->zbM a0 a2 a3 a4 n=false:=fun {n} h=>by
  unfold zbM;rw[hg,h];rfl
 rw[zln,zln];cases h4:ieq a5 1
 .cases h5:ieq a5 2
  .have:zfA a5=false:=by unfold zfA;rw[h4,h5];rfl
   rw[zgZ (hno this)];rfl
  .exact z2K hs hg (by unfold zfA;rw[h4,h5];rfl)
 .exact z2K hs hg (by unfold zfA;rw[h4];rfl)
theorem zLO:zd6 Tryz.prog 222 [true,true,true,true,false,false,false,false,false,false] (some (1,1,[[0],[1],[2],[4],[7]])) zr9:=by
 refine zNI (kt:=.mon) (zcT zg9 zk zbQ zyx) (zd2 (by kernel_rfl)) ?_
 intro al avs rs hal heq hl hr h;have hb:=zij hr;have hal':al=[(4,2)]\/al=[(4,3)]:=by
  rw[show zhF 222=[[(4,2)],[(4,3)]] from by kernel_rfl]at hal
  simpa using hal
 unfold zr9 at h;split at h
 .rename_i a0_0 a0_1 a0_2 a0_3 a1 a2 a3 a4 a5 a6;obtain ⟨hc,rfl⟩:=zdS h;obtain ⟨N,hN⟩:=zSX (⟨a0_0,a0_1,a0_2,a0_3⟩:Host) a1 a2 a3 a4 a5 a6 hb hc;refine ⟨⟨_,rfl⟩,rfl,zsl,N,12,?_⟩;rcases hal' with rfl|rfl
  .have e:=heq 4 2 (by simp)
   simp only[zA,j8,AV.cvs] at e;cases e;exact (zPF N (⟨a0_0,a0_1,a0_2,a0_3⟩:Host) a2 a3 a4 a5 a6).trans hN
  .have e:=heq 4 3 (by simp)
   simp only[zA,j8,AV.cvs] at e;cases e;exact (zPG N (⟨a0_0,a0_1,a0_2,a0_3⟩:Host) a2 a3 a4 a5 a6).trans hN
 .cases h
def z6u:ze4:=[(222,([true,true,true,true,false,false,false,false,false,false],(some (1,1,[[0],[1],[2],[4],[7]])),zr9))]++z1I
theorem zfp:zd7 z6u:=zp5 zyx (by
 intro x hx;simp only[qI,qU,or_false]at hx;rcases hx with rfl
 .exact zLO)
def gOf (h:Host)(m g:Int):Guest:=ix (ix h.Mons m mZ).Guests g gZ
def zfv (h:Host)(m g:Int)(x:Guest):Host:={ h with Mons:=up h.Mons m { ix h.Mons m mZ with Guests:=up (ix h.Mons m mZ).Guests g x } }
def zho (h:Host)(m g:Int)(x:Guest)(w:Bool):Host×Int×Bool:=lookOf h h.Buffer m g (zX (address x)) (zbO w) false
def zgu (L:Host×Int×Bool)(m g:Int)(x:Guest)(w:Bool):Host :=
 bif L.2.2 then (cond w (zfv { L.1 with Memory:=zbu L.1.Memory L.2.1 (zcG (address x)) x.A } m g (zbJ x)) (zfv L.1 m g (loaded x (cellAt L.1.Memory L.2.1 (zcG (address x))))))
 else zfv L.1 m g (stopped x (znn (zX (address x)) w))
def owned (h:Host)(m:Int):Host:=bif ilt (ix h.Mons m mZ).Own 1000000000 then { h with Mons:=up h.Mons m { ix h.Mons m mZ with Own:=zG .i64 (ix h.Mons m mZ).Own 1 } } else h
def zhi (h:Host)(m n:Int):Host:=bif ilt (ln (ix h.Mons m mZ).Outs) 40 then { h with Mons:=up h.Mons m { ix h.Mons m mZ with Outs:=ap (ix h.Mons m mZ).Outs [n] } } else h
def zd5 (h:Host)(m:Int)(x:Guest)(w:Int):Host:=bif (cond (ine w 6) (ieq (zjd (ix h.Mons m mZ).Traps x.Ctl.Traps (zeT w)) 2) false) then owned h m else h
def zf1 (h:Host)(m:Int)(x:Guest)(w:Int):Host:=bif (cond (zgo x.Ctl.Traps w) (ieq w 5) false) then zhi h m (zbY x.Prog x.Pc).X else h
def zjn (h:Host)(m g:Int)(x:Guest)(w:Int):Host:=zfv (zf1 (zd5 h m x w) m x w) m g (zeV x x.Ctl.Traps w)
def zM8 (h:Host)(m g:Int)(x:Guest)(w:Int):Host×Bool :=
 bif ieq w 0 then (h,false) else (bif ieq w 1 then (zfv h m g (interrupted x),true) else (bif ieq w 2 then (zfv h m g (plainly x),true) else
  (cond (cond (ieq w 3) true (ieq w 4)) (zgu (zho h m g x (ieq w 4)) m g x (ieq w 4),true) (zjn h m g x w,true))))
def zbh (h:Host)(m g:Int):Host×Bool:=bif zbF h m g then zM8 h m g (gOf h m g) (zF (gOf h m g)) else (h,false)
def zdW (x:Host×Bool):List AV:=[.agg (zba x.1),.one (.b x.2)]
theorem zjG {h:Host}{m g:Int}(hs:SmH h)(hm:hasB m (ln h.Mons)=true)(hg:hasB g (ln (ix h.Mons m mZ).Guests)=true):SmG (gOf h m g):=(hs.2.1.2 _ (zbv hm _)).2.2.2.1.2 _ (zbv hg _)
theorem z1y {h:Host}{m g:Int}{x:Guest}(hs:Shape h)(hm:hasB m (ln h.Mons)=true)(hx:SmG x):Shape (zfv h m g x):=by
 obtain ⟨g1,g2⟩:=zcc hs hm;exact zic hs ⟨g1.1,g1.2.1,g1.2.2.1,zET g1.2.2.2.1 hx,g1.2.2.2.2⟩ ⟨g2.1,g2.2.1,g2.2.2.1,by simpa using g2.2.2.2⟩
theorem zbar (o i t:Int):ieq (zjd o i t) 1=zc8 i t:=by
 unfold zjd;cases zc8 i t
 .cases zc8 o t<;>rfl
 .rfl
theorem zbas {o i t:Int}(h:zc8 i t=true):ieq (zjd o i t) 2=false:=by
 unfold zjd;rw[h];rfl
theorem zoq {h:Host}{m:Int}(hm:hasB m (ln h.Mons)=true)(x:Mon):ix (up h.Mons m x) m mZ=x:=by
 obtain ⟨k,rfl,hk⟩:=zdJ (n:=h.Mons.length) hm;exact zdO hk _ _
@[simp] abbrev zez (h:Host)(m g:Int):Bool:=pc (zcd h)
@[simp] abbrev zD6 (h:Host)(m g:Int):Host:=(zbh h m g).1
@[simp] abbrev zD7 (h:Host)(m g:Int):Bool:=(zbh h m g).2
theorem zTo {α:Type}{l:List α}{x:α}(h:ilt (ln l) 40=true):few (ln (ap l [x]))=true:=by
 have:=qD h;simp only[ln] at this;exact zgw (by simp[ap];omega)
theorem zZJ {h:Host}{m:Int}{x:Guest}{w:Int}(hh:(cond (zgo x.Ctl.Traps w) (ieq w 5) false)=false):zf1 h m x w=h:=by
 unfold zf1;rw[hh];rfl
theorem zRx {h:Host}{m:Int}{x:Guest}{w:Int}(hh:ilt (ln (ix h.Mons m mZ).Outs) 40=false):zf1 h m x w=h:=by
 unfold zf1 zhi;rw[hh];cases (cond (zgo x.Ctl.Traps w) (ieq w 5) false)<;>rfl
theorem zWQ {h:Host}{m:Int}{x:Guest}{w:Int}(h1:zgo x.Ctl.Traps w=true)(h2:ieq w 5=true)(hh:ilt (ln (ix h.Mons m mZ).Outs) 40=true):zf1 h m x w={ h with Mons:=up h.Mons m { ix h.Mons m mZ with Outs:=ap (ix h.Mons m mZ).Outs [(zbY x.Prog x.Pc).X] } }:=by
 unfold zf1 zhi;rw[h1,h2,hh];rfl
theorem zNe {h:Host}{m:Int}{x:Guest}{w:Int}(h1:zgo x.Ctl.Traps w=false):zf1 h m x w=h:=zZJ (by rw[h1];rfl)
theorem zEk {h:Host}{m:Int}{x:Guest}{w:Int}(h1:ieq w 5=false):zf1 h m x w=h:=zZJ (by rw[h1];cases zgo x.Ctl.Traps w<;>rfl)
theorem zLT (a:Int):(cond (ieq a a) true false)=true:=by rw[zdU];rfl
theorem zhC {h:Host}{m g:Int}(hh:zbF h m g=false):zbh h m g=(h,false):=by
 unfold zbh;rw[hh];rfl
theorem zid {h:Host}{m g:Int}(hh:zbF h m g=true):zbh h m g=zM8 h m g (gOf h m g) (zF (gOf h m g)):=by
 unfold zbh;rw[hh];rfl
theorem zlT {a b:Bool}(h:(cond a b false)=true):a=true/\b=true:=by
 cases a
 .cases h
 .exact ⟨rfl,h⟩
theorem zie {a b:Bool}(ha:a=true)(hb:b=true):(cond a b false)=true:=by
 rw[ha];exact hb
theorem zZM {h:Host}{m:Int}{x:Guest}{w:Int}(h6:ine w 6=true)(h0:ieq (zjd (ix h.Mons m mZ).Traps x.Ctl.Traps (zeT w)) 2=true)(h9:ilt (ix h.Mons m mZ).Own 1000000000=true):zd5 h m x w={ h with Mons:=up h.Mons m { ix h.Mons m mZ with Own:=zG .i64 (ix h.Mons m mZ).Own 1 } }:=by
 unfold zd5 owned;rw[h6,h0,h9];rfl
theorem zZK {h:Host}{m:Int}{x:Guest}{w:Int}(h0:ieq (zjd (ix h.Mons m mZ).Traps x.Ctl.Traps (zeT w)) 2=false):zd5 h m x w=h:=by
 unfold zd5;rw[h0];cases ine w 6<;>rfl
theorem zZL {h:Host}{m:Int}{x:Guest}{w:Int}(h9:ilt (ix h.Mons m mZ).Own 1000000000=false):zd5 h m x w=h:=by
 unfold zd5 owned;rw[h9];cases (cond (ine w 6) (ieq (zjd (ix h.Mons m mZ).Traps x.Ctl.Traps (zeT w)) 2) false)<;>rfl
theorem z9E {h:Host}{m:Int}{x:Guest}:zd5 h m x 6=h:=rfl
theorem znj {h h':Host}{m g:Int}{x:Guest}{w:Int}(e:zd5 h m x w=h'):zjn h m g x w=zfv (zf1 h' m x w) m g (zeV x x.Ctl.Traps w):=by
 unfold zjn;rw[e]
theorem z6w (x:Guest):ieq (zF x) 0=true\/ieq (zF x) 1=true\/ieq (zF x) 2=true\/ieq (zF x) 3=true\/ieq (zF x) 4=true\/ieq (zF x) 5=true\/ieq (zF x) 6=true\/ieq (zF x) 7=true:=by
 cases h0:ieq (zF x) 0
 .cases h1:ieq (zF x) 1
  .cases h2:ieq (zF x) 2
   .cases h3:ieq (zF x) 3
    .cases h4:ieq (zF x) 4
     .cases h5:ieq (zF x) 5
      .cases h6:ieq (zF x) 6
       .exact .inr (.inr (.inr (.inr (.inr (.inr (.inr (z1K x h0 h1 h2 h3 h4 h5 h6)))))))
       .exact .inr (.inr (.inr (.inr (.inr (.inr (.inl rfl))))))
      .exact .inr (.inr (.inr (.inr (.inr (.inl rfl)))))
     .exact .inr (.inr (.inr (.inr (.inl rfl))))
    .exact .inr (.inr (.inr (.inl rfl)))
   .exact .inr (.inr (.inl rfl))
  .exact .inr (.inl rfl)
 .exact .inl rfl
abbrev zA5 (x:Guest):Bool:=bif zeJ x then ieq (zF x) 0 else false
def zoz:List AV->Option (Bool×List AV)
 | [.agg [.s .ins c,.i .i64 d,.i .i64 e,.s .slot f,.s .slot g,.i .i64 h,.i .i64 j,.b k,.i .i64 l,.i .i64 m,.i .i64 n,.b o,.i .i64 p,.b q,.s .int r]]=>some ((zA5 (⟨c,d,e,f,g,⟨h,j,k⟩,l,⟨m,n,o,p⟩,q,r⟩:Guest)),[.one (.i .i64 0)])
 | _=>none
theorem zFk:u3 200 zoz:=by
 refine ⟨zb4.1,fun w avs xs rs hrep h=>?_⟩;unfold zoz at h;split at h
 .obtain ⟨hc,rfl⟩:=zdS h;obtain ⟨h1,h2⟩:=zlT hc;exact zb4.2 w _ xs _ hrep (congr (congrArg (fun c v=>some (c,[AV.one (CV.i .i64 v)])) h1) (qD h2))
 .cases h
def z8z:zQ:=[(200,zoz)]++zmG
theorem zZ8:zI z8z:=zh zFk zg9
@[simp] abbrev zvO (h:Host)(m g:Int):Bool:=bif zez h m g then ieq (zF (gOf h m g)) 0 else false
@[simp] abbrev zvM (h:Host)(m g:Int):Host:=(zbh h m g).1
@[simp] abbrev zvN (h:Host)(m g:Int):Bool:=(zbh h m g).2
def zFI:Run:=rF3 dH dI dI fun b c d=>(zvO b c d,[aH (zvM b c d),aB (zvN b c d)])
def zuM (N:Nat)(a0:Host)(a1 a2:Int):OA:=
 let y1:=(zu a0);let y0:=(ix y1.Mons a1 zf).Guests; (oN (zbI a0) (oN (zgR y1 a1 a2) (cond (nB (ziK y1 a1 a2)) (some [(aH y1),(aB false)]) (oN (inb a1 (ln y1.Mons)) (oN (inb a2 (ln y0)) (oN (zA5 (ix y0 a2 zi)) (some [(aH y1),(aB false)])))))))
abbrev zA6 (x:Guest):Bool:=bif zeJ x then ieq (zF x) 1 else false
def zoA:List AV->Option (Bool×List AV)
 | [.agg [.s .ins c,.i .i64 d,.i .i64 e,.s .slot f,.s .slot g,.i .i64 h,.i .i64 j,.b k,.i .i64 l,.i .i64 m,.i .i64 n,.b o,.i .i64 p,.b q,.s .int r]]=>some ((zA6 (⟨c,d,e,f,g,⟨h,j,k⟩,l,⟨m,n,o,p⟩,q,r⟩:Guest)),[.one (.i .i64 1)])
 | _=>none
theorem zFl:u3 200 zoA:=by
 refine ⟨zb4.1,fun w avs xs rs hrep h=>?_⟩;unfold zoA at h;split at h
 .obtain ⟨hc,rfl⟩:=zdS h;obtain ⟨h1,h2⟩:=zlT hc;exact zb4.2 w _ xs _ hrep (congr (congrArg (fun c v=>some (c,[AV.one (CV.i .i64 v)])) h1) (qD h2))
 .cases h
def z8A:zQ:=[(200,zoA)]++zmG
theorem zZ9:zI z8A:=zh zFl zg9
@[simp] abbrev zvR (h:Host)(m g:Int):Bool:=bif zez h m g then ieq (zF (gOf h m g)) 1 else false
@[simp] abbrev zvP (h:Host)(m g:Int):Host:=(zbh h m g).1
@[simp] abbrev zvQ (h:Host)(m g:Int):Bool:=(zbh h m g).2
def zFJ:Run:=rF3 dH dI dI fun b c d=>(zvR b c d,[aH (zvP b c d),aB (zvQ b c d)])
def zuN (N:Nat)(a0:Host)(a1 a2:Int):OA:=
 let y2:=(zu a0);let y0:=(ix y2.Mons a1 zf);let y1:=(ix y0.Guests a2 zi); (oN (zbI a0) (oN (zgR y2 a1 a2) (cond (nB (ziK y2 a1 a2)) (some [(aH y2),(aB false)]) (oN (inb a1 (ln y2.Mons)) (oN (inb a2 (ln y0.Guests)) (oN (zA6 y1) (oN (inb a1 (ln y2.Mons)) (oN (zoV y1) (oN (inb a2 (ln y0.Guests)) (share (up y2.Mons a1 ({ y0 with Guests:=(up y0.Guests a2 (zjz y1)) }:Mon)) (fun x4=>(some [(aH ({ y2 with Mons:=x4 }:Host)),(aB true)]))))))))))))
abbrev zA7 (x:Guest):Bool:=bif zeJ x then ieq (zF x) 2 else false
def zoB:List AV->Option (Bool×List AV)
 | [.agg [.s .ins c,.i .i64 d,.i .i64 e,.s .slot f,.s .slot g,.i .i64 h,.i .i64 j,.b k,.i .i64 l,.i .i64 m,.i .i64 n,.b o,.i .i64 p,.b q,.s .int r]]=>some ((zA7 (⟨c,d,e,f,g,⟨h,j,k⟩,l,⟨m,n,o,p⟩,q,r⟩:Guest)),[.one (.i .i64 2)])
 | _=>none
theorem zFm:u3 200 zoB:=by
 refine ⟨zb4.1,fun w avs xs rs hrep h=>?_⟩;unfold zoB at h;split at h
 .obtain ⟨hc,rfl⟩:=zdS h;obtain ⟨h1,h2⟩:=zlT hc;exact zb4.2 w _ xs _ hrep (congr (congrArg (fun c v=>some (c,[AV.one (CV.i .i64 v)])) h1) (qD h2))
 .cases h
def z8B:zQ:=[(200,zoB)]++zmG
theorem z0a:zI z8B:=zh zFm zg9
@[simp] abbrev zvU (h:Host)(m g:Int):Bool:=bif zez h m g then ieq (zF (gOf h m g)) 2 else false
@[simp] abbrev zvS (h:Host)(m g:Int):Host:=(zbh h m g).1
@[simp] abbrev zvT (h:Host)(m g:Int):Bool:=(zbh h m g).2
def zFK:Run:=rF3 dH dI dI fun b c d=>(zvU b c d,[aH (zvS b c d),aB (zvT b c d)])
def zuO (N:Nat)(a0:Host)(a1 a2:Int):OA:=
 let y2:=(zu a0);let y0:=(ix y2.Mons a1 zf);let y1:=(ix y0.Guests a2 zi); (oN (zbI a0) (oN (zgR y2 a1 a2) (cond (nB (ziK y2 a1 a2)) (some [(aH y2),(aB false)]) (oN (inb a1 (ln y2.Mons)) (oN (inb a2 (ln y0.Guests)) (oN (zA7 y1) (oN (inb a1 (ln y2.Mons)) (oN (zwT y1) (oN (inb a2 (ln y0.Guests)) (share (up y2.Mons a1 ({ y0 with Guests:=(up y0.Guests a2 (zrv y1)) }:Mon)) (fun x4=>(some [(aH ({ y2 with Mons:=x4 }:Host)),(aB true)]))))))))))))
abbrev zA8 (x:Guest):Bool:=bif zeJ x then ieq (zF x) 3 else false
def zoC:List AV->Option (Bool×List AV)
 | [.agg [.s .ins c,.i .i64 d,.i .i64 e,.s .slot f,.s .slot g,.i .i64 h,.i .i64 j,.b k,.i .i64 l,.i .i64 m,.i .i64 n,.b o,.i .i64 p,.b q,.s .int r]]=>some ((zA8 (⟨c,d,e,f,g,⟨h,j,k⟩,l,⟨m,n,o,p⟩,q,r⟩:Guest)),[.one (.i .i64 3)])
 | _=>none
theorem zFn:u3 200 zoC:=by
 refine ⟨zb4.1,fun w avs xs rs hrep h=>?_⟩;unfold zoC at h;split at h
 .obtain ⟨hc,rfl⟩:=zdS h;obtain ⟨h1,h2⟩:=zlT hc;exact zb4.2 w _ xs _ hrep (congr (congrArg (fun c v=>some (c,[AV.one (CV.i .i64 v)])) h1) (qD h2))
 .cases h
def z8C:zQ:=[(200,zoC)]++zmG
theorem z0b:zI z8C:=zh zFn zg9
@[simp] abbrev zvX (h:Host)(m g:Int):Bool:=bif zez h m g then ieq (zF (gOf h m g)) 3 else false
@[simp] abbrev zvV (h:Host)(m g:Int):Host:=(zbh h m g).1
@[simp] abbrev zvW (h:Host)(m g:Int):Bool:=(zbh h m g).2
def zFL:Run:=rF3 dH dI dI fun b c d=>(zvX b c d,[aH (zvV b c d),aB (zvW b c d)])
def zuP (N:Nat)(a0:Host)(a1 a2:Int):OA:=
 let y6:=(zu a0);let y9:=(ix y6.Mons a1 zf).Guests;let y1:=(ix y9 a2 zi);let y7:=(ziS y1);let y8:=(zcC y7);let y4:=(zj2 y6 y6.Buffer a1 a2 y8 (zfc false) false);let y0:=(ze2 y6 y6.Buffer a1 a2 y8 (zfc false) false);let y3:=(ix y0.Mons a1 zf);let y5:=(ix y3.Guests a2 zi);let y2:=({ y1 with Prog:=y5.Prog,Written:=y5.Written,Live:=y5.Live,Seen:=y5.Seen }:Guest); (oN (zbI a0) (oN (zgR y6 a1 a2) (cond (nB (ziK y6 a1 a2)) (some [(aH y6),(aB false)]) (oN (inb a1 (ln y6.Mons)) (oN (inb a2 (ln y9)) (oN (zA8 y1) (oN (zqy y1) (oN (zgf y7) (oN (zsO false) (oN (zj3 y6 y6.Buffer a1 a2 y8 (zfc false) false) (cond (nB (zgQ y6 y6.Buffer a1 a2 y8 (zfc false) false)) (oN (inb a1 (ln y0.Mons)) (oN (zgf y7) (oN (zmN y8 false) (oN (zee y2 (zgM y8 false)) (oN (inb a2 (ln y3.Guests)) (share (up y0.Mons a1 ({ y3 with Guests:=(up y3.Guests a2 (zdI y2 (zgM y8 false))) }:Mon)) (fun x4=>(some [(aH ({ y0 with Mons:=x4 }:Host)),(aB true)])))))))) (oN (inb a1 (ln y0.Mons)) (oN (ziE y7) (oN (zsM y0.Memory y4 (zem y7)) (oN (zzA y2 (znb y0.Memory y4 (zem y7))) (oN (inb a2 (ln y3.Guests)) (share (up y0.Mons a1 ({ y3 with Guests:=(up y3.Guests a2 (zuv y2 (znb y0.Memory y4 (zem y7)))) }:Mon)) (fun x4=>(some [(aH ({ y0 with Mons:=x4 }:Host)),(aB true)])))))))))))))))))))
abbrev zA9 (x:Guest):Bool:=bif zeJ x then ieq (zF x) 4 else false
def zoD:List AV->Option (Bool×List AV)
 | [.agg [.s .ins c,.i .i64 d,.i .i64 e,.s .slot f,.s .slot g,.i .i64 h,.i .i64 j,.b k,.i .i64 l,.i .i64 m,.i .i64 n,.b o,.i .i64 p,.b q,.s .int r]]=>some ((zA9 (⟨c,d,e,f,g,⟨h,j,k⟩,l,⟨m,n,o,p⟩,q,r⟩:Guest)),[.one (.i .i64 4)])
 | _=>none
theorem zFo:u3 200 zoD:=by
 refine ⟨zb4.1,fun w avs xs rs hrep h=>?_⟩;unfold zoD at h;split at h
 .obtain ⟨hc,rfl⟩:=zdS h;obtain ⟨h1,h2⟩:=zlT hc;exact zb4.2 w _ xs _ hrep (congr (congrArg (fun c v=>some (c,[AV.one (CV.i .i64 v)])) h1) (qD h2))
 .cases h
def z8D:zQ:=[(200,zoD)]++zmG
theorem z0c:zI z8D:=zh zFo zg9
@[simp] abbrev zv0 (h:Host)(m g:Int):Bool:=bif zez h m g then ieq (zF (gOf h m g)) 4 else false
@[simp] abbrev zvY (h:Host)(m g:Int):Host:=(zbh h m g).1
@[simp] abbrev zvZ (h:Host)(m g:Int):Bool:=(zbh h m g).2
def zFM:Run:=rF3 dH dI dI fun b c d=>(zv0 b c d,[aH (zvY b c d),aB (zvZ b c d)])
def zuQ (N:Nat)(a0:Host)(a1 a2:Int):OA:=
 let y4:=(zu a0);let y8:=(ix y4.Mons a1 zf).Guests;let y1:=(ix y8 a2 zi);let y9:=(ziS y1);let y5:=(zcC y9);let y7:=(zj2 y4 y4.Buffer a1 a2 y5 (zfc true) false);let y0:=(ze2 y4 y4.Buffer a1 a2 y5 (zfc true) false);let y3:=(ix y0.Mons a1 zf);let y6:=(ix y3.Guests a2 zi);let y2:=({ y1 with Prog:=y6.Prog,Written:=y6.Written,Live:=y6.Live,Seen:=y6.Seen }:Guest); (oN (zbI a0) (oN (zgR y4 a1 a2) (cond (nB (ziK y4 a1 a2)) (some [(aH y4),(aB false)]) (oN (inb a1 (ln y4.Mons)) (oN (inb a2 (ln y8)) (oN (zA9 y1) (oN (zqy y1) (oN (zgf y9) (oN (zsO true) (oN (zj3 y4 y4.Buffer a1 a2 y5 (zfc true) false) (cond (nB (zgQ y4 y4.Buffer a1 a2 y5 (zfc true) false)) (oN (inb a1 (ln y0.Mons)) (oN (zgf y9) (oN (zmN y5 true) (oN (zee y2 (zgM y5 true)) (oN (inb a2 (ln y3.Guests)) (share (up y0.Mons a1 ({ y3 with Guests:=(up y3.Guests a2 (zdI y2 (zgM y5 true))) }:Mon)) (fun x4=>(some [(aH ({ y0 with Mons:=x4 }:Host)),(aB true)])))))))) (oN (ziE y9) (oN (ziJ y0.Memory y7 (zem y9) y1.A) (oN (inb a1 (ln y0.Mons)) (oN (zzG y2) (oN (inb a2 (ln y3.Guests)) (share (up y0.Mons a1 ({ y3 with Guests:=(up y3.Guests a2 (zuy y2)) }:Mon)) (fun x4=>(some [(aH ({ y0 with Memory:=(zji y0.Memory y7 (zem y9) y1.A),Mons:=x4 }:Host)),(aB true)])))))))))))))))))))
abbrev zBa (x:Guest):Bool:=bif zeJ x then ieq (zF x) 5 else false
def zoE:List AV->Option (Bool×List AV)
 | [.agg [.s .ins c,.i .i64 d,.i .i64 e,.s .slot f,.s .slot g,.i .i64 h,.i .i64 j,.b k,.i .i64 l,.i .i64 m,.i .i64 n,.b o,.i .i64 p,.b q,.s .int r]]=>some ((zBa (⟨c,d,e,f,g,⟨h,j,k⟩,l,⟨m,n,o,p⟩,q,r⟩:Guest)),[.one (.i .i64 5)])
 | _=>none
theorem zFp:u3 200 zoE:=by
 refine ⟨zb4.1,fun w avs xs rs hrep h=>?_⟩;unfold zoE at h;split at h
 .obtain ⟨hc,rfl⟩:=zdS h;obtain ⟨h1,h2⟩:=zlT hc;exact zb4.2 w _ xs _ hrep (congr (congrArg (fun c v=>some (c,[AV.one (CV.i .i64 v)])) h1) (qD h2))
 .cases h
def z8E:zQ:=[(200,zoE)]++zmG
theorem z0d:zI z8E:=zh zFp zg9
@[simp] abbrev zv3 (h:Host)(m g:Int):Bool:=bif zez h m g then ieq (zF (gOf h m g)) 5 else false
@[simp] abbrev zv1 (h:Host)(m g:Int):Host:=(zbh h m g).1
@[simp] abbrev zv2 (h:Host)(m g:Int):Bool:=(zbh h m g).2
def zFN:Run:=rF3 dH dI dI fun b c d=>(zv3 b c d,[aH (zv1 b c d),aB (zv2 b c d)])
def zuR (N:Nat)(a0:Host)(a1 a2:Int):OA:=
 let y8:=(zu a0);let y4:=(inb a1 (ln y8.Mons));let y2:=(ix y8.Mons a1 zf);let y10:=(inb a2 (ln y2.Guests));let y0:=(ix y2.Guests a2 zi);let y9:=(ap y2.Outs [(zfK y0.Prog y0.Pc).X]);let y16:=(up y8.Mons a1 ({ y2 with Outs:=y9 }:Mon));let y7:=y0.Ctl.Traps;let y5:=(up y8.Mons a1 ({ y2 with Guests:=(up y2.Guests a2 (zb2 y0 y7 5)) }:Mon)); (oN (zbI a0) (oN (zgR y8 a1 a2) (cond (nB (ziK y8 a1 a2)) (some [(aH y8),(aB false)]) (oN y4 (oN y10 (oN (zBa y0) (oN y4 (oN (zqO y2.Traps y7 1) (cond (ieq (znB y2.Traps y7 1) 2) (oN y4 (cond (ilt y2.Own 1000000000) (oN y4 (oN y4 (share (up y8.Mons a1 ({ y2 with Own:=(zG .i64 y2.Own 1) }:Mon)) (fun x4=>let y12:=(inb a1 (ln x4));let y3:=(ix x4 a1 zf);let y6:=(ix y3.Guests a2 zi);let y17:=(ap y3.Outs [(zfK y6.Prog y0.Pc).X]);let y1:=({ y0 with Prog:=y6.Prog,Written:=y6.Written,Live:=y6.Live,Seen:=y6.Seen }:Guest);let y11:=(up x4 a1 ({ y3 with Guests:=(up y3.Guests a2 (zb2 y1 y7 5)) }:Mon)); (oN (zdQ y1 y7 5) (cond (zdj y1 y7 5) (oN y12 (cond (ilt (ln y3.Outs) 40) (oN y12 (oN (zfs y6.Prog y0.Pc) (oN (few (ln y17)) (oN y12 (oN (cond (ieq a1 a1) true false) (share (up x4 a1 ({ y3 with Outs:=y17 }:Mon)) (fun x5=>let y13:=(ix x5 a1 zf); (oN (inb a1 (ln x5)) (oN (inb a2 (ln y13.Guests)) (share (up x5 a1 ({ y13 with Guests:=(up y13.Guests a2 (zb2 y1 y7 5)) }:Mon)) (fun x6=>(some [(aH ({ y8 with Mons:=x6 }:Host)),(aB true)])))))))))))) (oN y12 (oN (inb a2 (ln y3.Guests)) (share y11 (fun x5=>(some [(aH ({ y8 with Mons:=x5 }:Host)),(aB true)]))))))) (oN y12 (oN (inb a2 (ln y3.Guests)) (share y11 (fun x5=>(some [(aH ({ y8 with Mons:=x5 }:Host)),(aB true)]))))))))))) (oN (zdQ y0 y7 5) (cond (zdj y0 y7 5) (oN y4 (cond (ilt (ln y2.Outs) 40) (oN y4 (oN (zfs y0.Prog y0.Pc) (oN (few (ln y9)) (oN y4 (oN (cond (ieq a1 a1) true false) (share y16 (fun x4=>let y14:=(ix x4 a1 zf); (oN (inb a1 (ln x4)) (oN (inb a2 (ln y14.Guests)) (share (up x4 a1 ({ y14 with Guests:=(up y14.Guests a2 (zb2 y0 y7 5)) }:Mon)) (fun x5=>(some [(aH ({ y8 with Mons:=x5 }:Host)),(aB true)])))))))))))) (oN y4 (oN y10 (share y5 (fun x4=>(some [(aH ({ y8 with Mons:=x4 }:Host)),(aB true)]))))))) (oN y4 (oN y10 (share y5 (fun x4=>(some [(aH ({ y8 with Mons:=x4 }:Host)),(aB true)]))))))))) (oN (zdQ y0 y7 5) (cond (zdj y0 y7 5) (oN y4 (cond (ilt (ln y2.Outs) 40) (oN y4 (oN (zfs y0.Prog y0.Pc) (oN (few (ln y9)) (oN y4 (oN (cond (ieq a1 a1) true false) (share y16 (fun x4=>let y15:=(ix x4 a1 zf); (oN (inb a1 (ln x4)) (oN (inb a2 (ln y15.Guests)) (share (up x4 a1 ({ y15 with Guests:=(up y15.Guests a2 (zb2 y0 y7 5)) }:Mon)) (fun x5=>(some [(aH ({ y8 with Mons:=x5 }:Host)),(aB true)])))))))))))) (oN y4 (oN y10 (share y5 (fun x4=>(some [(aH ({ y8 with Mons:=x4 }:Host)),(aB true)]))))))) (oN y4 (oN y10 (share y5 (fun x4=>(some [(aH ({ y8 with Mons:=x4 }:Host)),(aB true)]))))))))))))))))
abbrev zBb (x:Guest):Bool:=bif zeJ x then ieq (zF x) 6 else false
def zoF:List AV->Option (Bool×List AV)
 | [.agg [.s .ins c,.i .i64 d,.i .i64 e,.s .slot f,.s .slot g,.i .i64 h,.i .i64 j,.b k,.i .i64 l,.i .i64 m,.i .i64 n,.b o,.i .i64 p,.b q,.s .int r]]=>some ((zBb (⟨c,d,e,f,g,⟨h,j,k⟩,l,⟨m,n,o,p⟩,q,r⟩:Guest)),[.one (.i .i64 6)])
 | _=>none
theorem zFq:u3 200 zoF:=by
 refine ⟨zb4.1,fun w avs xs rs hrep h=>?_⟩;unfold zoF at h;split at h
 .obtain ⟨hc,rfl⟩:=zdS h;obtain ⟨h1,h2⟩:=zlT hc;exact zb4.2 w _ xs _ hrep (congr (congrArg (fun c v=>some (c,[AV.one (CV.i .i64 v)])) h1) (qD h2))
 .cases h
def z8F:zQ:=[(200,zoF)]++zmG
theorem z0e:zI z8F:=zh zFq zg9
@[simp] abbrev zv6 (h:Host)(m g:Int):Bool:=bif zez h m g then ieq (zF (gOf h m g)) 6 else false
@[simp] abbrev zv4 (h:Host)(m g:Int):Host:=(zbh h m g).1
@[simp] abbrev zv5 (h:Host)(m g:Int):Bool:=(zbh h m g).2
def zFO:Run:=rF3 dH dI dI fun b c d=>(zv6 b c d,[aH (zv4 b c d),aB (zv5 b c d)])
def zuS (N:Nat)(a0:Host)(a1 a2:Int):OA:=
 let y3:=(zu a0);let y4:=(inb a1 (ln y3.Mons));let y0:=(ix y3.Mons a1 zf);let y5:=(inb a2 (ln y0.Guests));let y1:=(ix y0.Guests a2 zi);let y2:=(up y3.Mons a1 ({ y0 with Guests:=(up y0.Guests a2 (zb2 y1 y1.Ctl.Traps 6)) }:Mon)); (oN (zbI a0) (oN (zgR y3 a1 a2) (cond (nB (ziK y3 a1 a2)) (some [(aH y3),(aB false)]) (oN y4 (oN y5 (oN (zBb y1) (oN (zdQ y1 y1.Ctl.Traps 6) (cond (zdj y1 y1.Ctl.Traps 6) (oN y4 (oN y5 (share y2 (fun x4=>(some [(aH ({ y3 with Mons:=x4 }:Host)),(aB true)]))))) (oN y4 (oN y5 (share y2 (fun x4=>(some [(aH ({ y3 with Mons:=x4 }:Host)),(aB true)])))))))))))))
abbrev zBc (x:Guest):Bool:=bif zeJ x then ieq (zF x) 7 else false
def zoG:List AV->Option (Bool×List AV)
 | [.agg [.s .ins c,.i .i64 d,.i .i64 e,.s .slot f,.s .slot g,.i .i64 h,.i .i64 j,.b k,.i .i64 l,.i .i64 m,.i .i64 n,.b o,.i .i64 p,.b q,.s .int r]]=>some ((zBc (⟨c,d,e,f,g,⟨h,j,k⟩,l,⟨m,n,o,p⟩,q,r⟩:Guest)),[.one (.i .i64 7)])
 | _=>none
theorem zFr:u3 200 zoG:=by
 refine ⟨zb4.1,fun w avs xs rs hrep h=>?_⟩;unfold zoG at h;split at h
 .obtain ⟨hc,rfl⟩:=zdS h;obtain ⟨h1,h2⟩:=zlT hc;exact zb4.2 w _ xs _ hrep (congr (congrArg (fun c v=>some (c,[AV.one (CV.i .i64 v)])) h1) (qD h2))
 .cases h
def z8G:zQ:=[(200,zoG)]++zmG
theorem z0f:zI z8G:=zh zFr zg9
@[simp] abbrev zv9 (h:Host)(m g:Int):Bool:=bif zez h m g then ieq (zF (gOf h m g)) 7 else false
@[simp] abbrev zv7 (h:Host)(m g:Int):Host:=(zbh h m g).1
@[simp] abbrev zv8 (h:Host)(m g:Int):Bool:=(zbh h m g).2
def zFP:Run:=rF3 dH dI dI fun b c d=>(zv9 b c d,[aH (zv7 b c d),aB (zv8 b c d)])
def zuT (N:Nat)(a0:Host)(a1 a2:Int):OA:=
 let y9:=(zu a0);let y4:=(inb a1 (ln y9.Mons));let y2:=(ix y9.Mons a1 zf);let y8:=(inb a2 (ln y2.Guests));let y0:=(ix y2.Guests a2 zi);let y6:=y0.Ctl.Traps;let y3:=(up y9.Mons a1 ({ y2 with Guests:=(up y2.Guests a2 (zb2 y0 y6 7)) }:Mon)); (oN (zbI a0) (oN (zgR y9 a1 a2) (cond (nB (ziK y9 a1 a2)) (some [(aH y9),(aB false)]) (oN y4 (oN y8 (oN (zBc y0) (oN y4 (oN (zqO y2.Traps y6 2) (cond (ieq (znB y2.Traps y6 2) 2) (oN y4 (cond (ilt y2.Own 1000000000) (oN y4 (oN y4 (share (up y9.Mons a1 ({ y2 with Own:=(zG .i64 y2.Own 1) }:Mon)) (fun x4=>let y5:=(ix x4 a1 zf);let y7:=(ix y5.Guests a2 zi);let y1:=({ y0 with Prog:=y7.Prog,Written:=y7.Written,Live:=y7.Live,Seen:=y7.Seen }:Guest);let y10:=(up x4 a1 ({ y5 with Guests:=(up y5.Guests a2 (zb2 y1 y6 7)) }:Mon)); (oN (zdQ y1 y6 7) (cond (zdj y1 y6 7) (oN (inb a1 (ln x4)) (oN (inb a2 (ln y5.Guests)) (share y10 (fun x5=>(some [(aH ({ y9 with Mons:=x5 }:Host)),(aB true)]))))) (oN (inb a1 (ln x4)) (oN (inb a2 (ln y5.Guests)) (share y10 (fun x5=>(some [(aH ({ y9 with Mons:=x5 }:Host)),(aB true)]))))))))))) (oN (zdQ y0 y6 7) (cond (zdj y0 y6 7) (oN y4 (oN y8 (share y3 (fun x4=>(some [(aH ({ y9 with Mons:=x4 }:Host)),(aB true)]))))) (oN y4 (oN y8 (share y3 (fun x4=>(some [(aH ({ y9 with Mons:=x4 }:Host)),(aB true)]))))))))) (oN (zdQ y0 y6 7) (cond (zdj y0 y6 7) (oN y4 (oN y8 (share y3 (fun x4=>(some [(aH ({ y9 with Mons:=x4 }:Host)),(aB true)]))))) (oN y4 (oN y8 (share y3 (fun x4=>(some [(aH ({ y9 with Mons:=x4 }:Host)),(aB true)]))))))))))))))))
theorem zFx (a0:Host)(a1 a2:Int)(hc:zvO a0 a1 a2=true):∃N,zuM N a0 a1 a2=some [aH (zvM a0 a1 a2),aB (zvN a0 a1 a2)]:=by
 obtain ⟨hc,hw⟩:=zlT hc;have hs:=(zJ a0).1 (zD.1 hc);refine ⟨0,?_⟩
 show _=some (zdW (zbh a0 a1 a2))
 unfold zuM oN nB
 conv=>zeta
 refine must (zbb ((zJ _).2 hs)) (must (zbb ((zJ _).2 hs)) (brN (fun hh=>?_) (fun hh=>?_)))
 .rw [zhC hh];rfl
 obtain ⟨g1,g2,g3⟩:=zcI hh;have hx:=zjG hs g2 g3;have hk:zF (gOf a0 a1 a2)=0:=qD hw;rw[zid hh,hk];refine must (zx g2) (must (zx g3) (must (zie rfl hw) ?_));rfl
theorem zpe:u3 110 zFI:=kF3 zZ8 zk zbQ zfp (zq []) zFx
theorem zFy (a0:Host)(a1 a2:Int)(hc:zvR a0 a1 a2=true):∃N,zuN N a0 a1 a2=some [aH (zvP a0 a1 a2),aB (zvQ a0 a1 a2)]:=by
 obtain ⟨hc,hw⟩:=zlT hc;have hs:=(zJ a0).1 (zD.1 hc);refine ⟨0,?_⟩
 show _=some (zdW (zbh a0 a1 a2))
 unfold zuN oN nB
 conv=>zeta
 refine must (zbb ((zJ _).2 hs)) (must (zbb ((zJ _).2 hs)) (brN (fun hh=>?_) (fun hh=>?_)))
 .rw [zhC hh];rfl
 obtain ⟨g1,g2,g3⟩:=zcI hh;have hx:=zjG hs g2 g3;have hk:zF (gOf a0 a1 a2)=1:=qD hw;rw[zid hh,hk];refine must (zx g2) (must (zx g3) (must (zie rfl hw) ?_))
 show _=some (zdW (zfv a0 a1 a2 (interrupted (gOf a0 a1 a2)),true))
 exact must (zx g2) (must (zbb hx) (must (zx g3) rfl))
theorem zBk:u3 110 zFJ:=kF3 zZ9 zk zbQ zfp (zq []) zFy
theorem zFz (a0:Host)(a1 a2:Int)(hc:zvU a0 a1 a2=true):∃N,zuO N a0 a1 a2=some [aH (zvS a0 a1 a2),aB (zvT a0 a1 a2)]:=by
 obtain ⟨hc,hw⟩:=zlT hc;have hs:=(zJ a0).1 (zD.1 hc);refine ⟨0,?_⟩
 show _=some (zdW (zbh a0 a1 a2))
 unfold zuO oN nB
 conv=>zeta
 refine must (zbb ((zJ _).2 hs)) (must (zbb ((zJ _).2 hs)) (brN (fun hh=>?_) (fun hh=>?_)))
 .rw [zhC hh];rfl
 obtain ⟨g1,g2,g3⟩:=zcI hh;have hx:=zjG hs g2 g3;have hk:zF (gOf a0 a1 a2)=2:=qD hw;rw[zid hh,hk];refine must (zx g2) (must (zx g3) (must (zie rfl hw) ?_))
 show _=some (zdW (zfv a0 a1 a2 (plainly (gOf a0 a1 a2)),true))
 exact must (zx g2) (must (zbb hx) (must (zx g3) rfl))
theorem zBl:u3 110 zFK:=kF3 z0a zk zbQ zfp (zq []) zFz
theorem zFA (a0:Host)(a1 a2:Int)(hc:zvX a0 a1 a2=true):∃N,zuP N a0 a1 a2=some [aH (zvV a0 a1 a2),aB (zvW a0 a1 a2)]:=by
 obtain ⟨hc,hw⟩:=zlT hc;have hs:=(zJ a0).1 (zD.1 hc);refine ⟨0,?_⟩
 show _=some (zdW (zbh a0 a1 a2))
 unfold zuP oN nB
 conv=>zeta
 refine must (zbb ((zJ _).2 hs)) (must (zbb ((zJ _).2 hs)) (brN (fun hh=>?_) (fun hh=>?_)))
 .rw [zhC hh];rfl
 obtain ⟨g1,g2,g3⟩:=zcI hh;have hx:=zjG hs g2 g3;have hk:zF (gOf a0 a1 a2)=3:=qD hw;rw[zid hh,hk];refine must (zx g2) (must (zx g3) (must (zie rfl hw) ?_))
 show _=some (zdW (zgu (zho a0 a1 a2 (gOf a0 a1 a2) false) a1 a2 (gOf a0 a1 a2) false,true))
 have k:=ztf (b:=a0.Buffer) (page:=zX (address (gOf a0 a1 a2))) (need:=zbO false) (io:=false) hs hh;have F:=zlr k g2 g3;have e3:(ix (ix (ze2 (zu a0) (zu a0).Buffer a1 a2 (zcC (ziS (ix (ix (zu a0).Mons a1 zf).Guests a2 zi))) (zfc false) false).Mons a1 zf).Guests a2 zi)=(ix (ix (zu a0).Mons a1 zf).Guests a2 zi):=congrArg (fun l=>ix l a2 gZ) (zK1 k.gs a1);rw[e3];unfold zgu;refine must rfl (must rfl (must rfl (must (zbb ((zJ _).2 hs)) (brN (fun h=>?_) (fun h=>?_)))))
 .rw [show (zho a0 a1 a2 (gOf a0 a1 a2) false).2.2=false from h]
  exact must (zx F.hm) (must rfl (must rfl (must (zbb hx) (must (zx F.hg) rfl))))
 .rw [show (zho a0 a1 a2 (gOf a0 a1 a2) false).2.2=true from h]
  exact must (zx F.hm) (must rfl (must rfl (must (zbb hx) (must (zx F.hg) rfl))))
theorem zBm:u3 110 zFL:=kF3 z0b zk zbQ zfp (zq []) zFA
theorem zFB (a0:Host)(a1 a2:Int)(hc:zv0 a0 a1 a2=true):∃N,zuQ N a0 a1 a2=some [aH (zvY a0 a1 a2),aB (zvZ a0 a1 a2)]:=by
 obtain ⟨hc,hw⟩:=zlT hc;have hs:=(zJ a0).1 (zD.1 hc);refine ⟨0,?_⟩
 show _=some (zdW (zbh a0 a1 a2))
 unfold zuQ oN nB
 conv=>zeta
 refine must (zbb ((zJ _).2 hs)) (must (zbb ((zJ _).2 hs)) (brN (fun hh=>?_) (fun hh=>?_)))
 .rw [zhC hh];rfl
 obtain ⟨g1,g2,g3⟩:=zcI hh;have hx:=zjG hs g2 g3;have hk:zF (gOf a0 a1 a2)=4:=qD hw;rw[zid hh,hk];refine must (zx g2) (must (zx g3) (must (zie rfl hw) ?_))
 show _=some (zdW (zgu (zho a0 a1 a2 (gOf a0 a1 a2) true) a1 a2 (gOf a0 a1 a2) true,true))
 have k:=ztf (b:=a0.Buffer) (page:=zX (address (gOf a0 a1 a2))) (need:=zbO true) (io:=false) hs hh;have F:=zlr k g2 g3;have e3:(ix (ix (ze2 (zu a0) (zu a0).Buffer a1 a2 (zcC (ziS (ix (ix (zu a0).Mons a1 zf).Guests a2 zi))) (zfc true) false).Mons a1 zf).Guests a2 zi)=(ix (ix (zu a0).Mons a1 zf).Guests a2 zi):=congrArg (fun l=>ix l a2 gZ) (zK1 k.gs a1);rw[e3];unfold zgu;refine must rfl (must rfl (must rfl (must (zbb ((zJ _).2 hs)) (brN (fun h=>?_) (fun h=>?_)))))
 .rw [show (zho a0 a1 a2 (gOf a0 a1 a2) true).2.2=false from h]
  exact must (zx F.hm) (must rfl (must rfl (must (zbb hx) (must (zx F.hg) rfl))))
 .rw [show (zho a0 a1 a2 (gOf a0 a1 a2) true).2.2=true from h]
  exact must rfl (must (zbb k.shape.1.1) (must (zx F.hm) (must (zbb hx) (must (zx F.hg) rfl))))
theorem zBn:u3 110 zFM:=kF3 z0c zk zbQ zfp (zq []) zFB
theorem z7H {a0:Host}{a1 a2:Int}(hx:SmG (gOf a0 a1 a2))(g2:hasB a1 (ln a0.Mons)=true)(g3:hasB a2 (ln (ix a0.Mons a1 mZ).Guests)=true) :
 (cond (zdQ (ix (ix (zu a0).Mons a1 zf).Guests a2 zi) (ix (ix (zu a0).Mons a1 zf).Guests a2 zi).Ctl.Traps 5) (cond (zdj (ix (ix (zu a0).Mons a1 zf).Guests a2 zi) (ix (ix (zu a0).Mons a1 zf).Guests a2 zi).Ctl.Traps 5) (cond (inb a1 (ln (zu a0).Mons)) (cond (ilt (ln (ix (zu a0).Mons a1 zf).Outs) 40) (cond (inb a1 (ln (zu a0).Mons)) (cond (zfs (ix (ix (zu a0).Mons a1 zf).Guests a2 zi).Prog (ix (ix (zu a0).Mons a1 zf).Guests a2 zi).Pc) (cond (few (ln (ap (ix (zu a0).Mons a1 zf).Outs [(zfK (ix (ix (zu a0).Mons a1 zf).Guests a2 zi).Prog (ix (ix (zu a0).Mons a1 zf).Guests a2 zi).Pc).X]))) (cond (inb a1 (ln (zu a0).Mons)) (cond (cond (ieq a1 a1) true false) (share (up (zu a0).Mons a1 ({ (ix (zu a0).Mons a1 zf) with Outs:=(ap (ix (zu a0).Mons a1 zf).Outs [(zfK (ix (ix (zu a0).Mons a1 zf).Guests a2 zi).Prog (ix (ix (zu a0).Mons a1 zf).Guests a2 zi).Pc).X]) }:Mon)) (fun x4=>(cond (inb a1 (ln x4)) (cond (inb a2 (ln (ix x4 a1 zf).Guests)) (share (up x4 a1 ({ (ix x4 a1 zf) with Guests:=(up (ix x4 a1 zf).Guests a2 (zb2 (ix (ix (zu a0).Mons a1 zf).Guests a2 zi) (ix (ix (zu a0).Mons a1 zf).Guests a2 zi).Ctl.Traps 5)) }:Mon)) (fun x5=>(some [(.agg (zba ({ (zu a0) with Mons:=x5 }:Host))),(.one (.b true))]))) none) none))) none) none) none) none) none) (cond (inb a1 (ln (zu a0).Mons)) (cond (inb a2 (ln (ix (zu a0).Mons a1 zf).Guests)) (share (up (zu a0).Mons a1 ({ (ix (zu a0).Mons a1 zf) with Guests:=(up (ix (zu a0).Mons a1 zf).Guests a2 (zb2 (ix (ix (zu a0).Mons a1 zf).Guests a2 zi) (ix (ix (zu a0).Mons a1 zf).Guests a2 zi).Ctl.Traps 5)) }:Mon)) (fun x4=>(some [(.agg (zba ({ (zu a0) with Mons:=x4 }:Host))),(.one (.b true))]))) none) none)) none) (cond (inb a1 (ln (zu a0).Mons)) (cond (inb a2 (ln (ix (zu a0).Mons a1 zf).Guests)) (share (up (zu a0).Mons a1 ({ (ix (zu a0).Mons a1 zf) with Guests:=(up (ix (zu a0).Mons a1 zf).Guests a2 (zb2 (ix (ix (zu a0).Mons a1 zf).Guests a2 zi) (ix (ix (zu a0).Mons a1 zf).Guests a2 zi).Ctl.Traps 5)) }:Mon)) (fun x4=>(some [(.agg (zba ({ (zu a0) with Mons:=x4 }:Host))),(.one (.b true))]))) none) none)) none)=some (zdW (zfv (zf1 a0 a1 (gOf a0 a1 a2) 5) a1 a2 (zeV (gOf a0 a1 a2) (gOf a0 a1 a2).Ctl.Traps 5),true)):=by
 refine must (zbb hx) (br (fun h1=>must (zx g2) (br (fun h3=>?_) (fun h3=>?_))) (fun h1=>?_))
 .rw [zWQ (h:=a0) (m:=a1) (x:=gOf a0 a1 a2) (w:=5) h1 rfl h3];refine must (zx g2) (must rfl (must (zTo h3) (must (zx g2) (must (zLT _) (shr (must (zx (zep g2)) (must ?_ rfl)))))));rw[zoq g2];exact zx g3
 .rw [zRx (h:=a0) (m:=a1) (x:=gOf a0 a1 a2) (w:=5) h3];exact must (zx g2) (must (zx g3) rfl)
 .rw [zNe (h:=a0) (m:=a1) (x:=gOf a0 a1 a2) (w:=5) h1];exact must (zx g2) (must (zx g3) rfl)
theorem zbaQ {a0:Host}{x4:List Mon}{a1 a2:Int}(hx:SmG (gOf a0 a1 a2))(g2:hasB a1 (ln x4)=true)(g3:hasB a2 (ln (ix x4 a1 mZ).Guests)=true)(e:(ix (ix x4 a1 zf).Guests a2 zi)=gOf a0 a1 a2) :
 (cond (zdQ ({ (ix (ix (zu a0).Mons a1 zf).Guests a2 zi) with Prog:=(ix (ix x4 a1 zf).Guests a2 zi).Prog,Written:=(ix (ix x4 a1 zf).Guests a2 zi).Written,Live:=(ix (ix x4 a1 zf).Guests a2 zi).Live,Seen:=(ix (ix x4 a1 zf).Guests a2 zi).Seen }:Guest) (ix (ix (zu a0).Mons a1 zf).Guests a2 zi).Ctl.Traps 5) (cond (zdj ({ (ix (ix (zu a0).Mons a1 zf).Guests a2 zi) with Prog:=(ix (ix x4 a1 zf).Guests a2 zi).Prog,Written:=(ix (ix x4 a1 zf).Guests a2 zi).Written,Live:=(ix (ix x4 a1 zf).Guests a2 zi).Live,Seen:=(ix (ix x4 a1 zf).Guests a2 zi).Seen }:Guest) (ix (ix (zu a0).Mons a1 zf).Guests a2 zi).Ctl.Traps 5) (cond (inb a1 (ln x4)) (cond (ilt (ln (ix x4 a1 zf).Outs) 40) (cond (inb a1 (ln x4)) (cond (zfs (ix (ix x4 a1 zf).Guests a2 zi).Prog (ix (ix (zu a0).Mons a1 zf).Guests a2 zi).Pc) (cond (few (ln (ap (ix x4 a1 zf).Outs [(zfK (ix (ix x4 a1 zf).Guests a2 zi).Prog (ix (ix (zu a0).Mons a1 zf).Guests a2 zi).Pc).X]))) (cond (inb a1 (ln x4)) (cond (cond (ieq a1 a1) true false) (share (up x4 a1 ({ (ix x4 a1 zf) with Outs:=(ap (ix x4 a1 zf).Outs [(zfK (ix (ix x4 a1 zf).Guests a2 zi).Prog (ix (ix (zu a0).Mons a1 zf).Guests a2 zi).Pc).X]) }:Mon)) (fun x5=>(cond (inb a1 (ln x5)) (cond (inb a2 (ln (ix x5 a1 zf).Guests)) (share (up x5 a1 ({ (ix x5 a1 zf) with Guests:=(up (ix x5 a1 zf).Guests a2 (zb2 ({ (ix (ix (zu a0).Mons a1 zf).Guests a2 zi) with Prog:=(ix (ix x4 a1 zf).Guests a2 zi).Prog,Written:=(ix (ix x4 a1 zf).Guests a2 zi).Written,Live:=(ix (ix x4 a1 zf).Guests a2 zi).Live,Seen:=(ix (ix x4 a1 zf).Guests a2 zi).Seen }:Guest) (ix (ix (zu a0).Mons a1 zf).Guests a2 zi).Ctl.Traps 5)) }:Mon)) (fun x6=>(some [(.agg (zba ({ (zu a0) with Mons:=x6 }:Host))),(.one (.b true))]))) none) none))) none) none) none) none) none) (cond (inb a1 (ln x4)) (cond (inb a2 (ln (ix x4 a1 zf).Guests)) (share (up x4 a1 ({ (ix x4 a1 zf) with Guests:=(up (ix x4 a1 zf).Guests a2 (zb2 ({ (ix (ix (zu a0).Mons a1 zf).Guests a2 zi) with Prog:=(ix (ix x4 a1 zf).Guests a2 zi).Prog,Written:=(ix (ix x4 a1 zf).Guests a2 zi).Written,Live:=(ix (ix x4 a1 zf).Guests a2 zi).Live,Seen:=(ix (ix x4 a1 zf).Guests a2 zi).Seen }:Guest) (ix (ix (zu a0).Mons a1 zf).Guests a2 zi).Ctl.Traps 5)) }:Mon)) (fun x5=>(some [(.agg (zba ({ (zu a0) with Mons:=x5 }:Host))),(.one (.b true))]))) none) none)) none) (cond (inb a1 (ln x4)) (cond (inb a2 (ln (ix x4 a1 zf).Guests)) (share (up x4 a1 ({ (ix x4 a1 zf) with Guests:=(up (ix x4 a1 zf).Guests a2 (zb2 ({ (ix (ix (zu a0).Mons a1 zf).Guests a2 zi) with Prog:=(ix (ix x4 a1 zf).Guests a2 zi).Prog,Written:=(ix (ix x4 a1 zf).Guests a2 zi).Written,Live:=(ix (ix x4 a1 zf).Guests a2 zi).Live,Seen:=(ix (ix x4 a1 zf).Guests a2 zi).Seen }:Guest) (ix (ix (zu a0).Mons a1 zf).Guests a2 zi).Ctl.Traps 5)) }:Mon)) (fun x5=>(some [(.agg (zba ({ (zu a0) with Mons:=x5 }:Host))),(.one (.b true))]))) none) none)) none)=some (zdW (zfv (zf1 { a0 with Mons:=x4 } a1 (gOf a0 a1 a2) 5) a1 a2 (zeV (gOf a0 a1 a2) (gOf a0 a1 a2).Ctl.Traps 5),true)):=by
 rw[e];refine must (zbb hx) (br (fun h1=>must (zx g2) (br (fun h3=>?_) (fun h3=>?_))) (fun h1=>?_))
 .rw [zWQ (h:={ a0 with Mons:=x4 }) (m:=a1) (x:=gOf a0 a1 a2) (w:=5) h1 rfl h3];refine must (zx g2) (must rfl (must (zTo h3) (must (zx g2) (must (zLT _) (shr (must (zx (zep (h:={ a0 with Mons:=x4 }) g2)) (must ?_ rfl)))))));rw[zoq (h:={ a0 with Mons:=x4 }) g2];exact zx g3
 .rw [zRx (h:={ a0 with Mons:=x4 }) (m:=a1) (x:=gOf a0 a1 a2) (w:=5) h3];exact must (zx g2) (must (zx g3) rfl)
 .rw [zNe (h:={ a0 with Mons:=x4 }) (m:=a1) (x:=gOf a0 a1 a2) (w:=5) h1];exact must (zx g2) (must (zx g3) rfl)
theorem zFC (a0:Host)(a1 a2:Int)(hc:zv3 a0 a1 a2=true):∃N,zuR N a0 a1 a2=some [aH (zv1 a0 a1 a2),aB (zv2 a0 a1 a2)]:=by
 obtain ⟨hc,hw⟩:=zlT hc;have hs:=(zJ a0).1 (zD.1 hc);refine ⟨0,?_⟩
 show _=some (zdW (zbh a0 a1 a2))
 unfold zuR oN nB
 conv=>zeta
 refine must (zbb ((zJ _).2 hs)) (must (zbb ((zJ _).2 hs)) (brN (fun hh=>?_) (fun hh=>?_)))
 .rw [zhC hh];rfl
 obtain ⟨g1,g2,g3⟩:=zcI hh;have hx:=zjG hs g2 g3;have hk:zF (gOf a0 a1 a2)=5:=qD hw;rw[zid hh,hk];refine must (zx g2) (must (zx g3) (must (zie rfl hw) ?_))
 show _=some (zdW (zjn a0 a1 a2 (gOf a0 a1 a2) 5,true))
 refine must (zx g2) (must rfl (br (fun h0=>must (zx g2) (br (fun h9=>must (zx g2) (must (zx g2) (shr ?_))) (fun h9=>?_))) (fun h0=>?_)))
 .rw [znj (zZM (h:=a0) (m:=a1) (x:=gOf a0 a1 a2) (w:=5) rfl h0 h9)];have eM:=zoq g2 { ix a0.Mons a1 mZ with Own:=zG .i64 (ix a0.Mons a1 mZ).Own 1 };refine zbaQ hx (zep g2) ?_ ?_
  .show hasB a2 (ln (ix (up a0.Mons a1 _) a1 mZ).Guests)=true
   rw[eM];exact g3
  .show ix (ix (up a0.Mons a1 _) a1 mZ).Guests a2 gZ=_
   rw[eM];rfl
 .rw [znj (zZL (h:=a0) (m:=a1) (x:=gOf a0 a1 a2) (w:=5) h9)];exact z7H hx g2 g3
 .rw [znj (zZK (h:=a0) (m:=a1) (x:=gOf a0 a1 a2) (w:=5) h0)];exact z7H hx g2 g3
theorem zBo:u3 110 zFN:=kF3 z0d zk zbQ zfp (zq []) zFC
theorem zFD (a0:Host)(a1 a2:Int)(hc:zv6 a0 a1 a2=true):∃N,zuS N a0 a1 a2=some [aH (zv4 a0 a1 a2),aB (zv5 a0 a1 a2)]:=by
 obtain ⟨hc,hw⟩:=zlT hc;have hs:=(zJ a0).1 (zD.1 hc);refine ⟨0,?_⟩
 show _=some (zdW (zbh a0 a1 a2))
 unfold zuS oN nB
 conv=>zeta
 refine must (zbb ((zJ _).2 hs)) (must (zbb ((zJ _).2 hs)) (brN (fun hh=>?_) (fun hh=>?_)))
 .rw [zhC hh];rfl
 obtain ⟨g1,g2,g3⟩:=zcI hh;have hx:=zjG hs g2 g3;have hk:zF (gOf a0 a1 a2)=6:=qD hw;rw[zid hh,hk];refine must (zx g2) (must (zx g3) (must (zie rfl hw) ?_))
 show _=some (zdW (zjn a0 a1 a2 (gOf a0 a1 a2) 6,true))
 rw[znj (z9E (h:=a0) (m:=a1) (x:=gOf a0 a1 a2)),zEk (w:=6) rfl];exact must (zbb hx) (br (fun h1=>must (zx g2) (must (zx g3) rfl)) (fun h1=>must (zx g2) (must (zx g3) rfl)))
theorem zBp:u3 110 zFO:=kF3 z0e zk zbQ zfp (zq []) zFD
theorem z7I {a0:Host}{a1 a2:Int}(hx:SmG (gOf a0 a1 a2))(g2:hasB a1 (ln a0.Mons)=true)(g3:hasB a2 (ln (ix a0.Mons a1 mZ).Guests)=true) :
 (cond (zdQ (ix (ix (zu a0).Mons a1 zf).Guests a2 zi) (ix (ix (zu a0).Mons a1 zf).Guests a2 zi).Ctl.Traps 7) (cond (zdj (ix (ix (zu a0).Mons a1 zf).Guests a2 zi) (ix (ix (zu a0).Mons a1 zf).Guests a2 zi).Ctl.Traps 7) (cond (inb a1 (ln (zu a0).Mons)) (cond (inb a2 (ln (ix (zu a0).Mons a1 zf).Guests)) (share (up (zu a0).Mons a1 ({ (ix (zu a0).Mons a1 zf) with Guests:=(up (ix (zu a0).Mons a1 zf).Guests a2 (zb2 (ix (ix (zu a0).Mons a1 zf).Guests a2 zi) (ix (ix (zu a0).Mons a1 zf).Guests a2 zi).Ctl.Traps 7)) }:Mon)) (fun x4=>(some [(.agg (zba ({ (zu a0) with Mons:=x4 }:Host))),(.one (.b true))]))) none) none) (cond (inb a1 (ln (zu a0).Mons)) (cond (inb a2 (ln (ix (zu a0).Mons a1 zf).Guests)) (share (up (zu a0).Mons a1 ({ (ix (zu a0).Mons a1 zf) with Guests:=(up (ix (zu a0).Mons a1 zf).Guests a2 (zb2 (ix (ix (zu a0).Mons a1 zf).Guests a2 zi) (ix (ix (zu a0).Mons a1 zf).Guests a2 zi).Ctl.Traps 7)) }:Mon)) (fun x4=>(some [(.agg (zba ({ (zu a0) with Mons:=x4 }:Host))),(.one (.b true))]))) none) none)) none)=some (zdW (zfv a0 a1 a2 (zeV (gOf a0 a1 a2) (gOf a0 a1 a2).Ctl.Traps 7),true)) :=
 must (zbb hx) (br (fun h1=>must (zx g2) (must (zx g3) rfl)) (fun h1=>must (zx g2) (must (zx g3) rfl)))
theorem zbaR {a0:Host}{x4:List Mon}{a1 a2:Int}(hx:SmG (gOf a0 a1 a2))(g2:hasB a1 (ln x4)=true)(g3:hasB a2 (ln (ix x4 a1 mZ).Guests)=true)(e:(ix (ix x4 a1 zf).Guests a2 zi)=gOf a0 a1 a2) :
 (cond (zdQ ({ (ix (ix (zu a0).Mons a1 zf).Guests a2 zi) with Prog:=(ix (ix x4 a1 zf).Guests a2 zi).Prog,Written:=(ix (ix x4 a1 zf).Guests a2 zi).Written,Live:=(ix (ix x4 a1 zf).Guests a2 zi).Live,Seen:=(ix (ix x4 a1 zf).Guests a2 zi).Seen }:Guest) (ix (ix (zu a0).Mons a1 zf).Guests a2 zi).Ctl.Traps 7) (cond (zdj ({ (ix (ix (zu a0).Mons a1 zf).Guests a2 zi) with Prog:=(ix (ix x4 a1 zf).Guests a2 zi).Prog,Written:=(ix (ix x4 a1 zf).Guests a2 zi).Written,Live:=(ix (ix x4 a1 zf).Guests a2 zi).Live,Seen:=(ix (ix x4 a1 zf).Guests a2 zi).Seen }:Guest) (ix (ix (zu a0).Mons a1 zf).Guests a2 zi).Ctl.Traps 7) (cond (inb a1 (ln x4)) (cond (inb a2 (ln (ix x4 a1 zf).Guests)) (share (up x4 a1 ({ (ix x4 a1 zf) with Guests:=(up (ix x4 a1 zf).Guests a2 (zb2 ({ (ix (ix (zu a0).Mons a1 zf).Guests a2 zi) with Prog:=(ix (ix x4 a1 zf).Guests a2 zi).Prog,Written:=(ix (ix x4 a1 zf).Guests a2 zi).Written,Live:=(ix (ix x4 a1 zf).Guests a2 zi).Live,Seen:=(ix (ix x4 a1 zf).Guests a2 zi).Seen }:Guest) (ix (ix (zu a0).Mons a1 zf).Guests a2 zi).Ctl.Traps 7)) }:Mon)) (fun x5=>(some [(.agg (zba ({ (zu a0) with Mons:=x5 }:Host))),(.one (.b true))]))) none) none) (cond (inb a1 (ln x4)) (cond (inb a2 (ln (ix x4 a1 zf).Guests)) (share (up x4 a1 ({ (ix x4 a1 zf) with Guests:=(up (ix x4 a1 zf).Guests a2 (zb2 ({ (ix (ix (zu a0).Mons a1 zf).Guests a2 zi) with Prog:=(ix (ix x4 a1 zf).Guests a2 zi).Prog,Written:=(ix (ix x4 a1 zf).Guests a2 zi).Written,Live:=(ix (ix x4 a1 zf).Guests a2 zi).Live,Seen:=(ix (ix x4 a1 zf).Guests a2 zi).Seen }:Guest) (ix (ix (zu a0).Mons a1 zf).Guests a2 zi).Ctl.Traps 7)) }:Mon)) (fun x5=>(some [(.agg (zba ({ (zu a0) with Mons:=x5 }:Host))),(.one (.b true))]))) none) none)) none)=some (zdW (zfv { a0 with Mons:=x4 } a1 a2 (zeV (gOf a0 a1 a2) (gOf a0 a1 a2).Ctl.Traps 7),true)):=by
 rw[e];exact must (zbb hx) (br (fun h1=>must (zx g2) (must (zx g3) rfl)) (fun h1=>must (zx g2) (must (zx g3) rfl)))
theorem zFE (a0:Host)(a1 a2:Int)(hc:zv9 a0 a1 a2=true):∃N,zuT N a0 a1 a2=some [aH (zv7 a0 a1 a2),aB (zv8 a0 a1 a2)]:=by
 obtain ⟨hc,hw⟩:=zlT hc;have hs:=(zJ a0).1 (zD.1 hc);refine ⟨0,?_⟩
 show _=some (zdW (zbh a0 a1 a2))
 unfold zuT oN nB
 conv=>zeta
 refine must (zbb ((zJ _).2 hs)) (must (zbb ((zJ _).2 hs)) (brN (fun hh=>?_) (fun hh=>?_)))
 .rw [zhC hh];rfl
 obtain ⟨g1,g2,g3⟩:=zcI hh;have hx:=zjG hs g2 g3;have hk:zF (gOf a0 a1 a2)=7:=qD hw;rw[zid hh,hk];refine must (zx g2) (must (zx g3) (must (zie rfl hw) ?_))
 show _=some (zdW (zjn a0 a1 a2 (gOf a0 a1 a2) 7,true))
 refine must (zx g2) (must rfl (br (fun h0=>must (zx g2) (br (fun h9=>must (zx g2) (must (zx g2) (shr ?_))) (fun h9=>?_))) (fun h0=>?_)))
 .rw [znj (zZM (h:=a0) (m:=a1) (x:=gOf a0 a1 a2) (w:=7) rfl h0 h9),zEk (w:=7) rfl];have eM:=zoq g2 { ix a0.Mons a1 mZ with Own:=zG .i64 (ix a0.Mons a1 mZ).Own 1 };refine zbaR hx (zep g2) ?_ ?_
  .show hasB a2 (ln (ix (up a0.Mons a1 _) a1 mZ).Guests)=true
   rw[eM];exact g3
  .show ix (ix (up a0.Mons a1 _) a1 mZ).Guests a2 gZ=_
   rw[eM];rfl
 .rw [znj (zZL (h:=a0) (m:=a1) (x:=gOf a0 a1 a2) (w:=7) h9),zEk (w:=7) rfl];exact z7I hx g2 g3
 .rw [znj (zZK (h:=a0) (m:=a1) (x:=gOf a0 a1 a2) (w:=7) h0),zEk (w:=7) rfl];exact z7I hx g2 g3
theorem zBq:u3 110 zFP:=kF3 z0f zk zbQ zfp (zq []) zFE
def zpM:List AV->Option (Bool×List AV)
 | [.agg [.s (.sl .int) b,.s .mon c,.s .entry d,.s .entry e],.one (.i .i64 f),.one (.i .i64 g)]=>some ((zez (⟨b,c,d,e⟩:Host) f g),[aH (zD6 (⟨b,c,d,e⟩:Host) f g),aB (zD7 (⟨b,c,d,e⟩:Host) f g)])
 | _=>none
theorem zIu:u3 110 zpM:=by
 refine ⟨zpe.1,fun w avs xs rs hrep h=>?_⟩;unfold zpM at h;split at h
 .rename_i a0_0 a0_1 a0_2 a0_3 a1 a2;obtain ⟨hc,rfl⟩:=zdS h;rcases z6w (gOf (⟨a0_0,a0_1,a0_2,a0_3⟩:Host) a1 a2) with e|e|e|e|e|e|e|e
  .exact zpe.2 w _ xs _ hrep (congrArg (fun c=>some (c,zdW (zbh (⟨a0_0,a0_1,a0_2,a0_3⟩:Host) a1 a2))) (zie hc e))
  .exact zBk.2 w _ xs _ hrep (congrArg (fun c=>some (c,zdW (zbh (⟨a0_0,a0_1,a0_2,a0_3⟩:Host) a1 a2))) (zie hc e))
  .exact zBl.2 w _ xs _ hrep (congrArg (fun c=>some (c,zdW (zbh (⟨a0_0,a0_1,a0_2,a0_3⟩:Host) a1 a2))) (zie hc e))
  .exact zBm.2 w _ xs _ hrep (congrArg (fun c=>some (c,zdW (zbh (⟨a0_0,a0_1,a0_2,a0_3⟩:Host) a1 a2))) (zie hc e))
  .exact zBn.2 w _ xs _ hrep (congrArg (fun c=>some (c,zdW (zbh (⟨a0_0,a0_1,a0_2,a0_3⟩:Host) a1 a2))) (zie hc e))
  .exact zBo.2 w _ xs _ hrep (congrArg (fun c=>some (c,zdW (zbh (⟨a0_0,a0_1,a0_2,a0_3⟩:Host) a1 a2))) (zie hc e))
  .exact zBp.2 w _ xs _ hrep (congrArg (fun c=>some (c,zdW (zbh (⟨a0_0,a0_1,a0_2,a0_3⟩:Host) a1 a2))) (zie hc e))
  .exact zBq.2 w _ xs _ hrep (congrArg (fun c=>some (c,zdW (zbh (⟨a0_0,a0_1,a0_2,a0_3⟩:Host) a1 a2))) (zie hc e))
 .cases h
@[simp] abbrev zzg (h:Host)(m g page need:Int)(io:Bool):Bool:=pc (zcd h)
@[simp] abbrev zzd (h:Host)(m g page need:Int)(io:Bool):Host:=(lookOf h (zsx h io) m g page need io).1
@[simp] abbrev zze (h:Host)(m g page need:Int)(io:Bool):Int:=(lookOf h (zsx h io) m g page need io).2.1
@[simp] abbrev zzf (h:Host)(m g page need:Int)(io:Bool):Bool:=(lookOf h (zsx h io) m g page need io).2.2
def zDw:Run:=rF6 dH dI dI dI dI dB fun b c d e f g=>(zzg b c d e f g,[aH (zzd b c d e f g),aI (zze b c d e f g),aB (zzf b c d e f g)])
abbrev zTD (u9_10:lM)(u9_11:lN)(u9_12:lE)(u9_13:lE)(u9_0:Int)(u9_4:Int)(u9_3:Int):Mon :=
 (ix (ztW (⟨u9_10,u9_11,u9_12,u9_13⟩:Host) u9_0 u9_4 u9_3).Mons u9_0 zf)
def zrB (N:Nat)(u10_0:Int)(u10_1:Int)(u10_2:Int)(u10_3:Int)(u10_8:lM)(u10_9:lN)(u10_10:lE)(u10_11:lE):OA:=
 let y0:=(⟨u10_1,u10_0,u10_2,u10_3⟩:Entry); (oN (zod u10_11 y0) (some [(aH (⟨u10_8,u10_9,u10_10,(zoc u10_11 y0)⟩:Host)),(aI u10_2),(aB true)]))
def ztr (N:Nat)(u9_10:lM)(u9_11:lN)(u9_12:lE)(u9_13:lE)(u9_0:Int)(u9_4:Int)(u9_3:Int)(u9_1:Int)(u9_2:Int)(r10:((Int×(Int×(Int×(Int×(lM×(lN×(lE×(lE×(lM×(lN×(lE×(lE×Unit)))))))))))))->OA)(u9_5:Int)(u9_6:lM)(u9_7:lN)(u9_8:lE)(u9_9:lE):OA:=
 let y6:=(⟨u9_10,u9_11,u9_12,u9_13⟩:Host);let y1:=(ztW y6 u9_0 u9_4 u9_3);let y0:=(zTD u9_10 u9_11 u9_12 u9_13 u9_0 u9_4 u9_3);let y5:=(ix y0.Tables u9_1 zd0);let y3:=(ix y0.Guests u9_1 zi).Live; (oN (zII y6 u9_0 u9_4 u9_3) (oN (inb u9_0 (ln y1.Mons)) (oN (inb u9_1 (ln y0.Tables)) (oN (inb u9_1 (ln y0.Guests)) (oN (zIH y5 y3 y0.Outer u9_2) (oN (inb u9_1 (ln y0.Tables)) (share (up y1.Mons u9_0 ({ y0 with Tables:=(up y0.Tables u9_1 (zLS y5 y3 y0.Outer u9_2)) }:Mon)) (fun x11=>let y4:=(ix x11 u9_0 zf).Tables;let y2:=(ix y4 u9_1 zd0); (oN (inb u9_1 (ln y4)) (oN (zxv y2 u9_2) (r10 (u9_2,(u9_5,((ztc y2 u9_2).Page,((ztc y2 u9_2).Rights,(u9_6,(u9_7,(u9_8,(u9_9,(y1.Memory,(x11,(y1.Buffer,(y1.IoBuffer,())))))))))))))))))))))))
def znM (N:Nat)(u9_11:lN)(u9_0:Int)(u9_1:Int)(u9_2:Int)(u9_10:lM)(u9_12:lE)(u9_13:lE)(u9_4:Int)(u9_3:Int)(r10:((Int×(Int×(Int×(Int×(lM×(lN×(lE×(lE×(lM×(lN×(lE×(lE×Unit)))))))))))))->OA)(u9_5:Int)(u9_6:lM)(u9_7:lN)(u9_8:lE)(u9_9:lE):OA:=
 let y1:=(ztr N u9_10 u9_11 u9_12 u9_13 u9_0 u9_4 u9_3 u9_1 u9_2 r10 u9_5 u9_6 u9_7 u9_8 u9_9);let y0:=(ix (ix u9_11 u9_0 zf).Tables u9_1 zd0);let y2:=(ztc y0 u9_2); (cond (nB (zEF y0 u9_2)) y1 (cond (ieq y2.Page (-1)) y1 (oN (zds y2.Rights u9_3) (cond (nB (zdT y2.Rights u9_3)) y1 (r10 (u9_2,(u9_5,(y2.Page,(y2.Rights,(u9_6,(u9_7,(u9_8,(u9_9,(u9_10,(u9_11,(u9_12,(u9_13,())))))))))))))))))
def zrC (N:Nat)(u9_0:Int)(u9_1:Int)(u9_2:Int)(u9_3:Int)(u9_4:Int)(u9_5:Int)(u9_6:lM)(u9_7:lN)(u9_8:lE)(u9_9:lE)(u9_10:lM)(u9_11:lN)(u9_12:lE)(u9_13:lE):OA:=
 let y0:=(ix u9_11 u9_0 zf).Tables; (oN (inb u9_0 (ln u9_11)) (oN (inb u9_1 (ln y0)) (oN (zxv (ix y0 u9_1 zd0) u9_2) (share (fun (s10:(Int×(Int×(Int×(Int×(lM×(lN×(lE×(lE×(lM×(lN×(lE×(lE×Unit)))))))))))))=>(zrB N s10.1 s10.2.1 s10.2.2.1 s10.2.2.2.1 s10.2.2.2.2.2.2.2.2.1 s10.2.2.2.2.2.2.2.2.2.1 s10.2.2.2.2.2.2.2.2.2.2.1 s10.2.2.2.2.2.2.2.2.2.2.2.1)) (fun r10=>(znM N u9_11 u9_0 u9_1 u9_2 u9_10 u9_12 u9_13 u9_4 u9_3 r10 u9_5 u9_6 u9_7 u9_8 u9_9))))))
def zrD (N:Nat)(u10_0:Int)(u10_1:Int)(u10_2:Int)(u10_3:Int)(u10_8:lM)(u10_9:lN)(u10_10:lE)(u10_11:lE):OA:=
 let y0:=(⟨u10_1,u10_0,u10_2,u10_3⟩:Entry); (oN (zod u10_10 y0) (some [(aH (⟨u10_8,u10_9,(zoc u10_10 y0),u10_11⟩:Host)),(aI u10_2),(aB true)]))
def zrE (N:Nat)(u9_0:Int)(u9_1:Int)(u9_2:Int)(u9_3:Int)(u9_4:Int)(u9_5:Int)(u9_6:lM)(u9_7:lN)(u9_8:lE)(u9_9:lE)(u9_10:lM)(u9_11:lN)(u9_12:lE)(u9_13:lE):OA:=
 let y0:=(ix u9_11 u9_0 zf).Tables; (oN (inb u9_0 (ln u9_11)) (oN (inb u9_1 (ln y0)) (oN (zxv (ix y0 u9_1 zd0) u9_2) (share (fun (s10:(Int×(Int×(Int×(Int×(lM×(lN×(lE×(lE×(lM×(lN×(lE×(lE×Unit)))))))))))))=>(zrD N s10.1 s10.2.1 s10.2.2.1 s10.2.2.2.1 s10.2.2.2.2.2.2.2.2.1 s10.2.2.2.2.2.2.2.2.2.1 s10.2.2.2.2.2.2.2.2.2.2.1 s10.2.2.2.2.2.2.2.2.2.2.2.1)) (fun r10=>(znM N u9_11 u9_0 u9_1 u9_2 u9_10 u9_12 u9_13 u9_4 u9_3 r10 u9_5 u9_6 u9_7 u9_8 u9_9))))))
def zrF (N:Nat)(u8_0:Int)(u8_1:Int)(u8_2:Int)(u8_3:Int)(u8_4:Bool)(u8_5:Int)(u8_6:lM)(u8_7:lN)(u8_8:lE)(u8_9:lE)(u8_10:lM)(u8_11:lN)(u8_12:lE)(u8_13:lE):OA:=
 let y1:=(aH (⟨u8_10,u8_11,u8_12,u8_13⟩:Host));let y0:=(zxy u8_0 u8_1);let y3:=(zjt u8_12 y0 u8_2);let y2:=(zjt u8_13 y0 u8_2); (cond u8_4 (oN (zvg u8_0 u8_1) (share (fun (s9:(Int×(Int×(Int×(Int×(Int×(Int×(lM×(lN×(lE×(lE×(lM×(lN×(lE×(lE×Unit)))))))))))))))=>(zrC N s9.1 s9.2.1 s9.2.2.1 s9.2.2.2.1 s9.2.2.2.2.1 s9.2.2.2.2.2.1 s9.2.2.2.2.2.2.1 s9.2.2.2.2.2.2.2.1 s9.2.2.2.2.2.2.2.2.1 s9.2.2.2.2.2.2.2.2.2.1 s9.2.2.2.2.2.2.2.2.2.2.1 s9.2.2.2.2.2.2.2.2.2.2.2.1 s9.2.2.2.2.2.2.2.2.2.2.2.2.1 s9.2.2.2.2.2.2.2.2.2.2.2.2.2.1)) (fun r9=>(oN (zmJ u8_13 y0 u8_2) (cond (zju u8_13 y0 u8_2) (oN (zds y2.Rights u8_3) (cond (zdT y2.Rights u8_3) (some [y1,(aI y2.Host),(aB true)]) (r9 (u8_0,(u8_1,(u8_2,(u8_3,(u8_5,(y0,(u8_6,(u8_7,(u8_8,(u8_9,(u8_10,(u8_11,(u8_12,(u8_13,()))))))))))))))))) (r9 (u8_0,(u8_1,(u8_2,(u8_3,(u8_5,(y0,(u8_6,(u8_7,(u8_8,(u8_9,(u8_10,(u8_11,(u8_12,(u8_13,())))))))))))))))))))) (oN (zvg u8_0 u8_1) (share (fun (s9:(Int×(Int×(Int×(Int×(Int×(Int×(lM×(lN×(lE×(lE×(lM×(lN×(lE×(lE×Unit)))))))))))))))=>(zrE N s9.1 s9.2.1 s9.2.2.1 s9.2.2.2.1 s9.2.2.2.2.1 s9.2.2.2.2.2.1 s9.2.2.2.2.2.2.1 s9.2.2.2.2.2.2.2.1 s9.2.2.2.2.2.2.2.2.1 s9.2.2.2.2.2.2.2.2.2.1 s9.2.2.2.2.2.2.2.2.2.2.1 s9.2.2.2.2.2.2.2.2.2.2.2.1 s9.2.2.2.2.2.2.2.2.2.2.2.2.1 s9.2.2.2.2.2.2.2.2.2.2.2.2.2.1)) (fun r9=>(oN (zmJ u8_12 y0 u8_2) (cond (zju u8_12 y0 u8_2) (oN (zds y3.Rights u8_3) (cond (zdT y3.Rights u8_3) (some [y1,(aI y3.Host),(aB true)]) (r9 (u8_0,(u8_1,(u8_2,(u8_3,(u8_5,(y0,(u8_6,(u8_7,(u8_8,(u8_9,(u8_10,(u8_11,(u8_12,(u8_13,()))))))))))))))))) (r9 (u8_0,(u8_1,(u8_2,(u8_3,(u8_5,(y0,(u8_6,(u8_7,(u8_8,(u8_9,(u8_10,(u8_11,(u8_12,(u8_13,())))))))))))))))))))))
def zrG (N:Nat)(u7_0:Int)(u7_1:Int)(u7_2:Int)(u7_3:Int)(u7_4:Bool)(u7_8:lM)(u7_9:lN)(u7_10:lE)(u7_11:lE)(u7_12:lM)(u7_13:lN)(u7_14:lE)(u7_15:lE)(u7_19:lG):OA:=
 let y1:=(ix u7_13 u7_0 zf);let y0:=(ix u7_19 u7_1 zi).Live;let y2:=(zhw y0 u7_2 u7_3); (oN (inb u7_1 (ln u7_19)) (oN (zjv y0 u7_2 u7_3) (cond (nB (zgq y0 u7_2 u7_3)) (some [(aH (⟨u7_12,u7_13,u7_14,u7_15⟩:Host)),(aI (-1)),(aB false)]) (share (fun (s8:(Int×(Int×(Int×(Int×(Bool×(Int×(lM×(lN×(lE×(lE×(lM×(lN×(lE×(lE×Unit)))))))))))))))=>(zrF N s8.1 s8.2.1 s8.2.2.1 s8.2.2.2.1 s8.2.2.2.2.1 s8.2.2.2.2.2.1 s8.2.2.2.2.2.2.1 s8.2.2.2.2.2.2.2.1 s8.2.2.2.2.2.2.2.2.1 s8.2.2.2.2.2.2.2.2.2.1 s8.2.2.2.2.2.2.2.2.2.2.1 s8.2.2.2.2.2.2.2.2.2.2.2.1 s8.2.2.2.2.2.2.2.2.2.2.2.2.1 s8.2.2.2.2.2.2.2.2.2.2.2.2.2.1)) (fun r8=>(cond (ieq u7_3 2) (oN (inb u7_0 (ln u7_13)) (oN (inb y2 (ln y1.Dirty)) (share (up u7_13 u7_0 ({ y1 with Dirty:=(up y1.Dirty y2 true) }:Mon)) (fun x9=>r8 (u7_0,(u7_1,(u7_2,(u7_3,(u7_4,(y2,(u7_8,(u7_9,(u7_10,(u7_11,(u7_12,(x9,(u7_14,(u7_15,())))))))))))))))))) (r8 (u7_0,(u7_1,(u7_2,(u7_3,(u7_4,(y2,(u7_8,(u7_9,(u7_10,(u7_11,(u7_12,(u7_13,(u7_14,(u7_15,())))))))))))))))))))))
def zJW (N:Nat)(a0:Host)(a1 a2:Int)(a3 a4:Int)(a5:Bool):OA:=
 let y1:=(zbs a0);let y0:=(zch a0 a1); (oN (ziu a0) (oN (zri a0 a1) (share (fun (s7:(Int×(Int×(Int×(Int×(Bool×(Int×(Int×(Int×(lM×(lN×(lE×(lE×(lM×(lN×(lE×(lE×(lS×(lM×(lB×(lG×((List Int)×(lK×Unit)))))))))))))))))))))))=>(zrG N s7.1 s7.2.1 s7.2.2.1 s7.2.2.2.1 s7.2.2.2.2.1 s7.2.2.2.2.2.2.2.2.1 s7.2.2.2.2.2.2.2.2.2.1 s7.2.2.2.2.2.2.2.2.2.2.1 s7.2.2.2.2.2.2.2.2.2.2.2.1 s7.2.2.2.2.2.2.2.2.2.2.2.2.1 s7.2.2.2.2.2.2.2.2.2.2.2.2.2.1 s7.2.2.2.2.2.2.2.2.2.2.2.2.2.2.1 s7.2.2.2.2.2.2.2.2.2.2.2.2.2.2.2.1 s7.2.2.2.2.2.2.2.2.2.2.2.2.2.2.2.2.2.2.2.1)) (fun r7=>(oN (zsA a0) (cond (nB (ztQ a0)) (some [(aH y1),(aI (-1)),(aB false)]) (cond (nB (zks a0 a1)) (some [(aH y1),(aI (-1)),(aB false)]) (oN (zcr a2 (ln y0.Guests)) (cond (nB (zcX a2 (ln y0.Guests))) (some [(aH y1),(aI (-1)),(aB false)]) (cond (ine a4 1) (cond (ine a4 2) (some [(aH y1),(aI (-1)),(aB false)]) (r7 (a1,(a2,(a3,(a4,(a5,(y0.Pending,(y0.Traps,(y0.Own,([],([],([],([],(y1.Memory,(y1.Mons,(y1.Buffer,(y1.IoBuffer,(y0.Outer,(y0.Out,(y0.Dirty,(y0.Guests,(y0.Outs,(y0.Tables,())))))))))))))))))))))))) (r7 (a1,(a2,(a3,(a4,(a5,(y0.Pending,(y0.Traps,(y0.Own,([],([],([],([],(y1.Memory,(y1.Mons,(y1.Buffer,(y1.IoBuffer,(y0.Outer,(y0.Out,(y0.Dirty,(y0.Guests,(y0.Outs,(y0.Tables,())))))))))))))))))))))))))))))))))
def zWY:FuncId->Nat->Option Tmpl:=zq [(139,999999,{ n:=0,tm:=[],lo:=[],ro:=[] }),(139,1007055,{ n:=200,tm:=[(1,ti),(2,ti),(3,ti),(4,ti),(5,.b),(12,.lp 0 0),(15,.lp 1 0),(16,.lp 2 0)],lo:=[(0,[.sl 0 [],.sl 1 [],.sl 2 [],.sl 3 []]),(1,[.sl 4 [],.sl 5 [],.sl 6 [],.sl 7 []]),(2,[.sl 8 [],.sl 9 [],.sl 10 [],.sl 11 [],.sl 12 [],ti,ti,.sl 13 [],ti])],ro:=[(0,(.sl .int),true),(1,.mon,true),(2,.entry,true),(3,.entry,true),(4,(.sl .int),true),(5,.mon,true),(6,.entry,true),(7,.entry,true),(8,.slot,true),(9,(.sl .int),true),(10,.bool,true),(11,.guest,true),(12,.int,true),(13,.kept,true)] }),(139,1005039,{ n:=200,tm:=[(1,ti),(2,ti),(3,ti),(4,ti),(5,.b),(12,.lp 0 0),(15,.lp 1 0),(18,ti)],lo:=[(0,[.sl 0 [],.sl 1 [],.sl 2 [],.sl 3 []]),(1,[.sl 4 [],.sl 5 [],.sl 6 [],.sl 7 []])],ro:=[(0,(.sl .int),true),(1,.mon,true),(2,.entry,true),(3,.entry,true),(4,(.sl .int),true),(5,.mon,true),(6,.entry,true),(7,.entry,true)] }),(139,1009019,{ n:=200,tm:=[(1,ti),(2,ti),(3,ti),(4,ti),(12,.lp 0 0),(15,.lp 1 0),(18,ti),(20,.lp 1 3),(21,ti)],lo:=[(0,[.sl 0 [],.sl 1 [],.sl 2 [],.sl 3 []]),(1,[.sl 4 [],.sl 5 [],.sl 6 [],.sl 7 []])],ro:=[(0,(.sl .int),true),(1,.mon,true),(2,.entry,true),(3,.entry,true),(4,(.sl .int),true),(5,.mon,true),(6,.entry,true),(7,.entry,true)] }),(139,1011005,{ n:=200,tm:=[(3,ti),(12,.lp 0 0),(15,.lp 1 0),(20,.lp 1 3),(21,ti),(24,.lp 2 0)],lo:=[(0,[.sl 0 [],.sl 1 [],.sl 2 [],.sl 3 []]),(1,[.sl 4 [],.sl 5 [],.sl 6 [],.sl 7 []]),(2,[ti,ti])],ro:=[(0,(.sl .int),true),(1,.mon,true),(2,.entry,true),(3,.entry,true),(4,(.sl .int),true),(5,.mon,true),(6,.entry,true),(7,.entry,true)] }),(139,1001009019,{ n:=200,tm:=[(1,ti),(2,ti),(3,ti),(4,ti),(12,.lp 0 0),(15,.lp 1 0),(18,ti),(20,.lp 1 2),(21,ti)],lo:=[(0,[.sl 0 [],.sl 1 [],.sl 2 [],.sl 3 []]),(1,[.sl 4 [],.sl 5 [],.sl 6 [],.sl 7 []])],ro:=[(0,(.sl .int),true),(1,.mon,true),(2,.entry,true),(3,.entry,true),(4,(.sl .int),true),(5,.mon,true),(6,.entry,true),(7,.entry,true)] }),(139,1001011005,{ n:=200,tm:=[(3,ti),(12,.lp 0 0),(15,.lp 1 0),(20,.lp 1 2),(21,ti),(24,.lp 2 0)],lo:=[(0,[.sl 0 [],.sl 1 [],.sl 2 [],.sl 3 []]),(1,[.sl 4 [],.sl 5 [],.sl 6 [],.sl 7 []]),(2,[ti,ti])],ro:=[(0,(.sl .int),true),(1,.mon,true),(2,.entry,true),(3,.entry,true),(4,(.sl .int),true),(5,.mon,true),(6,.entry,true),(7,.entry,true)] })]
theorem z7M {N:Nat}{r:Host}{m g page:Int}(hi:r.IoBuffer.length<=1048576) :
 zrB N page (zdG m g) (zdA (zbP r m g) page).Page (zdA (zbP r m g) page).Rights r.Memory r.Mons r.Buffer r.IoBuffer=some (zjf (zel r m g page true)):=by
 unfold zrB oN
 conv=>zeta
 exact must (zbb hi) rfl
theorem z7O {N:Nat}{r:Host}{m g page:Int}(hi:r.Buffer.length<=1048576) :
 zrD N page (zdG m g) (zdA (zbP r m g) page).Page (zdA (zbP r m g) page).Rights r.Memory r.Mons r.Buffer r.IoBuffer=some (zjf (zel r m g page false)):=by
 unfold zrD oN
 conv=>zeta
 exact must (zbb hi) rfl
theorem z5D {N:Nat}{r:Host}{m g page need q:Int}{R:OA}{r10}{u5 u6 u7 u8 u9}(A:LookAt r m g q need)(hr:r10 (page,(u5,((zdA (zbP (zb9 (mended r m q need) m g page) m g) page).Page,((zdA (zbP (zb9 (mended r m q need) m g page) m g) page).Rights,(u6,(u7,(u8,(u9,((zb9 (mended r m q need) m g page).Memory,((zb9 (mended r m q need) m g page).Mons,((zb9 (mended r m q need) m g page).Buffer,((zb9 (mended r m q need) m g page).IoBuffer,()))))))))))))=R) :
 ztr N r.Memory r.Mons r.Buffer r.IoBuffer m q need g page r10 u5 u6 u7 u8 u9=R:=by
 have M:=zlr A.kp A.hm A.hg;have F:=zlr (A.fill page) A.hm A.hg;unfold ztr oN
 conv=>zeta
 exact must (zbb A.mend) (must (zx M.hm) (must (zx M.ht) (must (zx M.hg) (must (zbb M.hk) (must (zx M.ht) (shr (must (zx F.ht) (must rfl hr))))))))
theorem lk_3 {N:Nat}{r:Host}{m g page need q:Int}{io:Bool}{r10}{u5 u6 u7 u8 u9}(A:LookAt r m g q need)(h1:r10 (page,(u5,((zdA (zbP (zb9 (mended r m q need) m g page) m g) page).Page,((zdA (zbP (zb9 (mended r m q need) m g page) m g) page).Rights,(u6,(u7,(u8,(u9,((zb9 (mended r m q need) m g page).Memory,((zb9 (mended r m q need) m g page).Mons,((zb9 (mended r m q need) m g page).Buffer,((zb9 (mended r m q need) m g page).IoBuffer,()))))))))))))=some (zjf (zel (zb9 (mended r m q need) m g page) m g page io)))(h2:r10 (page,(u5,((zdA (zbP r m g) page).Page,((zdA (zbP r m g) page).Rights,(u6,(u7,(u8,(u9,(r.Memory,(r.Mons,(r.Buffer,(r.IoBuffer,()))))))))))))=some (zjf (zel r m g page io))) :
 znM N r.Mons m g page r.Memory r.Buffer r.IoBuffer q need r10 u5 u6 u7 u8 u9=some (zjf (cond (zeb r m g page need) (zel (zb9 (mended r m q need) m g page) m g page io) (zel r m g page io))):=by
 unfold znM oN nB
 conv=>zeta
 refine brN (fun f1=>?_) (fun f1=>br (fun f2=>?_) (fun f2=>must rfl (brN (fun f3=>?_) (fun f3=>?_))))
 .rw [ztg (zZD f1)];exact z5D A h1
 .rw [ztg (zZE f2)];exact z5D A h1
 .rw [ztg (zZF f3)];exact z5D A h1
 .rw [zZg (zZG f1 f2 f3)];exact h2
theorem z7N {N:Nat}{r:Host}{m g page need q:Int}{u6 u7 u8 u9}(A:LookAt r m g q need) :
 zrC N m g page need q (zdG m g) u6 u7 u8 u9 r.Memory r.Mons r.Buffer r.IoBuffer=some (zjf (cond (zeb r m g page need) (zel (zb9 (mended r m q need) m g page) m g page true) (zel r m g page true))):=by
 have M:=zlr ⟨A.fit.1,rfl⟩ A.hm A.hg;have F:=zlr (A.fill page) A.hm A.hg;unfold zrC oN
 conv=>zeta
 exact must (zx M.hm) (must (zx M.ht) (must rfl (shr (lk_3 A (z7M (r:=zb9 (mended r m q need) m g page) (m:=m) (g:=g) F.hi) (z7M (r:=r) (m:=m) (g:=g) M.hi)))))
theorem z7P {N:Nat}{r:Host}{m g page need q:Int}{u6 u7 u8 u9}(A:LookAt r m g q need) :
 zrE N m g page need q (zdG m g) u6 u7 u8 u9 r.Memory r.Mons r.Buffer r.IoBuffer=some (zjf (cond (zeb r m g page need) (zel (zb9 (mended r m q need) m g page) m g page false) (zel r m g page false))):=by
 have M:=zlr ⟨A.fit.1,rfl⟩ A.hm A.hg;have F:=zlr (A.fill page) A.hm A.hg;unfold zrE oN
 conv=>zeta
 exact must (zx M.hm) (must (zx M.ht) (must rfl (shr (lk_3 A (z7O (r:=zb9 (mended r m q need) m g page) (m:=m) (g:=g) F.hb) (z7O (r:=r) (m:=m) (g:=g) M.hb)))))
theorem z7Q {N:Nat}{r:Host}{m g page need q:Int}{io:Bool}{u6 u7 u8 u9}(A:LookAt r m g q need) :
 zrF N m g page need io q u6 u7 u8 u9 r.Memory r.Mons r.Buffer r.IoBuffer=some (zjf (zfT r (zsx r io) m g page need q io)):=by
 unfold zrF oN
 conv=>zeta
 cases io
 .show _=some (zjf (zfT r r.Buffer m g page need q false))
  refine zcH rfl (must rfl (shr (must rfl (br (fun f1=>must rfl (br (fun f2=>?_) (fun f2=>?_))) (fun f1=>?_)))))
  .rw [zEI (znq f1 f2)];rfl
  .rw [znw (znq f1 f2)];exact z7P A
  .rw [znw (zED f1)];exact z7P A
 .show _=some (zjf (zfT r r.IoBuffer m g page need q true))
  refine must rfl (must rfl (shr (must rfl (br (fun f1=>must rfl (br (fun f2=>?_) (fun f2=>?_))) (fun f1=>?_)))))
  .rw [zEI (znq f1 f2)];rfl
  .rw [znw (znq f1 f2)];exact z7N A
  .rw [znw (zED f1)];exact z7N A
theorem zbaM (r:Host)(m q:Int)(io:Bool):zsx (zbt r m q) io=zsx r io:=by
 cases io<;>rfl
theorem z7R {N:Nat}{r:Host}{m g page need:Int}{io:Bool}{z1 z2 z3 z4}(hs:SmH r)(hg:zbF r m g=true)(hn:zfA need=true) :
 zrG N m g page need io z1 z2 z3 z4 r.Memory r.Mons r.Buffer r.IoBuffer (ix r.Mons m mZ).Guests=some (zjf (lookOf r (zsx r io) m g page need io)):=by
 obtain ⟨g1,g2,g3⟩:=zcI hg;unfold zrG oN nB
 conv=>zeta
 refine must (zx g3) (must rfl (brN (fun hw=>?_) (fun hw=>?_)))
 .have:zbM r m g page need=false:=by
   unfold zbM;rw[hg,hn,show zdZ (zb5 r m g) page need=false from hw]
   rfl
  rw[zgZ this];rfl
 .have hl:zbM r m g page need=true:=by
   unfold zbM;rw[hg,hn,show zdZ (zb5 r m g) page need=true from hw]
   rfl
  obtain ⟨A,B⟩:=zCX hs hl;rw[zI5 hl];have hd:hasB (zbV (zb5 r m g) page need) (ln (ix r.Mons m mZ).Dirty)=true:=zdk (zcc A.fit.1 g2).2.2.2.1 A.hq;refine shr (br (fun h2=>?_) (fun h2=>?_))
  .rw [h2]
   show _=some (zjf (zfT (zbt r m (zbV (zb5 r m g) page need)) (zsx r io) m g page need (zbV (zb5 r m g) page need) io))
   rw[<- zbaM r m (zbV (zb5 r m g) page need) io];exact must (zx g2) (must (zx hd) (shr (z7Q (r:=zbt r m (zbV (zb5 r m g) page need)) B)))
  .rw [h2];exact z7Q A
theorem zVc (a0:Host)(a1 a2:Int)(a3 a4:Int)(a5:Bool)(hc:zzg a0 a1 a2 a3 a4 a5=true):∃N,zJW N a0 a1 a2 a3 a4 a5=some [aH (zzd a0 a1 a2 a3 a4 a5),aI (zze a0 a1 a2 a3 a4 a5),aB (zzf a0 a1 a2 a3 a4 a5)]:=by
 have hs:=(zJ a0).1 (zD.1 hc);refine ⟨0,?_⟩
 show _=some (zjf (lookOf a0 (zsx a0 a5) a1 a2 a3 a4 a5))
 unfold zJW oN nB
 conv=>zeta
 refine must (zbb ((zJ _).2 hs)) (must (zbb ((zJ _).2 hs)) (shr (must rfl (brN (fun h1=>?_) (fun h1=>?_)))))
 .rw [zgZ (znx (zNE h1))];rfl
 refine brN (fun h2=>?_) (fun h2=>?_)
 .rw [zgZ (znx (zNF h2))];rfl
 have eM:zch a0 a1=ix a0.Mons a1 mZ:=by
  unfold zch;rw[show hasB a1 (ln a0.Mons)=true from h2]
  rfl
 rw[eM];refine must rfl (brN (fun h3=>?_) (fun h3=>?_))
 .rw [zgZ (znx (zNG h3))];rfl
 have hg:=zNH h1 h2 h3;have hno:∀{n:Int},zfA n=false->zbM a0 a1 a2 a3 n=false:=fun {n} h=>by
  unfold zbM;rw[hg,h];rfl
 rw[zln,zln];cases h4:ieq a4 1
 .cases h5:ieq a4 2
  .have:zfA a4=false:=by unfold zfA;rw[h4,h5];rfl
   rw[zgZ (hno this)];rfl
  .exact z7R (r:=a0) hs hg (by unfold zfA;rw[h4,h5];rfl)
 .exact z7R (r:=a0) hs hg (by unfold zfA;rw[h4];rfl)
theorem zN9:u3 139 zDw:=kF6 zg9 zk zbQ zfp zWY zVc
def z7y:zQ:=[(139,zDw),(110,zpM)]++zmG
theorem zUc:zI z7y:=zh zN9 (zh zIu zg9)
@[simp] abbrev zy5 (h:Host)(m g page need:Int):Bool:=pc (zcd h)
@[simp] abbrev zsB (h:Host)(m g page need:Int):Host:=(lookOf h h.Buffer m g page need false).1
@[simp] abbrev zsC (h:Host)(m g page need:Int):Int:=(lookOf h h.Buffer m g page need false).2.1
@[simp] abbrev zy4 (h:Host)(m g page need:Int):Bool:=(lookOf h h.Buffer m g page need false).2.2
def zDg:Run:=rF5 dH dI dI dI dI fun b c d e f=>(zy5 b c d e f,[aH (zsB b c d e f),aI (zsC b c d e f),aB (zy4 b c d e f)])
def zJH (N:Nat)(a0:Host)(a1 a2:Int)(a3 a4:Int):OA:=
 (oN (zzg a0 a1 a2 a3 a4 false) (some [(aH (zzd a0 a1 a2 a3 a4 false)),(aI (zze a0 a1 a2 a3 a4 false)),(aB (zzf a0 a1 a2 a3 a4 false))]))
theorem zUW (a0:Host)(a1 a2:Int)(a3 a4:Int)(hc:zy5 a0 a1 a2 a3 a4=true):∃N,zJH N a0 a1 a2 a3 a4=some [aH (zsB a0 a1 a2 a3 a4),aI (zsC a0 a1 a2 a3 a4),aB (zy4 a0 a1 a2 a3 a4)]:=by
 refine ⟨0,?_⟩;unfold zJH oN;exact must hc rfl
theorem zNT:u3 59 zDg:=kF5 zUc zk zbQ zfp (zq []) zUW
def z7z:zQ:=[(59,zDg)]++z7y
theorem z5g:zI z7z:=zh zNT zUc
def brought (n a b:Int):Int:=bif ilt n a then a else (cond (ilt b a) a (zzi n b))
@[simp] abbrev zwv (_ _ _:Int):Bool:=true
@[simp] abbrev zrg (n a b:Int):Int:=brought n a b
def zr2:Run:=rF3 dI dI dI fun b c d=>(zwv b c d,[aI (zrg b c d)])
def zFT (N:Nat)(a0 a1 a2:Int):OA:=
 (cond (ilt a0 a1) (some [(aI a1)]) (cond (ilt a2 a1) (some [(aI a1)]) (some [(aI (zzi a0 a2))])))
theorem zR9 (a0 a1 a2:Int)(hc:zwv a0 a1 a2=true):∃N,zFT N a0 a1 a2=some [aI (zrg a0 a1 a2)]:=by
 refine ⟨0,?_⟩;unfold zFT;refine br (fun _=>?_) (fun _=>br (fun _=>?_) (fun _=>?_))
 all_goals first|rfl|(simp only [*,zrg,brought,cT,cF]<;>rfl)|simp_all[Ty.cells,zrg,brought]
theorem zvb:u3 45 zr2:=kF3 zmW zk zl zo (zq []) zR9
@[simp] abbrev zqC (_ _ _:Int):Bool:=true
@[simp] abbrev zrp (n a b:Int):Int:=brought n a b
def zr6:Run:=rF3 dI dI dI fun b c d=>(zqC b c d,[aI (zrp b c d)])
def zGc (N:Nat)(a0 a1 a2:Int):OA:=
 (cond (ilt a2 a1) (some [(aI a1)]) (cond (ilt a0 a1) (some [(aI a1)]) (cond (igt a0 a2) (some [(aI a2)]) (some [(aI a0)]))))
theorem zSs (a0 a1 a2:Int)(hc:zqC a0 a1 a2=true):∃N,zGc N a0 a1 a2=some [aI (zrp a0 a1 a2)]:=by
 refine ⟨0,?_⟩;unfold zGc;unfold zrp brought zzi;cases h1:ilt a2 a1<;>cases h2:ilt a0 a1<;>cases h3:igt a0 a2<;>simp [igt] at * <;> omega
theorem zvf:u3 187 zr6:=kF3 zmW zk zl zo (zq []) zSs
theorem z1X (n:Int):0<=brought n 0 40/\brought n 0 40<=40:=by
 unfold brought;cases h1:ilt n 0
 .have h1:=jP h1;simp only[cF,show ilt 40 0=false from rfl,zzi]
  split<;>omega
 .simp
structure RI (a:List Bare) (i:Nat) (l:List Bare):Prop where
 len:l.length=a.length
 sm:zZS l
 eq:∀k,i<=k->l[k]?=a[k]?
theorem RI.up {a l:List Bare}{i:Nat}(h:RI a i l)(x:Bare)(hx:SmB x):RI a (i+1) (up l (i:Int) x) :=
 ⟨by rw[zgy];exact h.len,z9B h.sm hx,fun k hk=>by rw[zbaf (by omega)];exact h.eq k (by omega)⟩
structure RJ (l:List Bare) (i:Nat) (l':List Bare):Prop where
 len:l'.length=l.length
 sm:SmB (ix l' (i:Int) zXi)
 up:∀x,E.up l' (i:Int) x=E.up l (i:Int) x
theorem RJ.next {l l':List Bare}{i:Nat}(h:RJ l i l')(hi:i<l.length)(x:Bare)(hx:SmB x):RJ l i (E.up l' (i:Int) x) :=
 ⟨by rw[zgy];exact h.len,by rw[zdO (by rw[h.len];exact hi)];exact hx,fun y=>by rw[zwi];exact h.up y⟩
def z2y:zQ:=[(70,zpJ)]++z7z
theorem zQQ:zI z2y:=zh ztI z5g
@[simp] abbrev ztT (h:Host)(m g:Int):Bool:=pc (zcd h)
@[simp] abbrev ztR (h:Host)(m g:Int):Host:=(zbh h m g).1
@[simp] abbrev ztS (h:Host)(m g:Int):Bool:=(zbh h m g).2
def zxM:Run:=rF3 dH dI dI fun b c d=>(ztT b c d,[aH (ztR b c d),aB (ztS b c d)])
abbrev zgV (a0:Host)(a1 a2:Int):Int :=
 (zkp (ix (zch a0 a1).Guests a2 zi))
abbrev zcS (a0:Host)(a1 a2:Int):Int :=
 (zhe (ix (zch a0 a1).Guests a2 zi))
abbrev zw4 (a0:Host)(a1 a2:Int):Host :=
 (zsB a0 a1 a2 (zdX (zgV a0 a1 a2)) (zeL (ieq (zcS a0 a1 a2) 4)))
abbrev zgU (a0:Host)(a1 a2:Int):Guest :=
 (ix (ix (zbs a0).Mons a1 zf).Guests a2 zi)
abbrev zk1 (x4:lN)(a1 a2:Int):Guest :=
 (ix (ix x4 a1 zf).Guests a2 zi)
abbrev zw5 (a0:Host)(a1 a2:Int):Int :=
 (zsC a0 a1 a2 (zdX (zgV a0 a1 a2)) (zeL (ieq (zcS a0 a1 a2) 4)))
def zk2 (N:Nat)(a0:Host)(a1 a2:Int):OA:=
 let y5:=(zw5 a0 a1 a2);let y4:=(ieq (zcS a0 a1 a2) 4);let y3:=(zgV a0 a1 a2);let y2:=(zw4 a0 a1 a2);let y6:=(inb a1 (ln y2.Mons));let y1:=(ix (zch a0 a1).Guests a2 zi);let y0:=(ix y2.Mons a1 zf);let y7:=(inb a2 (ln y0.Guests)); (oN (zf6 y3) (oN (zob y4) (oN (zy5 a0 a1 a2 (zdX y3) (zeL y4)) (cond (nB (zy4 a0 a1 a2 (zdX y3) (zeL y4))) (oN (zf6 y3) (oN (zjs (zdX y3) y4) (oN (zfR y1 (zh2 (zdX y3) y4)) (oN y6 (oN y7 (share (up y2.Mons a1 ({ y0 with Guests:=(up y0.Guests a2 (zf8 y1 (zh2 (zdX y3) y4))) }:Mon)) (fun x4=>(some [(aH ({ y2 with Mons:=x4 }:Host)),(aB true)])))))))) (cond y4 (oN (zf5 y3) (oN (zkv y2.Memory y5 (zfP y3) y1.A) (oN (zoe y1) (oN y6 (oN y7 (share (up y2.Mons a1 ({ y0 with Guests:=(up y0.Guests a2 (zkt y1)) }:Mon)) (fun x4=>(some [(aH ({ y2 with Memory:=(zlm y2.Memory y5 (zfP y3) y1.A),Mons:=x4 }:Host)),(aB true)])))))))) (oN (zf5 y3) (oN (zn8 y2.Memory y5 (zfP y3)) (oN (zoa y1 (zm0 y2.Memory y5 (zfP y3))) (oN y6 (oN y7 (share (up y2.Mons a1 ({ y0 with Guests:=(up y0.Guests a2 (zkr y1 (zm0 y2.Memory y5 (zfP y3)))) }:Mon)) (fun x4=>(some [(aH ({ y2 with Mons:=x4 }:Host)),(aB true)])))))))))))))
def zk3 (N:Nat)(a0:Host)(a1 a2:Int)(x4:lN):OA:=
 let y2:=(zk1 x4 a1 a2);let y1:=(ix x4 a1 zf);let y0:=({ (zgU a0 a1 a2) with Prog:=y2.Prog,Written:=y2.Written,Live:=y2.Live,Seen:=y2.Seen }:Guest); (oN (zev y0) (oN (inb a2 (ln y1.Guests)) (share (up x4 a1 ({ y1 with Guests:=(up y1.Guests a2 (zeh y0)) }:Mon)) (fun x5=>(some [(aH ({ (zbs a0) with Mons:=x5 }:Host)),(aB true)])))))
def zk4 (N:Nat)(a0:Host)(a1 a2:Int):OA:=
 let y3:=(zbs a0).Mons;let y1:=(zgU a0 a1 a2);let y0:=(ix y3 a1 zf);let y2:=(ap y0.Outs [(zgk y1.Prog y1.Pc).X]); (cond (ieq (zcS a0 a1 a2) 7) (oN (zm1 y1) (oN (inb a2 (ln y0.Guests)) (share (up y3 a1 ({ y0 with Guests:=(up y0.Guests a2 (zmb y1)) }:Mon)) (fun x4=>(some [(aH ({ (zbs a0) with Mons:=x4 }:Host)),(aB true)]))))) (cond (ilt (ln y0.Outs) 40) (oN (zf7 y1.Prog y1.Pc) (oN (few (ln y2)) (oN (cond (ieq a1 a1) true false) (share (up y3 a1 ({ y0 with Outs:=y2 }:Mon)) (fun x4=>(zk3 N a0 a1 a2 x4)))))) (oN (zev y1) (oN (inb a2 (ln y0.Guests)) (share (up y3 a1 ({ y0 with Guests:=(up y0.Guests a2 (zeh y1)) }:Mon)) (fun x4=>(some [(aH ({ (zbs a0) with Mons:=x4 }:Host)),(aB true)])))))))
def zk5 (N:Nat)(a1:Int)(a0:Host)(a2:Int):OA:=
 let y9:=(zbs a0);let y5:=(zcS a0 a1 a2);let y2:=(zgU a0 a1 a2);let y1:=(ix y9.Mons a1 zf);let y11:=(znt y1.Traps y2.Ctl.Traps (zhg y5)); (oN (inb a1 (ln y9.Mons)) (oN (inb a2 (ln y1.Guests)) (oN (zoh y5) (oN (zwy y1.Traps y2.Ctl.Traps (zhg y5)) (cond (ieq y11 1) (oN (zmf y2 y5) (oN (inb a2 (ln y1.Guests)) (share (up y9.Mons a1 ({ y1 with Guests:=(up y1.Guests a2 (ziQ y2 y5)) }:Mon)) (fun x4=>(some [(aH ({ y9 with Mons:=x4 }:Host)),(aB true)]))))) (cond (ieq y11 2) (cond (ilt y1.Own 1000000000) (share (up y9.Mons a1 ({ y1 with Own:=(zG .i64 y1.Own 1) }:Mon)) (fun x4=>let y4:=(ix x4 a1 zf);let y3:=(zk1 x4 a1 a2);let y10:=(ap y4.Outs [(zgk y3.Prog y2.Pc).X]);let y6:=({ y2 with Prog:=y3.Prog,Written:=y3.Written,Live:=y3.Live,Seen:=y3.Seen }:Guest); (cond (ieq y5 7) (oN (zm1 y6) (oN (inb a2 (ln y4.Guests)) (share (up x4 a1 ({ y4 with Guests:=(up y4.Guests a2 (zmb y6)) }:Mon)) (fun x5=>(some [(aH ({ y9 with Mons:=x5 }:Host)),(aB true)]))))) (cond (ilt (ln y4.Outs) 40) (oN (zf7 y3.Prog y2.Pc) (oN (few (ln y10)) (oN (cond (ieq a1 a1) true false) (share (up x4 a1 ({ y4 with Outs:=y10 }:Mon)) (fun x5=>let y8:=(ix x5 a1 zf);let y0:=(ix y8.Guests a2 zi);let y7:=({ y2 with Prog:=y0.Prog,Written:=y0.Written,Live:=y0.Live,Seen:=y0.Seen }:Guest); (oN (zev y7) (oN (inb a2 (ln y8.Guests)) (share (up x5 a1 ({ y8 with Guests:=(up y8.Guests a2 (zeh y7)) }:Mon)) (fun x6=>(some [(aH ({ y9 with Mons:=x6 }:Host)),(aB true)])))))))))) (zk3 N a0 a1 a2 x4))))) (zk4 N a0 a1 a2)) (zk4 N a0 a1 a2)))))))
def zif (N:Nat)(a0:Host)(a1 a2:Int):OA:=
 (oN (zza a0 a1) (oN (ztM (zpv a0 a1) a2) (oN (inb a1 (ln (zbs a0).Mons)) (share (up (zbs a0).Mons a1 ({ (ix (zbs a0).Mons a1 zf) with Guests:=(ziq (zpv a0 a1) a2).Guests }:Mon)) (fun x4=>(some [(aH ({ (zbs a0) with Mons:=x4 }:Host)),(aB true)]))))))
def zfB (N:Nat)(a0:Host)(a1 a2:Int):OA:=
 let y0:=(zcS a0 a1 a2); (cond (ieq y0 5) (cond (ieq y0 5) (zk5 N a1 a0 a2) (zif N a0 a1 a2)) (cond (ieq y0 7) (zk5 N a1 a0 a2) (zif N a0 a1 a2)))
def zBz (N:Nat)(a0:Host)(a1 a2:Int):OA:=
 let y3:=(aH (zbs a0));let y2:=(zcS a0 a1 a2);let y0:=(zch a0 a1).Guests;let y1:=(ix y0 a2 zi); (oN (ziu a0) (oN (zri a0 a1) (oN (zsA a0) (cond (nB (ztQ a0)) (some [y3,(aB false)]) (cond (nB (zks a0 a1)) (some [y3,(aB false)]) (oN (zcr a2 (ln y0)) (cond (nB (zcX a2 (ln y0))) (some [y3,(aB false)]) (oN (inb a2 (ln y0)) (oN (zi8 y1) (cond (ieq y2 0) (some [y3,(aB false)]) (oN (inb a2 (ln y0)) (oN (zi8 y1) (oN (zqj y1) (cond (ieq y2 3) (cond (ieq y2 3) (zk2 N a0 a1 a2) (zfB N a0 a1 a2)) (cond (ieq y2 4) (zk2 N a0 a1 a2) (zfB N a0 a1 a2))))))))))))))))
theorem zVW {h:Host}{m:Int}(hm:hasB m (ln h.Mons)=true):zch h m=ix h.Mons m mZ:=by
 unfold zch;rw[hm];rfl
theorem is_1 {N:Nat}{a0:Host}{a1 a2:Int}(hs:SmH a0)(hh:zbF a0 a1 a2=true) :
 zk2 N a0 a1 a2=some (zdW (zgu (zho a0 a1 a2 (gOf a0 a1 a2) (ieq (zF (gOf a0 a1 a2)) 4)) a1 a2 (gOf a0 a1 a2) (ieq (zF (gOf a0 a1 a2)) 4),true)):=by
 obtain ⟨g1,g2,g3⟩:=zcI hh;have hx:=zjG hs g2 g3;have k:=ztf (b:=a0.Buffer) (page:=zX (address (gOf a0 a1 a2))) (need:=zbO (ieq (zF (gOf a0 a1 a2)) 4)) (io:=false) hs hh;have F:=zlr k g2 g3;have eM:=zVW g2;have e3:zcS a0 a1 a2=zF (gOf a0 a1 a2):=by
  show zhe (ix (zch a0 a1).Guests a2 gZ)=_
  rw[eM];rfl
 have e4:zgV a0 a1 a2=address (gOf a0 a1 a2):=by
  show zkp (ix (zch a0 a1).Guests a2 gZ)=_
  rw[eM];rfl
 have e1:zw4 a0 a1 a2=(zho a0 a1 a2 (gOf a0 a1 a2) (ieq (zF (gOf a0 a1 a2)) 4)).1:=by
  show zsB a0 a1 a2 (zdX (zgV a0 a1 a2)) (zeL (ieq (zcS a0 a1 a2) 4))=_
  rw[e3,e4];rfl
 have e6:zw5 a0 a1 a2=(zho a0 a1 a2 (gOf a0 a1 a2) (ieq (zF (gOf a0 a1 a2)) 4)).2.1:=by
  show zsC a0 a1 a2 (zdX (zgV a0 a1 a2)) (zeL (ieq (zcS a0 a1 a2) 4))=_
  rw[e3,e4];rfl
 unfold zk2 oN nB
 conv=>zeta
 rw[e1,e3,e4,e6,eM];unfold zgu;refine must rfl (must rfl (must (zbb ((zJ _).2 hs)) (brN (fun h=>?_) (fun h=>?_))))
 .rw [show (zho a0 a1 a2 (gOf a0 a1 a2) (ieq (zF (gOf a0 a1 a2)) 4)).2.2=false from h]
  exact must rfl (must rfl (must (zbb hx) (must (zx F.hm) (must (zx F.hg) rfl))))
 .rw [show (zho a0 a1 a2 (gOf a0 a1 a2) (ieq (zF (gOf a0 a1 a2)) 4)).2.2=true from h]
  refine br (fun h4=>?_) (fun h4=>?_)
  .have kk:=k.shape.1.1;rw[h4] at F kk ⊢;exact must rfl (must (zbb kk) (must (zbb hx) (must (zx F.hm) (must (zx F.hg) rfl))))
  .rw [h4] at F ⊢;exact must rfl (must rfl (must (zbb hx) (must (zx F.hm) (must (zx F.hg) rfl))))
theorem is_2 {N:Nat}{a0:Host}{x4:List Mon}{a1 a2:Int}(hx:SmG (gOf a0 a1 a2))(g3:hasB a2 (ln (ix x4 a1 mZ).Guests)=true)(e:zk1 x4 a1 a2=zgU a0 a1 a2) :
 zk3 N a0 a1 a2 x4=some (zdW (zfv { a0 with Mons:=x4 } a1 a2 (zbJ (gOf a0 a1 a2)),true)):=by
 unfold zk3 oN
 conv=>zeta
 rw[e];exact must (zbb hx) (must (zx g3) rfl)
def leftG (x:Guest)(w:Int):Guest:=bif ieq w 7 then held x else zbJ x
def zzo (h:Host)(m:Int)(x:Guest)(w:Int):Host:=bif ieq w 7 then h else zhi h m (zbY x.Prog x.Pc).X
theorem zxD {h:Host}{m:Int}{x:Guest}{w:Int}(hh:ieq w 7=true):leftG x w=held x/\zzo h m x w=h:=by
 unfold leftG zzo;rw[hh];exact ⟨rfl,rfl⟩
theorem zmk {h:Host}{m:Int}{x:Guest}{w:Int}(hh:ieq w 7=false):leftG x w=zbJ x/\zzo h m x w=zhi h m (zbY x.Prog x.Pc).X:=by
 unfold leftG zzo;rw[hh];exact ⟨rfl,rfl⟩
theorem zZl {h:Host}{m n:Int}(hh:ilt (ln (ix h.Mons m mZ).Outs) 40=true):zhi h m n={ h with Mons:=up h.Mons m { ix h.Mons m mZ with Outs:=ap (ix h.Mons m mZ).Outs [n] } }:=by
 unfold zhi;rw[hh];rfl
theorem zZk {h:Host}{m n:Int}(hh:ilt (ln (ix h.Mons m mZ).Outs) 40=false):zhi h m n=h:=by
 unfold zhi;rw[hh];rfl
theorem is_3 {N:Nat}{a0:Host}{a1 a2:Int}(hs:SmH a0)(g2:hasB a1 (ln a0.Mons)=true)(g3:hasB a2 (ln (ix a0.Mons a1 mZ).Guests)=true)(eW:zcS a0 a1 a2=zF (gOf a0 a1 a2)) :
 zk4 N a0 a1 a2=some (zdW (zfv (zzo a0 a1 (gOf a0 a1 a2) (zF (gOf a0 a1 a2))) a1 a2 (leftG (gOf a0 a1 a2) (zF (gOf a0 a1 a2))),true)):=by
 have hx:=zjG hs g2 g3;unfold zk4 oN
 conv=>zeta
 rw[eW];refine br (fun h7=>?_) (fun h7=>br (fun h3=>?_) (fun h3=>?_))
 .rw [(zxD (x:=gOf a0 a1 a2) (h:=a0) (m:=a1) h7).1,(zxD (x:=gOf a0 a1 a2) h7).2];exact must (zbb hx) (must (zx g3) rfl)
 .rw [(zmk (x:=gOf a0 a1 a2) (h:=a0) (m:=a1) h7).1,(zmk (x:=gOf a0 a1 a2) h7).2,zZl h3];refine must rfl (must (zTo h3) (must (zLT _) (shr (is_2 hx ?_ ?_))))
  .rw [zoq g2];exact g3
  .show ix (ix (up a0.Mons a1 _) a1 mZ).Guests a2 gZ=_
   rw[zoq g2]
 .rw [(zmk (x:=gOf a0 a1 a2) (h:=a0) (m:=a1) h7).1,(zmk (x:=gOf a0 a1 a2) h7).2,zZk h3];exact must (zbb hx) (must (zx g3) rfl)
theorem zbaC {h:Host}{m g:Int}{x:Guest}{w:Int}(h6:ieq w 6=false)(h57:ieq w 5=false->ieq w 6=false->ieq w 7=true)(hT:zc8 x.Ctl.Traps (zeT w)=false):zjn h m g x w=zfv (zzo (zd5 h m x w) m x w) m g (leftG x w):=by
 unfold zjn;cases h7:ieq w 7
 .have h5:ieq w 5=true:=by
   cases h5:ieq w 5
   .have:=h57 h5 h6;rw[h7] at this;cases this
   .rfl
  obtain ⟨e1,e2⟩:=tr3 x x.Ctl.Traps w h6 h7 hT h5;rw[(zmk (x:=x) (h:=zd5 h m x w) (m:=m) h7).1,(zmk (x:=x) h7).2,e1];unfold zf1;rw[e2,h5];rfl
 .have h5:ieq w 5=false:=by
   have:w=7:=qD h7;rw[this];rfl
  rw[(zxD (x:=x) (h:=zd5 h m x w) (m:=m) h7).1,(zxD (x:=x) h7).2,tr4 x x.Ctl.Traps w h6 h57 hT h5,zEk h5]
theorem is_p {a0:Host}{x5:List Mon}{a1 a2:Int}(hx:SmG (gOf a0 a1 a2))(g3:hasB a2 (ln (ix x5 a1 mZ).Guests)=true)(e:(ix (ix x5 a1 zf).Guests a2 zi)=gOf a0 a1 a2) :
 (cond (zev ({ (ix (ix (zbs a0).Mons a1 zf).Guests a2 zi) with Prog:=(ix (ix x5 a1 zf).Guests a2 zi).Prog,Written:=(ix (ix x5 a1 zf).Guests a2 zi).Written,Live:=(ix (ix x5 a1 zf).Guests a2 zi).Live,Seen:=(ix (ix x5 a1 zf).Guests a2 zi).Seen }:Guest)) (cond (inb a2 (ln (ix x5 a1 zf).Guests)) (share (up x5 a1 ({ (ix x5 a1 zf) with Guests:=(up (ix x5 a1 zf).Guests a2 (zeh ({ (ix (ix (zbs a0).Mons a1 zf).Guests a2 zi) with Prog:=(ix (ix x5 a1 zf).Guests a2 zi).Prog,Written:=(ix (ix x5 a1 zf).Guests a2 zi).Written,Live:=(ix (ix x5 a1 zf).Guests a2 zi).Live,Seen:=(ix (ix x5 a1 zf).Guests a2 zi).Seen }:Guest))) }:Mon)) (fun x6=>(some [(.agg (zba ({ (zbs a0) with Mons:=x6 }:Host))),(.one (.b true))]))) none) none)=some (zdW (zfv { a0 with Mons:=x5 } a1 a2 (zbJ (gOf a0 a1 a2)),true)):=by
 rw[e];exact must (zbb hx) (must (zx g3) rfl)
theorem is_o {a0:Host}{x4:List Mon}{a1 a2:Int}(hx:SmG (gOf a0 a1 a2))(g2:hasB a1 (ln x4)=true)(g3:hasB a2 (ln (ix x4 a1 mZ).Guests)=true)(e:(ix (ix x4 a1 zf).Guests a2 zi)=gOf a0 a1 a2) :
 (cond (ieq (zF (gOf a0 a1 a2)) 7) (cond (zm1 ({ (ix (ix (zbs a0).Mons a1 zf).Guests a2 zi) with Prog:=(ix (ix x4 a1 zf).Guests a2 zi).Prog,Written:=(ix (ix x4 a1 zf).Guests a2 zi).Written,Live:=(ix (ix x4 a1 zf).Guests a2 zi).Live,Seen:=(ix (ix x4 a1 zf).Guests a2 zi).Seen }:Guest)) (cond (inb a2 (ln (ix x4 a1 zf).Guests)) (share (up x4 a1 ({ (ix x4 a1 zf) with Guests:=(up (ix x4 a1 zf).Guests a2 (zmb ({ (ix (ix (zbs a0).Mons a1 zf).Guests a2 zi) with Prog:=(ix (ix x4 a1 zf).Guests a2 zi).Prog,Written:=(ix (ix x4 a1 zf).Guests a2 zi).Written,Live:=(ix (ix x4 a1 zf).Guests a2 zi).Live,Seen:=(ix (ix x4 a1 zf).Guests a2 zi).Seen }:Guest))) }:Mon)) (fun x5=>(some [(.agg (zba ({ (zbs a0) with Mons:=x5 }:Host))),(.one (.b true))]))) none) none) (cond (ilt (ln (ix x4 a1 zf).Outs) 40) (cond (zf7 (ix (ix x4 a1 zf).Guests a2 zi).Prog (ix (ix (zbs a0).Mons a1 zf).Guests a2 zi).Pc) (cond (few (ln (ap (ix x4 a1 zf).Outs [(zgk (ix (ix x4 a1 zf).Guests a2 zi).Prog (ix (ix (zbs a0).Mons a1 zf).Guests a2 zi).Pc).X]))) (cond (cond (ieq a1 a1) true false) (share (up x4 a1 ({ (ix x4 a1 zf) with Outs:=(ap (ix x4 a1 zf).Outs [(zgk (ix (ix x4 a1 zf).Guests a2 zi).Prog (ix (ix (zbs a0).Mons a1 zf).Guests a2 zi).Pc).X]) }:Mon)) (fun x5=>(cond (zev ({ (ix (ix (zbs a0).Mons a1 zf).Guests a2 zi) with Prog:=(ix (ix x5 a1 zf).Guests a2 zi).Prog,Written:=(ix (ix x5 a1 zf).Guests a2 zi).Written,Live:=(ix (ix x5 a1 zf).Guests a2 zi).Live,Seen:=(ix (ix x5 a1 zf).Guests a2 zi).Seen }:Guest)) (cond (inb a2 (ln (ix x5 a1 zf).Guests)) (share (up x5 a1 ({ (ix x5 a1 zf) with Guests:=(up (ix x5 a1 zf).Guests a2 (zeh ({ (ix (ix (zbs a0).Mons a1 zf).Guests a2 zi) with Prog:=(ix (ix x5 a1 zf).Guests a2 zi).Prog,Written:=(ix (ix x5 a1 zf).Guests a2 zi).Written,Live:=(ix (ix x5 a1 zf).Guests a2 zi).Live,Seen:=(ix (ix x5 a1 zf).Guests a2 zi).Seen }:Guest))) }:Mon)) (fun x6=>(some [(.agg (zba ({ (zbs a0) with Mons:=x6 }:Host))),(.one (.b true))]))) none) none))) none) none) none) (cond (zev ({ (ix (ix (zbs a0).Mons a1 zf).Guests a2 zi) with Prog:=(ix (ix x4 a1 zf).Guests a2 zi).Prog,Written:=(ix (ix x4 a1 zf).Guests a2 zi).Written,Live:=(ix (ix x4 a1 zf).Guests a2 zi).Live,Seen:=(ix (ix x4 a1 zf).Guests a2 zi).Seen }:Guest)) (cond (inb a2 (ln (ix x4 a1 zf).Guests)) (share (up x4 a1 ({ (ix x4 a1 zf) with Guests:=(up (ix x4 a1 zf).Guests a2 (zeh ({ (ix (ix (zbs a0).Mons a1 zf).Guests a2 zi) with Prog:=(ix (ix x4 a1 zf).Guests a2 zi).Prog,Written:=(ix (ix x4 a1 zf).Guests a2 zi).Written,Live:=(ix (ix x4 a1 zf).Guests a2 zi).Live,Seen:=(ix (ix x4 a1 zf).Guests a2 zi).Seen }:Guest))) }:Mon)) (fun x5=>(some [(.agg (zba ({ (zbs a0) with Mons:=x5 }:Host))),(.one (.b true))]))) none) none)))=some (zdW (zfv (zzo { a0 with Mons:=x4 } a1 (gOf a0 a1 a2) (zF (gOf a0 a1 a2))) a1 a2 (leftG (gOf a0 a1 a2) (zF (gOf a0 a1 a2))),true)):=by
 rw[e];refine br (fun h7=>?_) (fun h7=>br (fun h3=>?_) (fun h3=>?_))
 .rw [(zxD (x:=gOf a0 a1 a2) (h:={ a0 with Mons:=x4 }) (m:=a1) h7).1,(zxD (x:=gOf a0 a1 a2) h7).2];exact must (zbb hx) (must (zx g3) rfl)
 .rw [(zmk (x:=gOf a0 a1 a2) (h:={ a0 with Mons:=x4 }) (m:=a1) h7).1,(zmk (x:=gOf a0 a1 a2) h7).2,zZl (h:={ a0 with Mons:=x4 }) h3];refine must rfl (must (zTo h3) (must (zLT _) (shr (is_p hx ?_ ?_))))
  .rw [zoq (h:={ a0 with Mons:=x4 }) g2];exact g3
  .show ix (ix (up x4 a1 _) a1 mZ).Guests a2 gZ=_
   rw[zoq (h:={ a0 with Mons:=x4 }) g2];exact e
 .rw [(zmk (x:=gOf a0 a1 a2) (h:={ a0 with Mons:=x4 }) (m:=a1) h7).1,(zmk (x:=gOf a0 a1 a2) h7).2,zZk (h:={ a0 with Mons:=x4 }) h3];exact must (zbb hx) (must (zx g3) rfl)
theorem tf (b:Bool):b=false\/b=true:=by cases b<;>simp
theorem is_4 {N:Nat}{a0:Host}{a1 a2:Int}(hs:SmH a0)(g2:hasB a1 (ln a0.Mons)=true)(g3:hasB a2 (ln (ix a0.Mons a1 mZ).Guests)=true)(eW:zcS a0 a1 a2=zF (gOf a0 a1 a2))(h6:ieq (zF (gOf a0 a1 a2)) 6=false)(h57:ieq (zF (gOf a0 a1 a2)) 5=false->ieq (zF (gOf a0 a1 a2)) 6=false->ieq (zF (gOf a0 a1 a2)) 7=true) :
 zk5 N a1 a0 a2=some (zdW (zjn a0 a1 a2 (gOf a0 a1 a2) (zF (gOf a0 a1 a2)),true)):=by
 have hx:=zjG hs g2 g3;have T3:=is_3 (N:=N) hs g2 g3 eW;have hn6:ine (zF (gOf a0 a1 a2)) 6=true:=by rw[zln,h6];rfl
 unfold zk5 oN
 conv=>zeta
 rw[eW];refine must (zx g2) (must (zx g3) (must rfl (must rfl ?_)));rw[show ieq (znt (ix a0.Mons a1 zf).Traps (zgU a0 a1 a2).Ctl.Traps (zhg (zF (gOf a0 a1 a2)))) 1=zc8 (gOf a0 a1 a2).Ctl.Traps (zeT (zF (gOf a0 a1 a2))) from zbar _ _ _]
 refine br (fun hT=>?_) (fun hT=>?_)
 .obtain ⟨e1,e2⟩:=tr2 (gOf a0 a1 a2) (gOf a0 a1 a2).Ctl.Traps _ h6 h57 hT;have e0:zd5 a0 a1 (gOf a0 a1 a2) (zF (gOf a0 a1 a2))=a0:=by
   unfold zd5;rw[hn6,zbas hT];rfl
  unfold zjn;rw[e0,zNe e2,e1];exact must (zbb hx) (must (zx g3) rfl)
 .rw [zbaC h6 h57 hT];have e0:zd5 a0 a1 (gOf a0 a1 a2) (zF (gOf a0 a1 a2))=bif ieq (zjd (ix a0.Mons a1 mZ).Traps (gOf a0 a1 a2).Ctl.Traps (zeT (zF (gOf a0 a1 a2)))) 2 then owned a0 a1 else a0:=by
   unfold zd5;rw[hn6];rfl
  rw[e0];refine br (fun hO=>?_) (fun hO=>?_)
  .rw [show ieq (zjd (ix a0.Mons a1 mZ).Traps (gOf a0 a1 a2).Ctl.Traps (zeT (zF (gOf a0 a1 a2)))) 2=true from hO]
   simp only[cT];unfold owned;refine br (fun h0=>?_) (fun h0=>?_)
   rotate_left
   .rw [h0];exact T3
   rw[h0];refine shr ?_;have eM:=zoq g2 { ix a0.Mons a1 mZ with Own:=zG .i64 (ix a0.Mons a1 mZ).Own 1 };have g2':hasB a1 (ln (up a0.Mons a1 { ix a0.Mons a1 mZ with Own:=zG .i64 (ix a0.Mons a1 mZ).Own 1 }))=true:=zep g2;have e5:zk1 (up a0.Mons a1 { ix a0.Mons a1 mZ with Own:=zG .i64 (ix a0.Mons a1 mZ).Own 1 }) a1 a2=zgU a0 a1 a2:=by
    show ix (ix (up a0.Mons a1 _) a1 mZ).Guests a2 gZ=_
    rw[eM]
   refine is_o hx g2' ?_ e5;rw[eM];exact g3
  .rw [show ieq (zjd (ix a0.Mons a1 mZ).Traps (gOf a0 a1 a2).Ctl.Traps (zeT (zF (gOf a0 a1 a2)))) 2=false from hO]
   exact T3
theorem z5y {N:Nat}{a0:Host}{a1 a2:Int}(hs:SmH a0)(hh:zbF a0 a1 a2=true)(h0:ieq (zF (gOf a0 a1 a2)) 0=false){y:Guest}{o:List Int}(hy:(stepped (zy a0 a1) a2 (gOf a0 a1 a2) (zF (gOf a0 a1 a2))).Guests=up (ix a0.Mons a1 mZ).Guests a2 y)(hb:SmB (zy a0 a1)) :
 zif N a0 a1 a2=some (zdW (zfv a0 a1 a2 y,true)):=by
 obtain ⟨g1,g2,g3⟩:=zcI hh;have hsb:=zwn g1 g2;have eg:(zy a0 a1).Guests=(ix a0.Mons a1 mZ).Guests:=by
  unfold zy;rw[g2];rfl
 have hgg:hasB a2 (ln (zy a0 a1).Guests)=true:=by rw[eg];exact g3
 have eA:gAt (zy a0 a1) a2=gOf a0 a1 a2:=by
  unfold gAt;rw[hgg,eg];rfl
 have hcan:zgh (zy a0 a1) a2=true:=by
  unfold zgh;rw[hgg,hsb,eA,h0];rfl
 have eS:zeq (zy a0 a1) a2=stepped (zy a0 a1) a2 (gOf a0 a1 a2) (zF (gOf a0 a1 a2)):=by
  unfold zeq;rw[hcan,eA];rfl
 have hG:(ziq (zpv a0 a1) a2).Guests=up (ix a0.Mons a1 mZ).Guests a2 y:=by
  show (zeq (zy a0 a1) a2).Guests=_
  rw[eS,hy]
 unfold zif oN;rw[hG];exact must (zbb ((zJ _).2 hs)) (must (zbb hb) (must (zx g2) rfl))
theorem zJl {h:Host}{m:Int}(hs:SmH h)(hm:hasB m (ln h.Mons)=true):SmB (zy h m):=by
 have g1:=hs.2.1.2 _ (zbv hm mZ);have hP:∀(mm:List (List Int)) (q:Int),SmM mm->(zca mm q).length<=1048576:=fun mm q h=>zWE h;have hpg:∀p:Int,(zcp h m p).length<=1048576:=by
  intro p;unfold zcp;cases hasB m (ln h.Mons)
  .exact (by decide:zzW.length<=1048576)
  .cases hasB p 8
   .exact (by decide:zzW.length<=1048576)
   .simp only [cT];cases ine (zbn (ix h.Mons m zf).Outer p).Page (-1)
    .exact hP _ _ g1.2.1
    .exact hP _ _ hs.1
 have hN:∀(n i:Nat),∀x∈zcf h m n i,x.length<=1048576:=by
  intro n
  induction n with
  | zero=>intro i x hx;cases hx
  | succ n ih =>
   intro i x hx;rcases qI.1 hx with rfl|hx
   .exact hpg _
   .exact ih (i+1) x hx
 unfold zy;rw[hm];exact ⟨⟨by show (zcf h m 8 0).length<=1048576;rw[zzt];decide,hN 8 0⟩,g1.2.2.2.1,g1.2.2.2.2.1⟩
theorem zwu (b:Bare)(g:Int)(x:Guest):(zdC b g x).Guests=up b.Guests g x:=rfl
theorem zOR (a0:Host)(a1 a2:Int)(hb:zbD big [aH a0,aI a1,aI a2])(hc:ztT a0 a1 a2=true):∃N,zBz N a0 a1 a2=some [aH (ztR a0 a1 a2),aB (ztS a0 a1 a2)]:=by
 have hs:=(zJ a0).1 (zD.1 hc);refine ⟨0,?_⟩
 show _=some (zdW (zbh a0 a1 a2))
 unfold zBz oN nB
 conv=>zeta
 refine must (zbb ((zJ _).2 hs)) (must (zbb ((zJ _).2 hs)) (must rfl (brN (fun h1=>?_) (fun h1=>brN (fun h2=>?_) (fun h2=>?_)))))
 .rw [zhC (zNE h1)];rfl
 .rw [zhC (zNF h2)];rfl
 have eM:=zVW (h:=a0) (m:=a1) h2;have eW:zcS a0 a1 a2=zF (gOf a0 a1 a2):=by
  show zhe (ix (zch a0 a1).Guests a2 gZ)=_
  rw[eM];rfl
 rw[eM,eW];refine must rfl (brN (fun h3=>?_) (fun h3=>?_))
 .rw [zhC (zNG h3)];rfl
 have hh:=zNH h1 h2 h3;have g2:hasB a1 (ln a0.Mons)=true:=h2;have g3:hasB a2 (ln (ix a0.Mons a1 mZ).Guests)=true:=h3;have hb:=zJl hs g2;have eg:(zy a0 a1).Guests=(ix a0.Mons a1 mZ).Guests:=by
  unfold zy;rw[g2];rfl
 rw[zid hh];unfold zM8;refine must (zx g3) (must rfl (br (fun h0=>?_) (fun h0=>must (zx g3) (must rfl (must rfl (br (fun q3=>must q3 ?_) (fun q3=>br (fun q4=>?_) (fun q4=>?_))))))))
 .rw [h0];rfl
 .have e:zF (gOf a0 a1 a2)=3:=qD q3;have T:=is_1 (N:=0) hs hh;rw[T];rw[e];rfl
 .have e:zF (gOf a0 a1 a2)=4:=qD q4;have T:=is_1 (N:=0) hs hh;rw[T];rw[e];rfl
 .have fin:∀{R:Host×Bool},zfB 0 a0 a1 a2=some (zdW R)->R=(bif ieq (zF (gOf a0 a1 a2)) 0 then (a0,false) else (bif ieq (zF (gOf a0 a1 a2)) 1 then (zfv a0 a1 a2 (interrupted (gOf a0 a1 a2)),true) else (bif ieq (zF (gOf a0 a1 a2)) 2 then (zfv a0 a1 a2 (plainly (gOf a0 a1 a2)),true) else
   (cond (cond (ieq (zF (gOf a0 a1 a2)) 3) true (ieq (zF (gOf a0 a1 a2)) 4)) (zgu (zho a0 a1 a2 (gOf a0 a1 a2) (ieq (zF (gOf a0 a1 a2)) 4)) a1 a2 (gOf a0 a1 a2) (ieq (zF (gOf a0 a1 a2)) 4),true) (zjn a0 a1 a2 (gOf a0 a1 a2) (zF (gOf a0 a1 a2)),true)))))->zfB 0 a0 a1 a2=_:=fun h e=>h.trans (congrArg (fun x=>some (zdW x)) e)
  have i6:ieq (zF (gOf a0 a1 a2)) 5=false->ieq (zF (gOf a0 a1 a2)) 7=false->zfB 0 a0 a1 a2=zif 0 a0 a1 a2:=by
   intro h5 h7;unfold zfB
   conv=>zeta
   rw[eW];exact zcH h5 (zcH h7 rfl)
  rcases tf (ieq (zF (gOf a0 a1 a2)) 1) with w1|w1
  .rcases tf (ieq (zF (gOf a0 a1 a2)) 2) with w2|w2
   .rcases tf (ieq (zF (gOf a0 a1 a2)) 6) with w6|w6
    .have h57:ieq (zF (gOf a0 a1 a2)) 5=false->ieq (zF (gOf a0 a1 a2)) 6=false->ieq (zF (gOf a0 a1 a2)) 7=true:=fun h5 h6=>z1K _ h0 w1 w2 q3 q4 h5 h6;have T:=is_4 (N:=0) hs g2 g3 eW w6 h57;refine fin (R:=(zjn a0 a1 a2 (gOf a0 a1 a2) (zF (gOf a0 a1 a2)),true)) ?_ (by rw[h0,w1,w2,q3,q4];rfl)
     unfold zfB
     conv=>zeta
     rw[eW];cases w5:ieq (zF (gOf a0 a1 a2)) 5
     .exact zcH rfl (must (h57 w5 w6) T)
     .exact must rfl (must rfl T)
    .have e:zF (gOf a0 a1 a2)=6:=qD w6;refine fin (R:=(zfv a0 a1 a2 (zeV (gOf a0 a1 a2) (gOf a0 a1 a2).Ctl.Traps (zF (gOf a0 a1 a2))),true)) ?_ ?_
     .rw [i6 (by rw[e];rfl) (by rw[e];rfl)]
      refine z5y (o:=[]) hs hh h0 ?_ hb;unfold stepped zp3;rw[w1,w2,q3,q4,(tr1 (gOf a0 a1 a2) (gOf a0 a1 a2).Ctl.Traps _ w6).2]
      show (zdC (zy a0 a1) a2 _).Guests=_
      rw[zwu,eg]
     .rw [h0,w1,w2,q3,q4];unfold zjn zd5;rw[zNe (tr1 (gOf a0 a1 a2) (gOf a0 a1 a2).Ctl.Traps _ w6).2,zln,w6];rfl
   .have e:zF (gOf a0 a1 a2)=2:=qD w2;refine fin (R:=(zfv a0 a1 a2 (plainly (gOf a0 a1 a2)),true)) ?_ (by rw[h0,w1,w2];rfl)
    rw[i6 (by rw[e];rfl) (by rw[e];rfl)]
    refine z5y (o:=[]) hs hh h0 ?_ hb;unfold stepped;rw[w1,w2]
    show (zdC (zy a0 a1) a2 _).Guests=_
    rw[zwu,eg]
  .have e:zF (gOf a0 a1 a2)=1:=qD w1;refine fin (R:=(zfv a0 a1 a2 (interrupted (gOf a0 a1 a2)),true)) ?_ (by rw[h0,w1];rfl)
   rw[i6 (by rw[e];rfl) (by rw[e];rfl)]
   refine z5y (o:=[]) hs hh h0 ?_ hb;unfold stepped;rw[w1]
   show (zdC (zy a0 a1) a2 _).Guests=_
   rw[zwu,eg]
theorem zH5:u3 20 zxM:=hF3 zQQ zk zbQ zfp (zq []) zOR
def z7A:zQ:=[(20,zxM)]++z2y
theorem z5h:zI z7A:=zh zH5 zQQ
def z0g:zQ:=[(45,zr2),(187,zr6)]++z7A
theorem zHT:zI z0g:=zh zvb (zh zvf z5h)
def cnt (l:List Mon):List Nat:=l.map fun x=>x.Guests.length
theorem z9S {l l':List Mon}(h:zd8 l'=zd8 l):cnt l'=cnt l:=by
 have e:∀l:List Mon,cnt l=(zd8 l).map List.length:=fun l=>by simp[cnt,zd8]
 rw[e,e,h]
theorem zTZ {l:List Mon}{m:Int}{x:Mon}(hm:hasB m (ln l)=true)(hx:x.Guests.length=(ix l m mZ).Guests.length):cnt (up l m x)=cnt l:=by
 obtain ⟨k,rfl,hk⟩:=zdJ (n:=l.length) hm;unfold cnt up;rw[List.map_set,kV,hx,zbd hk];have:=@uQ _ (l.map fun x=>x.Guests.length) k (by simpa using hk)
 simpa using this
theorem z8q {l l':List Mon}(h:cnt l'=cnt l):l'.length=l.length:=by
 have:=congrArg List.length h;simpa [cnt] using this
theorem z9T {l l':List Mon}(h:cnt l'=cnt l)(m:Int):(ix l' m mZ).Guests.length=(ix l m mZ).Guests.length:=by
 have h2:(cnt l')[m.toNat]?=(cnt l)[m.toNat]?:=by rw[h]
 unfold cnt at h2;rw[qM,qM]at h2;unfold ix;simp only[j7];cases h3:l'[m.toNat]? <;> cases h4:l[m.toNat]? <;> rw [h3,h4]at h2<;>simp at h2 ⊢;exact h2
theorem z9h (h:Host)(m p:Int):(zdl h m p).Memory=h.Memory:=(zgb (zeG h m p) m p noSlot).2
theorem z9g (h:Host):(zcV h).Memory=h.Memory:=by
 unfold zcV;cases ieq (ln (zb1 h)) 0
 .rfl
 .exact z9h _ _ _
theorem z9f (m:List (List Int))(p:Int)(c:List Int):(zhm m p c).length=m.length:=by
 unfold zhm;cases hasB p (ln m)
 .rfl
 .cases zb6 c
  .rfl
  .simp
theorem z9d (m:List (List Int))(p c v:Int):(zbu m p c v).length=m.length:=by
 unfold zbu;cases zfz m p c
 .rfl
 .cases win v 0 99
  .rfl
  .simp
theorem z0U (h:Host)(m p:Int):(fetched h m p).Memory.length=h.Memory.length:=by
 unfold fetched zeP;rw[(zgb _ _ _ _).2];unfold landing;rw[z9f,z9g]
theorem zVV (h:Host)(m p n:Int):(zjb h m p n).Memory=h.Memory:=by
 unfold zjb;cases ieq (wand .i64 n 2) 0
 .unfold opened;cases ieq (wand .i64 (ix (ix (zbt h m p).Mons m mZ).Outer p sZ).Rights 2) 0
  .rfl
  .exact (zgb _ _ _ _).2
 .rfl
theorem z3t (h:Host)(m p n:Int):(mended h m p n).Memory.length=h.Memory.length:=by
 unfold mended;cases ieq (ix (ix h.Mons m mZ).Outer p sZ).Page (-1)
 .exact congrArg List.length (zVV _ _ _ _)
 .exact (congrArg List.length (zVV _ _ _ _)).trans (z0U _ _ _)
theorem z3u (h:Host)(m g p:Int)(io:Bool):(zvk h m g p io).Memory=h.Memory:=by cases io<;>rfl
theorem z5J (h:Host)(b:List Entry)(m g page need q:Int)(io:Bool):(zfT h b m g page need q io).1.Memory.length=h.Memory.length:=by
 unfold zfT;cases zhs b m g page need
 .cases zeb h m g page need
  .exact congrArg List.length (z3u _ _ _ _ _)
  .exact (congrArg List.length (z3u _ _ _ _ _)).trans (z3t h m q need)
 .rfl
theorem z9e (h:Host)(b:List Entry)(m g page need:Int)(io:Bool):(lookOf h b m g page need io).1.Memory.length=h.Memory.length:=by
 unfold lookOf;cases zbM h m g page need
 .rfl
 .simp only [cT];rw[z5J];cases ieq need 2<;>rfl
structure Keep (h r:Host):Prop where
 shape:Shape r
 cnt:cnt r.Mons=cnt h.Mons
 mem:r.Memory.length=h.Memory.length
theorem Keep.has {h r:Host}(k:Keep h r){m:Int}(hm:hasB m (ln h.Mons)=true):hasB m (ln r.Mons)=true:=by
 rw[ln,z8q k.cnt];exact hm
theorem Keep.hg {h r:Host}(k:Keep h r){m g:Int}(hg:hasB g (ln (ix h.Mons m mZ).Guests)=true):hasB g (ln (ix r.Mons m mZ).Guests)=true:=by
 rw[ln,z9T k.cnt];exact hg
theorem Keep.trans {a b c:Host}(h:Keep a b)(k:Keep b c):Keep a c:=⟨k.shape,k.cnt.trans h.cnt,k.mem.trans h.mem⟩
theorem Keep.rfl' {h:Host}(hs:Shape h):Keep h h:=⟨hs,rfl,rfl⟩
theorem znv {h:Host}{m g:Int}{x:Guest}(hs:Shape h)(hm:hasB m (ln h.Mons)=true)(hx:SmG x):Keep h (zfv h m g x):=⟨z1y hs hm hx,zTZ hm (by simp),rfl⟩
theorem zCT {h:Host}{b:List Entry}{m g page need:Int}{io:Bool}(hs:SmH h)(hh:zbF h m g=true):Keep h (lookOf h b m g page need io).1:=by
 have k:=ztf (b:=b) (page:=page) (need:=need) (io:=io) hs hh;exact ⟨k.shape,z9S k.gs,z9e _ _ _ _ _ _ _⟩
theorem z3c {h:Host}{p c v:Int}(hs:Shape h):Keep h { h with Memory:=zbu h.Memory p c v }:=⟨zRt hs (zzR hs.1.1),rfl,z9d _ _ _ _⟩
theorem z0J {h:Host}{m:Int}(hs:Shape h)(hm:hasB m (ln h.Mons)=true):Keep h (owned h m):=by
 obtain ⟨g1,g2⟩:=zcc hs hm;unfold owned;cases ilt (ix h.Mons m mZ).Own 1000000000
 .exact Keep.rfl' hs
 .exact ⟨zic hs g1 g2,zTZ hm rfl,rfl⟩
theorem z0I {h:Host}{m n:Int}(hs:Shape h)(hm:hasB m (ln h.Mons)=true):Keep h (zhi h m n):=by
 obtain ⟨g1,g2⟩:=zcc hs hm;unfold zhi;cases h3:ilt (ln (ix h.Mons m mZ).Outs) 40
 .exact Keep.rfl' hs
 .have h4:=qD h3;simp only[ln]at h4;refine ⟨zic hs ⟨g1.1,g1.2.1,g1.2.2.1,g1.2.2.2.1,?_,g1.2.2.2.2.2⟩ g2,zTZ hm rfl,rfl⟩;simp[ap];omega
theorem z3e {h:Host}{m g:Int}{x:Guest}{w:Int}(hs:Shape h)(hm:hasB m (ln h.Mons)=true)(hx:SmG x):Keep h (zjn h m g x w):=by
 have k1:Keep h (zd5 h m x w):=by
  unfold zd5;cases (cond (ine w 6) (ieq (zjd (ix h.Mons m mZ).Traps x.Ctl.Traps (zeT w)) 2) false)
  .exact Keep.rfl' hs
  .exact z0J hs hm
 have k2:Keep (zd5 h m x w) (zf1 (zd5 h m x w) m x w):=by
  unfold zf1;cases (cond (zgo x.Ctl.Traps w) (ieq w 5) false)
  .exact Keep.rfl' k1.shape
  .exact z0I k1.shape (k1.has hm)
 have k3:=k1.trans k2;exact k3.trans (znv k3.shape (k3.has hm) (zEf _ _ hx))
theorem z3d {h:Host}{m g:Int}(hs:SmH h)(hh:zbF h m g=true):Keep h (zbh h m g).1:=by
 obtain ⟨g1,g2,g3⟩:=zcI hh;have hx:=zjG hs g2 g3;have hS:=(ze6 hs g1).1;rw[zid hh];unfold zM8;cases ieq (zF (gOf h m g)) 0
 .cases ieq (zF (gOf h m g)) 1
  .cases ieq (zF (gOf h m g)) 2
   .cases (cond (ieq (zF (gOf h m g)) 3) true (ieq (zF (gOf h m g)) 4))
    .exact z3e hS g2 hx
    .have k:=zCT (b:=h.Buffer) (page:=zX (address (gOf h m g))) (need:=zbO (ieq (zF (gOf h m g)) 4)) (io:=false) hs hh
     show Keep h (zgu (zho h m g (gOf h m g) (ieq (zF (gOf h m g)) 4)) m g (gOf h m g) (ieq (zF (gOf h m g)) 4))
     unfold zgu;cases (zho h m g (gOf h m g) (ieq (zF (gOf h m g)) 4)).2.2
     .exact k.trans (znv k.shape (k.has g2) hx)
     .cases ieq (zF (gOf h m g)) 4
      .have k:=zCT (b:=h.Buffer) (page:=zX (address (gOf h m g))) (need:=zbO false) (io:=false) hs hh;exact k.trans (znv k.shape (k.has g2) (zM2 _ hx))
      .have k:=zCT (b:=h.Buffer) (page:=zX (address (gOf h m g))) (need:=zbO true) (io:=false) hs hh;have k2:=z3c (p:=(zho h m g (gOf h m g) true).2.1) (c:=zcG (address (gOf h m g))) (v:=(gOf h m g).A) k.shape;have k3:=k.trans k2;exact k3.trans (znv k3.shape (k3.has g2) (zkY hx))
   .exact znv hS g2 (zHq hx)
  .exact znv hS g2 (zZy hx)
 .exact Keep.rfl' hS
structure Same (h r:Host):Prop where
 sm:SmH r
 cnt:cnt r.Mons=cnt h.Mons
 mem:r.Memory.length=h.Memory.length
 st:r=h\/Shape r
theorem Same.rfl' {h:Host}(hs:SmH h):Same h h:=⟨hs,rfl,rfl,.inl rfl⟩
theorem Same.trans {a b c:Host}(h:Same a b)(k:Same b c):Same a c:=⟨k.sm,k.cnt.trans h.cnt,k.mem.trans h.mem,by
 rcases k.st with e|e
 .rw [e];exact h.st
 .exact .inr e⟩
theorem zRs {h:Host}(m g:Int)(hs:SmH h):Same h (zbh h m g).1:=by
 cases hh:zbF h m g
 .rw [zhC hh];exact Same.rfl' hs
 .have k:=z3d hs hh;exact ⟨k.shape.1,k.cnt,k.mem,.inr k.shape⟩
def tick (t:Int×Host)(m g:Int):Int×Host:=(cond ((zbh t.2 m g).2) (zG .i64 t.1 1) t.1,(zbh t.2 m g).1)
def zyu (m:Int):Nat->Nat->Int×Host->Int×Host
 | 0,_,t=>t
 | n+1,g,t=>zyu m n (g+1) (tick t m (g:Int))
def zCs:List Nat->Nat->Int×Host->Int×Host
 | [],_,t=>t
 | c :: l,m,t=>zCs l (m+1) (zyu (m:Int) c 0 t)
def zdR (h:Host):Int×Host:=zCs (cnt h.Mons) 0 (0,h)
theorem zEc {t:Int×Host}(m g:Int)(hs:SmH t.2):Same t.2 (tick t m g).2:=zRs m g hs
theorem zzM (m:Int):∀(n g:Nat) (t:Int×Host),SmH t.2->Same t.2 (zyu m n g t).2
 | 0,_,_,hs=>Same.rfl' hs
 | n+1,g,t,hs=>(zEc m (g:Int) hs).trans (zzM m n (g+1) _ (zEc m (g:Int) hs).sm)
theorem zRr:∀(l:List Nat) (m:Nat) (t:Int×Host),SmH t.2->Same t.2 (zCs l m t).2
 | [],_,_,hs=>Same.rfl' hs
 | c :: l,m,t,hs=>(zzM (m:Int) c 0 t hs).trans (zRr l (m+1) _ (zzM (m:Int) c 0 t hs).sm)
theorem zzL {h:Host}(hs:SmH h):Same h (zdR h).2:=zRr _ 0 (0,h) hs
def zWp (t:Int×Host):OA:=some [AV.agg (zba t.2),AV.one (.i .i64 t.1)]
@[simp] abbrev zrQ (h:Host):Bool:=pc (zcd h)
@[simp] abbrev zht (h:Host):Host:=(zdR h).2
@[simp] abbrev zrP (h:Host):Int:=(zdR h).1
def zvm:Run:=rF1 dH fun b=>(zrQ b,[aH (zht b),aI (zrP b)])
def zzZ (N:Nat)(a0:Host):OA:=
 (oN (ziu a0) (iter (σ:=(Int×(Int×(Int×(lM×(lN×(lE×(lE×(lM×(lN×(lE×(lE×(lM×(lN×(lE×(lE×Unit)))))))))))))))) N (fun r2 s3=>let y17:=s3.2.2.2.2.2.2.2.2.2.2.2.2.1;let y16:=s3.2.2.2.2.2.2.2.2.2.2.2.2.2.1;let y14:=s3.2.2.2.2.2.2.2.2.2.2.2.2.2.2.1; (cond (ilt s3.2.2.1 s3.2.1) (oN (inb s3.2.2.1 (ln s3.2.2.2.2.1)) (iter (σ:=(Int×(Int×(Int×(Int×(Int×(Int×(lM×(lN×(lE×(lE×(lM×(lN×(lE×(lE×(lM×(lN×(lE×(lE×Unit))))))))))))))))))) N (fun r4 s5=>let y15:=s5.2.2.2.2.2.2.1;let y13:=s5.2.2.2.2.2.2.2.2.2.2.2.2.2.2.1;let y12:=s5.2.2.2.2.2.2.2.1;let y11:=s5.2.2.2.2.2.2.2.2.2.2.2.2.2.2.2.1;let y10:=s5.2.2.2.2.2.2.2.2.2.2.2.2.2.2.2.2.1;let y9:=s5.2.2.2.2.2.2.2.2.1;let y8:=s5.2.2.2.2.2.2.2.2.2.2.2.2.2.2.2.2.2.1;let y7:=s5.2.2.2.2.2.2.2.2.2.1;let y6:=s5.2.2.2.2.2.2.2.2.2.2.1;let y5:=s5.2.2.2.2.2.2.2.2.2.2.2.1;let y4:=s5.2.2.2.2.2.2.2.2.2.2.2.2.1;let y3:=s5.2.2.2.2.2.2.2.2.2.2.2.2.2.1;let y2:=s5.2.2.2.2.2.1;let y0:=(⟨y13,y11,y10,y8⟩:Host);let y1:=(ztR y0 s5.2.1 y2); (cond (ilt y2 s5.2.2.2.2.1) (oN (ztT y0 s5.2.1 y2) (cond (ztS y0 s5.2.1 y2) (r4 ((zG .i64 s5.1 1),(s5.2.1,(s5.2.2.1,(s5.2.2.2.1,(s5.2.2.2.2.1,((zG .i64 y2 1),(y15,(y12,(y9,(y7,(y6,(y5,(y4,(y3,(y1.Memory,(y1.Mons,(y1.Buffer,(y1.IoBuffer,()))))))))))))))))))) (r4 (s5.1,(s5.2.1,(s5.2.2.1,(s5.2.2.2.1,(s5.2.2.2.2.1,((zG .i64 y2 1),(y15,(y12,(y9,(y7,(y6,(y5,(y4,(y3,(y1.Memory,(y1.Mons,(y1.Buffer,(y1.IoBuffer,()))))))))))))))))))))) (r2 (s5.1,(s5.2.2.1,((zG .i64 s5.2.2.2.1 1),(y15,(y12,(y9,(y7,(y6,(y5,(y4,(y3,(y13,(y11,(y10,(y8,())))))))))))))))))) (s3.1,(s3.2.2.1,(s3.2.1,(s3.2.2.1,((ln (ix s3.2.2.2.2.1 s3.2.2.1 zf).Guests),(0,(s3.2.2.2.1,(s3.2.2.2.2.1,(s3.2.2.2.2.2.1,(s3.2.2.2.2.2.2.1,(s3.2.2.2.2.2.2.2.1,(s3.2.2.2.2.2.2.2.2.1,(s3.2.2.2.2.2.2.2.2.2.1,(s3.2.2.2.2.2.2.2.2.2.2.1,(s3.2.2.2.2.2.2.2.2.2.2.2.1,(y17,(y16,(y14,())))))))))))))))))))) (some [(aH (⟨s3.2.2.2.2.2.2.2.2.2.2.2.1,y17,y16,y14⟩:Host)),(aI s3.1)]))) (0,((ln a0.Mons),(0,(a0.Memory,(a0.Mons,(a0.Buffer,(a0.IoBuffer,([],([],([],([],((zbs a0).Memory,((zbs a0).Mons,((zbs a0).Buffer,((zbs a0).IoBuffer,())))))))))))))))))
def zNf:FuncId->Nat->Option Tmpl:=zq [(46,0,{ n:=43,tm:=[(1,.lp 0 0),(2,.lp 1 0),(4,.lp 2 0),(5,ti),(14,ti),(15,ti)],lo:=[(0,[.sl 0 [],.sl 1 [],.sl 2 [],.sl 3 []]),(1,[.sl 4 [],.sl 5 [],.sl 6 [],.sl 7 []]),(2,[.sl 8 [],.sl 9 [],.sl 10 [],.sl 11 []])],ro:=[(0,(.sl .int),false),(1,.mon,false),(2,.entry,false),(3,.entry,false),(4,(.sl .int),true),(5,.mon,true),(6,.entry,true),(7,.entry,true),(8,(.sl .int),true),(9,.mon,true),(10,.entry,true),(11,.entry,true)] }),(46,2,{ n:=43,tm:=[(1,.lp 0 0),(2,.lp 1 0),(4,.lp 2 0),(5,ti),(6,ti),(14,ti),(15,ti),(24,ti),(25,ti)],lo:=[(0,[.sl 0 [],.sl 1 [],.sl 2 [],.sl 3 []]),(1,[.sl 4 [],.sl 5 [],.sl 6 [],.sl 7 []]),(2,[.sl 8 [],.sl 9 [],.sl 10 [],.sl 11 []])],ro:=[(0,(.sl .int),false),(1,.mon,false),(2,.entry,false),(3,.entry,false),(4,(.sl .int),true),(5,.mon,true),(6,.entry,true),(7,.entry,true),(8,(.sl .int),true),(9,.mon,true),(10,.entry,true),(11,.entry,true)] })]
theorem z4H {l:List Mon}{i:Nat}(hi:i<l.length):(cnt l).drop i=(ix l (i:Int) mZ).Guests.length :: (cnt l).drop (i+1):=by
 have hi':i<(cnt l).length:=by simpa [cnt] using hi
 rw[kH hi',zbd hi];simp[cnt]
theorem cnt_end (l:List Mon):(cnt l).drop l.length=[]:=List.drop_eq_nil_of_le (by simp[cnt])
theorem zL1 (a0:Host)(hc:zrQ a0=true):∃N,zzZ N a0=some [aH (zht a0),aI (zrP a0)]:=by
 have hs:=(zJ a0).1 (zD.1 hc);have hl:=zcK hs.2.1.1;refine zb8 fun N hNN=>?_;unfold zzZ oN
 conv=>zeta
 refine must (zbb ((zJ _).2 hs)) ?_
 show _=zWp (zdR a0)
 refine (zpw a0.Mons.length (fun i (t:Int×Host)=>(t.1,(ln a0.Mons,((i:Int),(a0.Memory,(a0.Mons,(a0.Buffer,(a0.IoBuffer,([],([],([],([],(t.2.Memory,(t.2.Mons,(t.2.Buffer,(t.2.IoBuffer,())))))))))))))))) _
  (fun _ t=>SmH t.2) (fun i t=>zWp (zCs ((cnt a0.Mons).drop i) i t)) (fun i t rec hi hI hr=>?_) (fun t rec hI=>?_) N 0 (0,a0) hs (jQ _) (hNN hl.1)).trans rfl
 .have hg:(ix a0.Mons (i:Int) mZ).Guests.length<=big:=by rw[zbd hi];exact (zcK (hs.2.1.2 _ (jF hi)).2.2.2.1.1).1
  refine must (zbo hi) (must (zY hi) ?_);rw[z4H hi];refine (zpw (ix a0.Mons (i:Int) mZ).Guests.length (fun j (t:Int×Host)=>(t.1,((i:Int),(ln a0.Mons,((i:Int),(ln (ix a0.Mons (i:Int) mZ).Guests,((j:Int),(a0.Memory,(a0.Mons,(a0.Buffer,(a0.IoBuffer,([],([],([],([],(t.2.Memory,(t.2.Mons,(t.2.Buffer,(t.2.IoBuffer,()))))))))))))))))))) _
   (fun _ t=>SmH t.2) (fun j t=>zWp (zCs ((cnt a0.Mons).drop (i+1)) (i+1) (zyu (i:Int) ((ix a0.Mons (i:Int) mZ).Guests.length-j) j t))) (fun j t rec1 hj hJ hr1=>?_) (fun t rec1 hJ=>?_) N 0 t hI (jQ _) (hNN hg)).trans rfl
  .have e:(ix a0.Mons (i:Int) mZ).Guests.length-j=((ix a0.Mons (i:Int) mZ).Guests.length-(j+1))+1:=by omega
   have q:=hr1 (tick t (i:Int) (j:Int)) (zEc (i:Int) (j:Int) hJ).sm;refine must (zbo hj) (must (zbb ((zJ _).2 hJ)) ?_);rw[e];simp only[zyu,zW hj hg];rw[<- q];unfold tick;refine br (fun h=>?_) (fun h=>?_)
   .rw [show (zbh t.2 (i:Int) (j:Int)).2=true from h]
    rfl
   .rw [show (zbh t.2 (i:Int) (j:Int)).2=false from h]
    rfl
  .refine zcH zbf ?_;simp only[kN,zyu,zW hi hl.1];exact hr t hJ
 .refine zcH zbf ?_;rw[cnt_end];rfl
theorem zEX:u3 46 zvm:=kF1 zHT zk zbQ zfp zNf zL1
def z94:zQ:=[(46,zvm)]++z0g
theorem z2x:zI z94:=zh zEX zHT
def zcq:Nat->Int×Host->Int×Host
 | 0,t=>t
 | n+1,t=>zcq n (zG .i64 t.1 (zdR t.2).1,(zdR t.2).2)
theorem zJh:∀(n:Nat) (t:Int×Host),SmH t.2->Same t.2 (zcq n t).2
 | 0,_,hs=>Same.rfl' hs
 | n+1,t,hs=>(zzL hs).trans (zJh n (zG .i64 t.1 (zdR t.2).1,(zdR t.2).2) (zzL hs).sm)
@[simp] abbrev zl7 (h:Host)(_:Int):Bool:=pc (zcd h)
@[simp] abbrev zc3 (h:Host)(r:Int):Host:=(zcq (brought r 0 40).toNat (0,h)).2
@[simp] abbrev zfQ (h:Host)(r:Int):Int:=(zcq (brought r 0 40).toNat (0,h)).1
def zAr:Run:=rF2 dH dI fun b c=>(zl7 b c,[aH (zc3 b c),aI (zfQ b c)])
def zFU (N:Nat)(a0:Host)(a1:Int):OA:=
 (oN (ziu a0) (iter (σ:=(Int×(Int×(Int×(lM×(lN×(lE×(lE×(lM×(lN×(lE×(lE×Unit)))))))))))) N (fun r3 s4=>let y0:=(⟨s4.2.2.2.2.2.2.2.1,s4.2.2.2.2.2.2.2.2.1,s4.2.2.2.2.2.2.2.2.2.1,s4.2.2.2.2.2.2.2.2.2.2.1⟩:Host); (oN (zwv s4.1 0 40) (cond (ilt s4.2.2.1 (zrg s4.1 0 40)) (oN (zrQ y0) (r3 (s4.1,((zG .i64 s4.2.1 (zrP y0)),((zG .i64 s4.2.2.1 1),(s4.2.2.2.1,(s4.2.2.2.2.1,(s4.2.2.2.2.2.1,(s4.2.2.2.2.2.2.1,((zht y0).Memory,((zht y0).Mons,((zht y0).Buffer,((zht y0).IoBuffer,()))))))))))))) (some [(aH y0),(aI s4.2.1)])))) (a1,(0,(0,([],([],([],([],((zbs a0).Memory,((zbs a0).Mons,((zbs a0).Buffer,((zbs a0).IoBuffer,())))))))))))))
def zS8:FuncId->Nat->Option Tmpl:=zq [(14,0,{ n:=30,tm:=[(1,ti),(4,.lp 0 0),(6,.lp 1 0),(7,ti),(8,ti)],lo:=[(0,[.sl 0 [],.sl 1 [],.sl 2 [],.sl 3 []]),(1,[.sl 4 [],.sl 5 [],.sl 6 [],.sl 7 []])],ro:=[(0,(.sl .int),true),(1,.mon,true),(2,.entry,true),(3,.entry,true),(4,(.sl .int),true),(5,.mon,true),(6,.entry,true),(7,.entry,true)] })]
theorem zSa (a0:Host)(a1:Int)(hb:zbD big [aH a0,aI a1])(hc:zl7 a0 a1=true):∃N,zFU N a0 a1=some [aH (zc3 a0 a1),aI (zfQ a0 a1)]:=by
 have hs:=(zJ a0).1 (zD.1 hc);have hb:=z1X a1;refine zb8 fun N hNN=>?_;unfold zFU oN
 conv=>zeta
 refine must (zbb ((zJ _).2 hs)) ?_
 show _=zWp (zcq (brought a1 0 40).toNat (0,a0))
 refine zpw (brought a1 0 40).toNat (fun i (t:Int×Host)=>(a1,(t.1,((i:Int),([],([],([],([],(t.2.Memory,(t.2.Mons,(t.2.Buffer,(t.2.IoBuffer,())))))))))))) _ (fun _ t=>SmH t.2) (fun i t=>zWp (zcq ((brought a1 0 40).toNat-i) t)) (fun i t rec hi hI hr=>?_) (fun t rec hI=>?_) N 0 (0,a0) hs (jQ _) (hNN (by rw[znm];omega))
 .refine must rfl (must (qJ (by show (i:Int)<brought a1 0 40;omega)) (must (zbb ((zJ _).2 hI)) ?_))
  have e:(brought a1 0 40).toNat-i=((brought a1 0 40).toNat-(i+1))+1:=by omega
  simp only[zW hi (by rw[znm];omega)]
  rw[e];exact hr (zG .i64 t.1 (zdR t.2).1,(zdR t.2).2) (zzL hI).sm
 .refine must rfl (zcH (qH (by show ¬ (((brought a1 0 40).toNat:Nat):Int)<brought a1 0 40;omega)) ?_)
  simp only[kN,zcq];rfl
theorem zK5:u3 14 zAr:=hF2 z2x zk zbQ zfp zS8 zSa
theorem wrap_eq (x:Int):IntKind.wrap .i64 x=(x+9223372036854775808) % 18446744073709551616-9223372036854775808:=by
 unfold IntKind.wrap;simp[IntKind.bits,IntKind.signed];split<;>omega
theorem zXh (x k:Int):zG .i64 (zG .i64 x k) 0=zG .i64 x k:=by
 simp only[zG,wrap_eq];omega
theorem z9G (x k f:Int):zG .i64 (zG .i64 x k) f=zG .i64 x (zG .i64 (zG .i64 0 k) f):=by
 simp only[zG,wrap_eq];omega
theorem zGH:∀(a b:Nat) (t:Int×Host),zcq (a+b) t=zcq b (zcq a t)
 | 0,b,t=>by rw[jV];rfl
 | a+1,b,t=>by rw[show a+1+b=(a+b)+1 by omega];exact zGH a b _
theorem ztB:∀(n:Nat) (x:Int) (h:Host),zG .i64 x 0=x->zcq n (x,h)=(zG .i64 x (zcq n (0,h)).1,(zcq n (0,h)).2)
 | 0,x,h,hx=>by show (x,h)=(zG .i64 x 0,h);rw[hx]
 | n+1,x,h,hx=>by
  show zcq n (zG .i64 x (zdR h).1,(zdR h).2)=(zG .i64 x (zcq n (zG .i64 0 (zdR h).1,(zdR h).2)).1,(zcq n (zG .i64 0 (zdR h).1,(zdR h).2)).2)
  rw[ztB n _ _ (zXh x _),ztB n (zG .i64 0 _) _ (zXh 0 _),z9G]
theorem zKN:∀(n:Nat) (t:Int×Host),zG .i64 t.1 0=t.1->zG .i64 (zcq n t).1 0=(zcq n t).1
 | 0,t,ht=>ht
 | n+1,t,ht=>zKN n _ (zXh _ _)
theorem rounds (a b:Nat)(h:Host):(zcq (a+b) (0,h)).2=(zcq b (0,(zcq a (0,h)).2)).2/\zG .i64 (zcq a (0,h)).1 (zcq b (0,(zcq a (0,h)).2)).1=(zcq (a+b) (0,h)).1:=by
 have e:=ztB b (zcq a (0,h)).1 (zcq a (0,h)).2 (zKN a (0,h) (show zG .i64 0 0=0 by decide))
 rw[zGH a b (0,h),show zcq a (0,h)=((zcq a (0,h)).1,(zcq a (0,h)).2) from rfl,e]
 exact ⟨rfl,rfl⟩
theorem z9s {n:Nat}{h:Host}(hs:SmH h):(zcq n (0,h)).2.Mons.length=h.Mons.length:=by
 have:=congrArg List.length (zJh n (0,h) hs).cnt;unfold cnt at this;simpa using this
theorem zyE {r:Int}(h0:0<=r)(h1:r<=40):brought r 0 40=r:=by
 unfold brought;have a:ilt r 0=false:=qH (by omega)
 have b:ilt 40 0=false:=rfl;rw[a,b,cF,cF];unfold zzi
 first|omega|(split<;>omega)
def zga (x y:List Int):Bool:=pc (x=y)
def zgD (_ _:List Int):Bool:=true
def zxZ:Run:=rF2 (dS .int) (dS .int) fun b c=>(zga b c,[aB (zgD b c)])
def zBM (N:Nat)(a0 a1:List Int):OA:=
 (cond (ine (ln a0) (ln a1)) oF (iter (σ:=(Int×((List Int)×((List Int)×Unit)))) N (fun r3 s4=>(cond (ilt s4.1 (ln s4.2.1)) (oN (inb s4.1 (ln s4.2.1)) (oN (inb s4.1 (ln s4.2.2.1)) (cond (ine (ix s4.2.1 s4.1 0) (ix s4.2.2.1 s4.1 0)) oF (r3 ((zG .i64 s4.1 1),(s4.2.1,(s4.2.2.1,()))))))) oT)) (0,(a0,(a1,())))))
def zPU:FuncId->Nat->Option Tmpl:=zq [(123,0,{ n:=26,tm:=[(0,.sl 0 []),(1,.sl 1 []),(5,ti)],lo:=[],ro:=[(0,.int,false),(1,.int,false)] })]
theorem zO4 (a0 a1:List Int)(hb:zbD big [aS .int a0,aS .int a1])(hc:zga a0 a1=true):∃N,zBM N a0 a1=some [aB (zgD a0 a1)]:=by
 have:=zD.1 hc;subst this;have hl:=(len0 hb);refine ⟨a0.length+1,?_⟩;unfold zBM oN;rw[zc6];refine zle a0 zbba _ _ hl (fun i hi rec=>?_) (fun rec=>?_) (jW _)
 .simp only [zbo hi,zY hi,zbd hi,zpA,zc6,zdU,zeO,cT,cF,jT,jU]
 .simp only [zbf,cF,zgD]
theorem zIi:u3 123 zxZ:=hF2 zeg zbg zl zo zPU zO4
def zhx (x y:List Bool):Bool:=pc (x=y)
def zh4 (_ _:List Bool):Bool:=true
def zvw:Run:=rF2 (dS .bool) (dS .bool) fun b c=>(zhx b c,[aB (zh4 b c)])
def zz8 (N:Nat)(a0 a1:lB):OA:=
 (cond (ine (ln a0) (ln a1)) oF (iter (σ:=(Int×(lB×(lB×Unit)))) N (fun r3 s4=>(cond (ilt s4.1 (ln s4.2.1)) (oN (inb s4.1 (ln s4.2.1)) (oN (inb s4.1 (ln s4.2.2.1)) (cond (nB (zkh (ix s4.2.1 s4.1 false) (ix s4.2.2.1 s4.1 false))) oF (r3 ((zG .i64 s4.1 1),(s4.2.1,(s4.2.2.1,()))))))) oT)) (0,(a0,(a1,())))))
def zNj:FuncId->Nat->Option Tmpl:=zq [(227,0,{ n:=26,tm:=[(0,.sl 0 []),(1,.sl 1 []),(5,ti)],lo:=[],ro:=[(0,.bool,false),(1,.bool,false)] })]
theorem zMb (a0 a1:List Bool)(hb:zbD big [aS .bool a0,aS .bool a1])(hc:zhx a0 a1=true):∃N,zz8 N a0 a1=some [aB (zh4 a0 a1)]:=by
 have:=zD.1 hc;subst this;have hl:=(len0 hb);refine ⟨a0.length+1,?_⟩;unfold zz8 oN nB;rw[zc6];refine zle a0 zbaG _ _ hl (fun i hi rec=>?_) (fun rec=>?_) (jW _)
 .simp only [zbo hi,zY hi,zbd hi,zpA,zc6,zdU,zeO,cT,cF,jT,jU]
 .simp only [zbf,cF,zh4]
theorem zE7:u3 227 zvw:=hF2 zeg zbg zl zo zNj zMb
def zeF (x y:List Slot):Bool:=pc (x=y)
def zeY (_ _:List Slot):Bool:=true
def zvA:Run:=rF2 (dS .slot) (dS .slot) fun b c=>(zeF b c,[aB (zeY b c)])
def zAc (N:Nat)(a0 a1:lS):OA:=
 (cond (ine (ln a0) (ln a1)) oF (iter (σ:=(Int×(lS×(lS×Unit)))) N (fun r3 s4=>let y1:=(ix s4.2.1 s4.1 zN);let y0:=(ix s4.2.2.1 s4.1 zN); (cond (ilt s4.1 (ln s4.2.1)) (oN (inb s4.1 (ln s4.2.1)) (oN (inb s4.1 (ln s4.2.2.1)) (cond (nB (cond (ieq y1.Page y0.Page) (ieq y1.Rights y0.Rights) false)) oF (r3 ((zG .i64 s4.1 1),(s4.2.1,(s4.2.2.1,()))))))) oT)) (0,(a0,(a1,())))))
def zNm:FuncId->Nat->Option Tmpl:=zq [(226,0,{ n:=26,tm:=[(0,.sl 0 []),(1,.sl 1 []),(5,ti)],lo:=[],ro:=[(0,.slot,false),(1,.slot,false)] })]
theorem zMf (a0 a1:List Slot)(hb:zbD big [aS .slot a0,aS .slot a1])(hc:zeF a0 a1=true):∃N,zAc N a0 a1=some [aB (zeY a0 a1)]:=by
 have:=zD.1 hc;subst this;have hl:=(len0 hb);refine ⟨a0.length+1,?_⟩;unfold zAc oN nB
 conv=>zeta
 rw[zc6];refine zle a0 zN _ _ hl (fun i hi rec=>?_) (fun rec=>?_) (jW _)
 .simp only [zbo hi,zY hi,zbd hi,zpA,zc6,zdU,zeO,cT,cF,jT,jU]
 .simp only [zbf,cF,zeY]
theorem zFb:u3 226 zvA:=hF2 zeg zbg zl zo zNm zMf
def zix (x y:List Entry):Bool:=pc (x=y)
def ziw (_ _:List Entry):Bool:=true
def zt9:Run:=rF2 (dS .entry) (dS .entry) fun b c=>(zix b c,[aB (ziw b c)])
def zw9 (N:Nat)(a0 a1:lE):OA:=
 (cond (ine (ln a0) (ln a1)) oF (iter (σ:=(Int×(lE×(lE×Unit)))) N (fun r3 s4=>let y1:=(ix s4.2.1 s4.1 zeo);let y0:=(ix s4.2.2.1 s4.1 zeo); (cond (ilt s4.1 (ln s4.2.1)) (oN (inb s4.1 (ln s4.2.1)) (oN (inb s4.1 (ln s4.2.2.1)) (cond (nB (cond (ieq y1.Tag y0.Tag) (cond (ieq y1.Page y0.Page) (cond (ieq y1.Host y0.Host) (ieq y1.Rights y0.Rights) false) false) false)) oF (r3 ((zG .i64 s4.1 1),(s4.2.1,(s4.2.2.1,()))))))) oT)) (0,(a0,(a1,())))))
def zJr:FuncId->Nat->Option Tmpl:=zq [(43,0,{ n:=26,tm:=[(0,.sl 0 []),(1,.sl 1 []),(5,ti)],lo:=[],ro:=[(0,.entry,false),(1,.entry,false)] })]
theorem zIR (a0 a1:List Entry)(hb:zbD big [aS .entry a0,aS .entry a1])(hc:zix a0 a1=true):∃N,zw9 N a0 a1=some [aB (ziw a0 a1)]:=by
 have:=zD.1 hc;subst this;have hl:=(len0 hb);refine ⟨a0.length+1,?_⟩;unfold zw9 oN nB
 conv=>zeta
 rw[zc6];refine zle a0 zeo _ _ hl (fun i hi rec=>?_) (fun rec=>?_) (jW _)
 .simp only [zbo hi,zY hi,zbd hi,zpA,zc6,zdU,zeO,cT,cF,jT,jU]
 .simp only [zbf,cF,ziw]
theorem zCC:u3 43 zt9:=hF2 zeg zbg zl zo zJr zIR
def zoj (x y:List Ins):Bool:=pc (x=y)
def zoi (_ _:List Ins):Bool:=true
def zxY:Run:=rF2 (dS .ins) (dS .ins) fun b c=>(zoj b c,[aB (zoi b c)])
def zBL (N:Nat)(a0 a1:lI):OA:=
 (cond (ine (ln a0) (ln a1)) oF (iter (σ:=(Int×(lI×(lI×Unit)))) N (fun r3 s4=>let y1:=(ix s4.2.1 s4.1 zq0);let y0:=(ix s4.2.2.1 s4.1 zq0); (cond (ilt s4.1 (ln s4.2.1)) (oN (inb s4.1 (ln s4.2.1)) (oN (inb s4.1 (ln s4.2.2.1)) (cond (nB (cond (ieq y1.Op y0.Op) (ieq y1.X y0.X) false)) oF (r3 ((zG .i64 s4.1 1),(s4.2.1,(s4.2.2.1,()))))))) oT)) (0,(a0,(a1,())))))
def zPT:FuncId->Nat->Option Tmpl:=zq [(318,0,{ n:=26,tm:=[(0,.sl 0 []),(1,.sl 1 []),(5,ti)],lo:=[],ro:=[(0,.ins,false),(1,.ins,false)] })]
theorem zO3 (a0 a1:List Ins)(hb:zbD big [aS .ins a0,aS .ins a1])(hc:zoj a0 a1=true):∃N,zBL N a0 a1=some [aB (zoi a0 a1)]:=by
 have:=zD.1 hc;subst this;have hl:=(len0 hb);refine ⟨a0.length+1,?_⟩;unfold zBL oN nB
 conv=>zeta
 rw[zc6];refine zle a0 zq0 _ _ hl (fun i hi rec=>?_) (fun rec=>?_) (jW _)
 .simp only [zbo hi,zY hi,zbd hi,zpA,zc6,zdU,zeO,cT,cF,jT,jU]
 .simp only [zbf,cF,zoi]
theorem zIh:u3 318 zxY:=hF2 zeg zbg zl zo zPT zO3
def z2z:zQ:=[(123,zxZ),(227,zvw),(226,zvA),(43,zt9),(318,zxY)]++znX
theorem zu3:zI z2z:=zh zIi (zh zE7 (zh zFb (zh zCC (zh zIh zeg))))
def zhy (x y:List (List Int)):Bool:=pc (x=y)
def zh5 (_ _:List (List Int)):Bool:=true
def zvz:Run:=rF2 (dS (.sl .int)) (dS (.sl .int)) fun b c=>(zhy b c,[aB (zh5 b c)])
def zAb (N:Nat)(a0:lM)(a1:lM):OA:=
 (cond (ine (ln a0) (ln a1)) oF (iter (σ:=(Int×(lM×(lM×Unit)))) N (fun r3 s4=>(cond (ilt s4.1 (ln s4.2.1)) (oN (inb s4.1 (ln s4.2.1)) (oN (inb s4.1 (ln s4.2.2.1)) (oN (zga (ix s4.2.1 s4.1 []) (ix s4.2.2.1 s4.1 [])) (cond (nB (zgD (ix s4.2.1 s4.1 []) (ix s4.2.2.1 s4.1 []))) oF (r3 ((zG .i64 s4.1 1),(s4.2.1,(s4.2.2.1,())))))))) oT)) (0,(a0,(a1,())))))
def zNl:FuncId->Nat->Option Tmpl:=zq [(41,0,{ n:=27,tm:=[(0,.sl 0 []),(1,.sl 1 []),(5,ti)],lo:=[],ro:=[(0,(.sl .int),false),(1,(.sl .int),false)] })]
theorem zMe (a0:List (List Int))(a1:List (List Int))(hb:zbD big [aS (.sl .int) a0,aS (.sl .int) a1])(hc:zhy a0 a1=true):∃N,zAb N a0 a1=some [aB (zh5 a0 a1)]:=by
 have:=zD.1 hc;subst this;have hl:=(len0 hb);refine ⟨a0.length+1,?_⟩;unfold zAb oN nB;rw[zc6];refine zle a0 (Ty.dflt (.sl .int)) _ _ hl (fun i hi rec=>?_) (fun rec=>?_) (jW _)
 .simp only [zbo hi,zY hi,zbd hi,zga,zgD,zpA,zc6,zdU,zeO,cT,cF,jT,jU]
 .simp only [zbf,cF,zh5]
theorem zFa:u3 41 zvz:=hF2 zu3 zbg zl zo zNl zMe
def zol (x y:Kept):Bool:=pc (x=y)
def zok (_ _:Kept):Bool:=true
def zx0:Run:=rF2 (dT .kept) (dT .kept) fun b c=>(zol b c,[aB (zok b c)])
def zBN (N:Nat)(a0 a1:Kept):OA:=
 (oN (zhx a0.Known a1.Known) (cond (zh4 a0.Known a1.Known) (oN (zeF a0.Slots a1.Slots) (some [(aB (zeY a0.Slots a1.Slots))])) oF))
theorem zO5 (a0 a1:Kept)(hc:zol a0 a1=true):∃N,zBN N a0 a1=some [aB (zok a0 a1)]:=by
 have:=zD.1 hc;subst this;refine ⟨0,?_⟩;simp only[zBN,zhx,zh4,zeF,zeY,zpA,zc6,zdU,zeO,cT,cF,jT,jU,zok]
theorem zIj:u3 292 zx0:=kF2 zu3 zbg zl zo (zq []) zO5
def zmK (x y:Guest):Bool:=pc (x=y)
def zmi (_ _:Guest):Bool:=true
def zvx:Run:=rF2 (dT .guest) (dT .guest) fun b c=>(zmK b c,[aB (zmi b c)])
def zz9 (N:Nat)(a0 a1:Guest):OA:=
 (oN (zoj a0.Prog a1.Prog) (cond (zoi a0.Prog a1.Prog) (cond (ieq a0.A a1.A) (cond (ieq a0.Pc a1.Pc) (oN (zeF a0.Written a1.Written) (cond (zeY a0.Written a1.Written) (oN (zeF a0.Live a1.Live) (cond (zeY a0.Live a1.Live) (cond (cond (ieq a0.Ctl.Traps a1.Ctl.Traps) (cond (ieq a0.Ctl.Post a1.Ctl.Post) (zkh a0.Ctl.Open a1.Ctl.Open) false) false) (cond (ieq a0.Pending a1.Pending) (cond (cond (ieq a0.Exit.Kind a1.Exit.Kind) (cond (ieq a0.Exit.Page a1.Exit.Page) (cond (zkh a0.Exit.Write a1.Exit.Write) (ieq a0.Exit.N a1.Exit.N) false) false) false) (cond (zkh a0.Halted a1.Halted) (oN (zga a0.Seen a1.Seen) (some [(aB (zgD a0.Seen a1.Seen))])) oF) oF) oF) oF) oF)) oF)) oF) oF) oF))
theorem zMc (a0 a1:Guest)(hc:zmK a0 a1=true):∃N,zz9 N a0 a1=some [aB (zmi a0 a1)]:=by
 have:=zD.1 hc;subst this;refine ⟨0,?_⟩;simp only[zz9,zoj,zoi,zeF,zeY,zga,zgD,zpA,zc6,zdU,zeO,cT,cF,jT,jU,zmi]
theorem zE8:u3 291 zvx:=kF2 zu3 zbg zl zo (zq []) zMc
def z2A:zQ:=[(41,zvz),(292,zx0),(291,zvx)]++z2z
theorem zCo:zI z2A:=zh zFa (zh zIj (zh zE8 zu3))
def zmL (x y:List Kept):Bool:=pc (x=y)
def zmj (_ _:List Kept):Bool:=true
def zvy:Run:=rF2 (dS .kept) (dS .kept) fun b c=>(zmL b c,[aB (zmj b c)])
def zAa (N:Nat)(a0 a1:lK):OA:=
 (cond (ine (ln a0) (ln a1)) oF (iter (σ:=(Int×(lK×(lK×Unit)))) N (fun r3 s4=>let y1:=(ix s4.2.1 s4.1 zd0);let y0:=(ix s4.2.2.1 s4.1 zd0); (cond (ilt s4.1 (ln s4.2.1)) (oN (inb s4.1 (ln s4.2.1)) (oN (inb s4.1 (ln s4.2.2.1)) (oN (zol y1 y0) (cond (nB (zok y1 y0)) oF (r3 ((zG .i64 s4.1 1),(s4.2.1,(s4.2.2.1,())))))))) oT)) (0,(a0,(a1,())))))
def zNk:FuncId->Nat->Option Tmpl:=zq [(229,0,{ n:=27,tm:=[(0,.sl 0 []),(1,.sl 1 []),(5,ti)],lo:=[],ro:=[(0,.kept,false),(1,.kept,false)] })]
theorem zMd (a0 a1:List Kept)(hb:zbD big [aS .kept a0,aS .kept a1])(hc:zmL a0 a1=true):∃N,zAa N a0 a1=some [aB (zmj a0 a1)]:=by
 have:=zD.1 hc;subst this;have hl:=(len0 hb);refine ⟨a0.length+1,?_⟩;unfold zAa oN nB
 conv=>zeta
 rw[zc6];refine zle a0 zd0 _ _ hl (fun i hi rec=>?_) (fun rec=>?_) (jW _)
 .simp only [zbo hi,zY hi,zbd hi,zol,zok,zpA,zc6,zdU,zeO,cT,cF,jT,jU]
 .simp only [zbf,cF,zmj]
theorem zE9:u3 229 zvy:=hF2 zCo zbg zl zo zNk zMd
def zlq (x y:List Guest):Bool:=pc (x=y)
def zky (_ _:List Guest):Bool:=true
def zua:Run:=rF2 (dS .guest) (dS .guest) fun b c=>(zlq b c,[aB (zky b c)])
def zxa (N:Nat)(a0 a1:lG):OA:=
 (cond (ine (ln a0) (ln a1)) oF (iter (σ:=(Int×(lG×(lG×Unit)))) N (fun r3 s4=>let y1:=(ix s4.2.1 s4.1 zi);let y0:=(ix s4.2.2.1 s4.1 zi); (cond (ilt s4.1 (ln s4.2.1)) (oN (inb s4.1 (ln s4.2.1)) (oN (inb s4.1 (ln s4.2.2.1)) (oN (zmK y1 y0) (cond (nB (zmi y1 y0)) oF (r3 ((zG .i64 s4.1 1),(s4.2.1,(s4.2.2.1,())))))))) oT)) (0,(a0,(a1,())))))
def zJs:FuncId->Nat->Option Tmpl:=zq [(228,0,{ n:=27,tm:=[(0,.sl 0 []),(1,.sl 1 []),(5,ti)],lo:=[],ro:=[(0,.guest,false),(1,.guest,false)] })]
theorem zIS (a0 a1:List Guest)(hb:zbD big [aS .guest a0,aS .guest a1])(hc:zlq a0 a1=true):∃N,zxa N a0 a1=some [aB (zky a0 a1)]:=by
 have:=zD.1 hc;subst this;have hl:=(len0 hb);refine ⟨a0.length+1,?_⟩;unfold zxa oN nB
 conv=>zeta
 rw[zc6];refine zle a0 zi _ _ hl (fun i hi rec=>?_) (fun rec=>?_) (jW _)
 .simp only [zbo hi,zY hi,zbd hi,zmK,zmi,zpA,zc6,zdU,zeO,cT,cF,jT,jU]
 .simp only [zbf,cF,zky]
theorem zCD:u3 228 zua:=hF2 zCo zbg zl zo zJs zIS
def z2B:zQ:=[(229,zvy),(228,zua)]++z2A
theorem zQR:zI z2B:=zh zE9 (zh zCD zCo)
def zqn (x y:Mon):Bool:=pc (x=y)
def zrl (_ _:Mon):Bool:=true
def zAE:Run:=rF2 (dT .mon) (dT .mon) fun b c=>(zqn b c,[aB (zrl b c)])
def zF7 (N:Nat)(a0 a1:Mon):OA:=
 (oN (zeF a0.Outer a1.Outer) (cond (zeY a0.Outer a1.Outer) (oN (zhy a0.Out a1.Out) (cond (zh5 a0.Out a1.Out) (oN (zhx a0.Dirty a1.Dirty) (cond (zh4 a0.Dirty a1.Dirty) (oN (zlq a0.Guests a1.Guests) (cond (zky a0.Guests a1.Guests) (oN (zga a0.Outs a1.Outs) (cond (zgD a0.Outs a1.Outs) (cond (ieq a0.Pending a1.Pending) (cond (ieq a0.Traps a1.Traps) (oN (zmL a0.Tables a1.Tables) (cond (zmj a0.Tables a1.Tables) (some [(aB (ieq a0.Own a1.Own))]) oF)) oF) oF) oF)) oF)) oF)) oF)) oF))
theorem zSn (a0 a1:Mon)(hc:zqn a0 a1=true):∃N,zF7 N a0 a1=some [aB (zrl a0 a1)]:=by
 have:=zD.1 hc;subst this;refine ⟨0,?_⟩;simp only[zF7,zeF,zeY,zhy,zh5,zhx,zh4,zlq,zky,zga,zgD,zmL,zmj,zpA,zc6,zdU,zeO,cT,cF,jT,jU,zrl]
theorem zLi:u3 124 zAE:=kF2 zQR zbg zl zo (zq []) zSn
def z2C:zQ:=[(124,zAE)]++z2B
theorem zQS:zI z2C:=zh zLi zQR
def zon (x y:List Mon):Bool:=pc (x=y)
def zom (_ _:List Mon):Bool:=true
def zx1:Run:=rF2 (dS .mon) (dS .mon) fun b c=>(zon b c,[aB (zom b c)])
def zBO (N:Nat)(a0 a1:lN):OA:=
 (cond (ine (ln a0) (ln a1)) oF (iter (σ:=(Int×(lN×(lN×Unit)))) N (fun r3 s4=>let y1:=(ix s4.2.1 s4.1 zf);let y0:=(ix s4.2.2.1 s4.1 zf); (cond (ilt s4.1 (ln s4.2.1)) (oN (inb s4.1 (ln s4.2.1)) (oN (inb s4.1 (ln s4.2.2.1)) (oN (zqn y1 y0) (cond (nB (zrl y1 y0)) oF (r3 ((zG .i64 s4.1 1),(s4.2.1,(s4.2.2.1,())))))))) oT)) (0,(a0,(a1,())))))
def zPV:FuncId->Nat->Option Tmpl:=zq [(42,0,{ n:=27,tm:=[(0,.sl 0 []),(1,.sl 1 []),(5,ti)],lo:=[],ro:=[(0,.mon,false),(1,.mon,false)] })]
theorem zO6 (a0 a1:List Mon)(hb:zbD big [aS .mon a0,aS .mon a1])(hc:zon a0 a1=true):∃N,zBO N a0 a1=some [aB (zom a0 a1)]:=by
 have:=zD.1 hc;subst this;have hl:=(len0 hb);refine ⟨a0.length+1,?_⟩;unfold zBO oN nB
 conv=>zeta
 rw[zc6];refine zle a0 zf _ _ hl (fun i hi rec=>?_) (fun rec=>?_) (jW _)
 .simp only [zbo hi,zY hi,zbd hi,zqn,zrl,zpA,zc6,zdU,zeO,cT,cF,jT,jU]
 .simp only [zbf,cF,zom]
theorem zIk:u3 42 zx1:=hF2 zQS zbg zl zo zPV zO6
def z95:zQ:=[(42,zx1)]++z2C
theorem z2D:zI z95:=zh zIk zQS
def ztY (x y:Host):Bool:=pc (x=y)
def zsG (_ _:Host):Bool:=true
def zxX:Run:=rF2 dH dH fun b c=>(ztY b c,[aB (zsG b c)])
def zBK (N:Nat)(a0 a1:Host):OA:=
 (oN (zhy a0.Memory a1.Memory) (cond (zh5 a0.Memory a1.Memory) (oN (zon a0.Mons a1.Mons) (cond (zom a0.Mons a1.Mons) (oN (zix a0.Buffer a1.Buffer) (cond (ziw a0.Buffer a1.Buffer) (oN (zix a0.IoBuffer a1.IoBuffer) (some [(aB (ziw a0.IoBuffer a1.IoBuffer))])) oF)) oF)) oF))
theorem zO2 (a0 a1:Host)(hc:ztY a0 a1=true):∃N,zBK N a0 a1=some [aB (zsG a0 a1)]:=by
 have:=zD.1 hc;subst this;refine ⟨0,?_⟩;simp only[zBK,zhy,zh5,zon,zom,zix,ziw,zpA,zc6,zdU,zeO,cT,cF,jT,jU,zsG]
theorem zIg:u3 11 zxX:=kF2 z2D zbg zl zo (zq []) zO2
def Ends {ρ:Type}(G:ρ->Prop)(o:Option ρ):Prop:=∃a,o=some a/\G a
section
variable {ρ:Type} {G:ρ->Prop}
theorem zbK {c:Bool}{a b:Option ρ}(h:c=true)(k:Ends G a):Ends G (cond c a b):=by rw[h];exact k
theorem zdo {c:Bool}{a b:Option ρ}(h1:c=true->Ends G a)(h2:c=false->Ends G b):Ends G (cond c a b):=by
 cases c
 .exact h2 rfl
 .exact h1 rfl
theorem zmX {x:Option ρ}{f:Option ρ->Option ρ}(h:Ends G x)(k:∀t,Ends G t->Ends G (f t)):Ends G (share x f):=k x h
theorem zKK {a:ρ}(h:G a):Ends G (some a):=⟨a,rfl,h⟩
theorem zxn {σ:Type}{F:(σ->Option ρ)->σ->Option ρ}(I:Nat->σ->Prop)(h:∀n s rec,I n s->(∀k s',k<n->I k s'->Ends G (rec s'))->Ends G (F rec s)):∀(N n:Nat) (s:σ),I n s->n<N->Ends G (iter N F s)
 | 0,n,s,_,hn=>absurd hn (Nat.not_lt_zero n)
 | N+1,n,s,hI,hn=>h n s (iter N F) hI fun k s' hk hs=>zxn I h N k s' hs (by omega)
theorem z8Q {G:Ans->Prop}{o:OA}{r:Ans}(h:Ends (fun a=>a=r) o):o=some r:=by
 obtain ⟨a,h1,h2⟩:=h;rw[h1,h2]
end
instance:Inhabited Cur:=⟨⟨[],0,0⟩⟩
instance:Inhabited Ins:=⟨⟨0,0⟩⟩
instance:Inhabited GAct:=⟨⟨0,0,0,0,0,0⟩⟩
instance:Inhabited Ctl:=⟨⟨0,0,false⟩⟩
instance:Inhabited Host:=⟨⟨[],[],[],[]⟩⟩
def zdK (c:Cur):Prop:=0<=c.i/\c.b.length<=big
theorem zld {T:Type}(av:T->AV){good:T->Prop}{b:List Int}{x y:Int}{v:T}(h:0<=x)(g:good v):Ends (fun a=>∃s v0,a=(AV.agg (zbx s) :: [av v0])/\(s.b=b/\0<=s.i)/\good v0) (some (AV.agg [.s .u8 b,.i .i64 x,.i .i64 y] :: [av v])) :=
 ⟨_,rfl,⟨b,x,y⟩,v,rfl,⟨rfl,h⟩,g⟩
def zlZ (N:Nat)(c:Cur)  : OA :=
 let y0:=(zG .i64 (zlX .i64 c.h 6364136223846793005) 1442695040888963407);let y1:=(wand .i64 (z6z .i64 (zjq .i64 y0 33) (zjq .i64 y0 45)) 255); (oN (ile 0 33) (oN (ile 0 45) (cond (ilt c.i (ln c.b)) (oN (inb c.i (ln c.b)) (some [(.agg [(.s .u8 c.b),(.i .i64 (zG .i64 c.i 1)),(.i .i64 y0)]),(aI (wand .i64 (zG .i64 y1 (wcv .i64 (ix c.b c.i 0))) 255))])) (some [(.agg [(.s .u8 c.b),(.i .i64 c.i),(.i .i64 y0)]),(aI y1)]))))
theorem zVX (N:Nat)(c:Cur)  : zfN (cQ znX zkB zI9 zjm) (zq []) N 12 51 [false,true,true] (zbx c) []=zlZ N c:=by kernel_rfl
def zkN (c:Cur)(s:Cur)(v0:Int):Prop:=(∃N,zlZ N c=some (AV.agg (zbx s) :: [aI v0]))/\(s.b=c.b/\0<=s.i)/\(0<=v0/\v0<=255)
def zdh (c:Cur)  : Bool:=pc (∃s v0,zkN c s v0)
def zqS (c:Cur)  : Cur×Int:=Classical.epsilon fun r=>zkN c r.1 r.2
def zcl (c:Cur)  : Cur:=bif zdh c then (zqS c).1 else ⟨[],0,0⟩
def zft (c:Cur)  : Int:=(zqS c).2
theorem zj0 {c:Cur}(h:zdh c=true):zkN c (zcl c) (zft c):=by
 obtain ⟨s,v0,h2⟩:=zD.1 h;have h3:zkN c (zqS c).1 (zqS c).2:=Classical.epsilon_spec (p:=fun r=>zkN c r.1 r.2) ⟨(s,v0),h2⟩;unfold zcl;rw[h,cT];exact h3
theorem zmz (c:Cur)  : 0<=(zcl c).i:=by
 unfold zcl;cases h:zdh c with
 | false=>exact jX 0
 | true =>
  have:=(zj0 h).2.1.2;unfold zcl at this
  rwa [h] at this
theorem zYp (c:Cur)(h:∃N,Ends (fun a=>∃s v0,a=(AV.agg (zbx s) :: [aI v0])/\(s.b=c.b/\0<=s.i)/\(0<=v0/\v0<=255)) (zlZ N c)):zdh c=true:=by
 obtain ⟨N,a,e,s,v0,rfl,h⟩:=h;exact zbe ⟨s,v0,⟨N,e⟩,h⟩
def zpB:List CV->List AV->Option (Bool×List CV×List AV)
 | [.s .u8 b,.i .i64 c,.i .i64 d],[]=>some ((zdh (⟨b,c,d⟩:Cur)),zbx (zcl (⟨b,c,d⟩:Cur)),[aI (zft (⟨b,c,d⟩:Cur))])
 | _,_=>none
theorem zSL (c:Cur)(hb:zbD big (.agg (zbx c) :: []))(hc:zdh c=true):∃N,zlZ N c=some (.agg (zbx (zcl c)) :: [aI (zft c)]):=by
 exact (zj0 hc).1
theorem zLC:zdx Tryz.prog 51 [false,true,true] zpB:=by
 refine zbT (zcT zeg zbg zl zo) (zd2 (by kernel_rfl)) ?_
 intro cs avs cs' rs hl hr h;have hb:=zce hr;unfold zpB at h;split at h
 .obtain ⟨hc,rfl,rfl⟩:=zct h;obtain ⟨N,hN⟩:=zSL _ (by exact hb) hc
  exact ⟨rfl,_,N,12,(zVX N _ ).trans hN⟩
 .cases h
theorem zRA {x m:Int}(h0:0<=m)(h1:m<9223372036854775808):0<=wand .i64 x m/\wand .i64 x m<=m:=by
 have hm:(BitVec.ofInt 64 m).toNat=m.toNat:=by
  rw[BitVec.toNat_ofInt];omega
 have hle:(BitVec.ofInt 64 x &&& BitVec.ofInt 64 m).toNat<=m.toNat:=by
  rw[BitVec.toNat_and,hm];exact Nat.and_le_right
 unfold wand
 show 0<=IntKind.wrap .i64 ((BitVec.ofInt 64 x &&& BitVec.ofInt 64 m).toNat:Int)/\IntKind.wrap .i64 ((BitVec.ofInt 64 x &&& BitVec.ofInt 64 m).toNat:Int)<=m
 rw[zto (by omega) (by omega)]
 omega
@[simp] theorem zKA {c:Cur}(h:zdK c):zdh c=true:=by
 refine zYp c ⟨0,?_⟩;unfold zlZ oN
 conv=>zeta
 refine zbK rfl (zbK rfl (zdo (fun h0=>zbK (qJ ⟨h.1,qD h0⟩) (zld aI ?_ (zRA (by omega) (by omega)))) (fun _=>zld aI h.1 (zRA (by omega) (by omega)))))
 have h1:c.i<ln c.b:=qD h0;have h2:=h.2;have h3:=h.1;rw[znm]at h2;unfold ln at h1;rw[znK (by omega) (by omega)]
 omega
def z06:zdy:=[(51,([false,true,true],zpB))]++zI9
theorem zV8:zcv z06:=zdV zl (by
 intro x hx;simp only[qI,qU,or_false]at hx;rcases hx with rfl
 .exact zLC)
theorem zHU {b:List Int}{i h:Int}(h0:0<=i)(hb:b.length<=big):zdK ⟨b,i,h⟩:=⟨h0,hb⟩
theorem zEV {x n:Int}(h0:0<=x)(hn:0<n):0<=zjo x n/\zjo x n<n:=by
 unfold zjo;exact ⟨Int.tmod_nonneg _ h0,Int.tmod_lt_of_pos _ hn⟩
def zkd (N:Nat)(c:Cur)(a0:Int):OA:=
 let y2:=({ (zcl c) with b:=c.b }:Cur);let y0:=({ (zcl y2) with b:=c.b }:Cur);let y1:=({ (zcl y0) with b:=c.b }:Cur); (cond (ile a0 0) (some [(.agg [(.s .u8 c.b),(.i .i64 c.i),(.i .i64 c.h)]),(aI 0)]) (cond (ile a0 256) (oN (zdh c) (oN (ine a0 0) (some [(.agg [(.s .u8 c.b),(.i .i64 (zcl c).i),(.i .i64 (zcl c).h)]),(aI (zjo (zft c) a0))]))) (oN (zdh c) (oN (zdh y2) (oN (zdh y0) (oN (zdh y1) (oN (ine a0 0) (some [(.agg [(.s .u8 c.b),(.i .i64 (zcl y1).i),(.i .i64 (zcl y1).h)]),(aI (zjo (zG .i64 (zG .i64 (zG .i64 (zlX .i64 (zft c) 16777216) (zlX .i64 (zft y2) 65536)) (zlX .i64 (zft y0) 256)) (zft y1)) a0))]))))))))
theorem zS3 (N:Nat)(c:Cur)(a0:Int):zfN (cQ znX zkB z06 zjm) (zq []) N 12 17 [false,true,true] (zbx c) [aI a0]=zkd N c a0:=by kernel_rfl
def zjC (c:Cur)(a0:Int)(s:Cur)(v0:Int):Prop:=(∃N,zkd N c a0=some (AV.agg (zbx s) :: [aI v0]))/\(s.b=c.b/\0<=s.i)/\((0<a0->0<=v0/\v0<a0))
def zT (c:Cur)(a0:Int):Bool:=pc (∃s v0,zjC c a0 s v0)
def zo5 (c:Cur)(a0:Int):Cur×Int:=Classical.epsilon fun r=>zjC c a0 r.1 r.2
def zC (c:Cur)(a0:Int):Cur:=bif zT c a0 then (zo5 c a0).1 else ⟨[],0,0⟩
def zV (c:Cur)(a0:Int):Int:=(zo5 c a0).2
theorem zo4 {c:Cur}{a0:Int}(h:zT c a0=true):zjC c a0 (zC c a0) (zV c a0):=by
 obtain ⟨s,v0,h2⟩:=zD.1 h;have h3:zjC c a0 (zo5 c a0).1 (zo5 c a0).2:=Classical.epsilon_spec (p:=fun r=>zjC c a0 r.1 r.2) ⟨(s,v0),h2⟩;unfold zC;rw[h,cT];exact h3
theorem zcz (c:Cur)(a0:Int):0<=(zC c a0).i:=by
 unfold zC;cases h:zT c a0 with
 | false=>exact jX 0
 | true =>
  have:=(zo4 h).2.1.2;unfold zC at this
  rwa [h] at this
theorem zWt (c:Cur)(a0:Int)(h:∃N,Ends (fun a=>∃s v0,a=(AV.agg (zbx s) :: [aI v0])/\(s.b=c.b/\0<=s.i)/\((0<a0->0<=v0/\v0<a0))) (zkd N c a0)):zT c a0=true:=by
 obtain ⟨N,a,e,s,v0,rfl,h⟩:=h;exact zbe ⟨s,v0,⟨N,e⟩,h⟩
def zou:List CV->List AV->Option (Bool×List CV×List AV)
 | [.s .u8 b,.i .i64 c,.i .i64 d],[.one (.i .i64 e)]=>some ((zT (⟨b,c,d⟩:Cur) e),zbx (zC (⟨b,c,d⟩:Cur) e),[aI (zV (⟨b,c,d⟩:Cur) e)])
 | _,_=>none
theorem zPr (c:Cur)(a0:Int)(hb:zbD big (.agg (zbx c) :: [aI a0]))(hc:zT c a0=true):∃N,zkd N c a0=some (.agg (zbx (zC c a0)) :: [aI (zV c a0)]):=by
 exact (zo4 hc).1
theorem zID:zdx Tryz.prog 17 [false,true,true] zou:=by
 refine zbT (zcT zeg zbg zV8 zo) (zd2 (by kernel_rfl)) ?_
 intro cs avs cs' rs hl hr h;have hb:=zce hr;unfold zou at h;split at h
 .obtain ⟨hc,rfl,rfl⟩:=zct h;obtain ⟨N,hN⟩:=zPr _ _ (by exact hb) hc
  exact ⟨rfl,_,N,12,(zS3 N _ _ ).trans hN⟩
 .cases h
theorem zik {c:Cur}(h:zdK c)(n:Int):zT c n=true:=by
 refine zWt c n ⟨0,?_⟩;have k1:=zKA h;have k2:zdh { zcl c with b:=c.b }=true:=zKA (zHU (zmz _) h.2);have k3:zdh { zcl { zcl c with b:=c.b } with b:=c.b }=true:=zKA (zHU (zmz _) h.2);have k4:zdh { zcl { zcl { zcl c with b:=c.b } with b:=c.b } with b:=c.b }=true:=zKA (zHU (zmz _) h.2);have b1:=(zj0 k1).2.2;have b2:=(zj0 k2).2.2;have b3:=(zj0 k3).2.2;have b4:=(zj0 k4).2.2;unfold zkd oN
 conv=>zeta
 refine zdo (fun h0=>zld aI h.1 (fun hn=>absurd (qD h0) (by omega))) (fun h0=>?_)
 have hn:¬ n<=0:=jP h0;have hz:ine n 0=true:=by simp[ine];omega
 refine zdo (fun h1=>zbK k1 (zbK hz (zld aI (zmz _) (fun hp=>zEV b1.1 hp)))) (fun h1=>?_);refine zbK k1 (zbK k2 (zbK k3 (zbK k4 (zbK hz (zld aI (zmz _) (fun hp=>zEV ?_ hp))))));generalize zft c=x1 at b1;generalize zft _=x2 at b2;generalize zft _=x3 at b3;generalize zft _=x4 at b4;have w1:zlX .i64 x1 16777216=x1*16777216:=zto (by omega) (by omega)
 have w2:zlX .i64 x2 65536=x2*65536:=zto (by omega) (by omega)
 have w3:zlX .i64 x3 256=x3*256:=zto (by omega) (by omega)
 rw[w1,w2,w3,znK (x:=x1*16777216) (by omega) (by omega),znK (x:=x1*16777216+x2*65536) (by omega) (by omega),znK (by omega) (by omega)]
 omega
def zTr:zdy:=[(17,([false,true,true],zou))]++z06
theorem zJa:zcv zTr:=zdV zV8 (by
 intro x hx;simp only[qI,qU,or_false]at hx;rcases hx with rfl
 .exact zID)
def zl0 (N:Nat)(c:Cur)(a0:Int):OA:=
 (oN (zT c a0) (some [(.agg [(.s .u8 c.b),(.i .i64 (zC c a0).i),(.i .i64 (zC c a0).h)]),(aB (ieq (zV c a0) 0))]))
theorem zVY (N:Nat)(c:Cur)(a0:Int):zfN (cQ znX zkB zTr zjm) (zq []) N 12 49 [false,true,true] (zbx c) [aI a0]=zl0 N c a0:=by kernel_rfl
def zkP (c:Cur)(a0:Int)(s:Cur)(v0:Bool):Prop:=(∃N,zl0 N c a0=some (AV.agg (zbx s) :: [aB v0]))/\(s.b=c.b/\0<=s.i)/\(True)
def zeA (c:Cur)(a0:Int):Bool:=pc (∃s v0,zkP c a0 s v0)
def zqT (c:Cur)(a0:Int):Cur×Bool:=Classical.epsilon fun r=>zkP c a0 r.1 r.2
def zcs (c:Cur)(a0:Int):Cur:=bif zeA c a0 then (zqT c a0).1 else ⟨[],0,0⟩
def zkO (c:Cur)(a0:Int):Bool:=(zqT c a0).2
theorem zHl {c:Cur}{a0:Int}(h:zeA c a0=true):zkP c a0 (zcs c a0) (zkO c a0):=by
 obtain ⟨s,v0,h2⟩:=zD.1 h;have h3:zkP c a0 (zqT c a0).1 (zqT c a0).2:=Classical.epsilon_spec (p:=fun r=>zkP c a0 r.1 r.2) ⟨(s,v0),h2⟩;unfold zcs;rw[h,cT];exact h3
theorem zia (c:Cur)(a0:Int):0<=(zcs c a0).i:=by
 unfold zcs;cases h:zeA c a0 with
 | false=>exact jX 0
 | true =>
  have:=(zHl h).2.1.2;unfold zcs at this
  rwa [h] at this
theorem zYq (c:Cur)(a0:Int)(h:∃N,Ends (fun a=>∃s v0,a=(AV.agg (zbx s) :: [aB v0])/\(s.b=c.b/\0<=s.i)/\(True)) (zl0 N c a0)):zeA c a0=true:=by
 obtain ⟨N,a,e,s,v0,rfl,h⟩:=h;exact zbe ⟨s,v0,⟨N,e⟩,h⟩
def zpC:List CV->List AV->Option (Bool×List CV×List AV)
 | [.s .u8 b,.i .i64 c,.i .i64 d],[.one (.i .i64 e)]=>some ((zeA (⟨b,c,d⟩:Cur) e),zbx (zcs (⟨b,c,d⟩:Cur) e),[aB (zkO (⟨b,c,d⟩:Cur) e)])
 | _,_=>none
theorem zSM (c:Cur)(a0:Int)(hb:zbD big (.agg (zbx c) :: [aI a0]))(hc:zeA c a0=true):∃N,zl0 N c a0=some (.agg (zbx (zcs c a0)) :: [aB (zkO c a0)]):=by
 exact (zHl hc).1
theorem zLD:zdx Tryz.prog 49 [false,true,true] zpC:=by
 refine zbT (zcT zeg zbg zJa zo) (zd2 (by kernel_rfl)) ?_
 intro cs avs cs' rs hl hr h;have hb:=zce hr;unfold zpC at h;split at h
 .obtain ⟨hc,rfl,rfl⟩:=zct h;obtain ⟨N,hN⟩:=zSM _ _ (by exact hb) hc
  exact ⟨rfl,_,N,12,(zVY N _ _ ).trans hN⟩
 .cases h
theorem zV6 {c:Cur}(h:zdK c)(n:Int):zeA c n=true:=by
 refine zYq c n ⟨0,?_⟩;unfold zl0 oN;exact zbK (zik h _) (zld aB (zcz _ _) trivial)
def zih (N:Nat)(c:Cur)(a0:List Int):OA:=
 (oN (zT c (ln a0)) (oN (inb (zV c (ln a0)) (ln a0)) (some [(.agg [(.s .u8 c.b),(.i .i64 (zC c (ln a0)).i),(.i .i64 (zC c (ln a0)).h)]),(aI (ix a0 (zV c (ln a0)) 0))])))
theorem zMu (N:Nat)(c:Cur)(a0:List Int):zfN (cQ znX zkB zTr zjm) (zq []) N 12 129 [false,true,true] (zbx c) [aS .int a0]=zih N c a0:=by kernel_rfl
def zhS (c:Cur)(a0:List Int)(s:Cur)(v0:Int):Prop:=(∃N,zih N c a0=some (AV.agg (zbx s) :: [aI v0]))/\(s.b=c.b/\0<=s.i)/\((0<a0.length->v0∈a0))
def zcD (c:Cur)(a0:List Int):Bool:=pc (∃s v0,zhS c a0 s v0)
def zlO (c:Cur)(a0:List Int):Cur×Int:=Classical.epsilon fun r=>zhS c a0 r.1 r.2
def zbE (c:Cur)(a0:List Int):Cur:=bif zcD c a0 then (zlO c a0).1 else ⟨[],0,0⟩
def zdM (c:Cur)(a0:List Int):Int:=(zlO c a0).2
theorem zpX {c:Cur}{a0:List Int}(h:zcD c a0=true):zhS c a0 (zbE c a0) (zdM c a0):=by
 obtain ⟨s,v0,h2⟩:=zD.1 h;have h3:zhS c a0 (zlO c a0).1 (zlO c a0).2:=Classical.epsilon_spec (p:=fun r=>zhS c a0 r.1 r.2) ⟨(s,v0),h2⟩;unfold zbE;rw[h,cT];exact h3
theorem zlN (c:Cur)(a0:List Int):0<=(zbE c a0).i:=by
 unfold zbE;cases h:zcD c a0 with
 | false=>exact jX 0
 | true =>
  have:=(zpX h).2.1.2;unfold zbE at this
  rwa [h] at this
theorem zPM (c:Cur)(a0:List Int)(h:∃N,Ends (fun a=>∃s v0,a=(AV.agg (zbx s) :: [aI v0])/\(s.b=c.b/\0<=s.i)/\((0<a0.length->v0∈a0))) (zih N c a0)):zcD c a0=true:=by
 obtain ⟨N,a,e,s,v0,rfl,h⟩:=h;exact zbe ⟨s,v0,⟨N,e⟩,h⟩
def zlW:List CV->List AV->Option (Bool×List CV×List AV)
 | [.s .u8 b,.i .i64 c,.i .i64 d],[.one (.s .int e)]=>some ((zcD (⟨b,c,d⟩:Cur) e),zbx (zbE (⟨b,c,d⟩:Cur) e),[aI (zdM (⟨b,c,d⟩:Cur) e)])
 | _,_=>none
theorem zI2 (c:Cur)(a0:List Int)(hb:zbD big (.agg (zbx c) :: [aS .int a0]))(hc:zcD c a0=true):∃N,zih N c a0=some (.agg (zbx (zbE c a0)) :: [aI (zdM c a0)]):=by
 exact (zpX hc).1
theorem zCK:zdx Tryz.prog 129 [false,true,true] zlW:=by
 refine zbT (zcT zeg zbg zJa zo) (zd2 (by kernel_rfl)) ?_
 intro cs avs cs' rs hl hr h;have hb:=zce hr;unfold zlW at h;split at h
 .obtain ⟨hc,rfl,rfl⟩:=zct h;obtain ⟨N,hN⟩:=zI2 _ _ (by exact hb) hc
  exact ⟨rfl,_,N,12,(zMu N _ _ ).trans hN⟩
 .cases h
theorem zMF {c:Cur}(h:zdK c){l:List Int}(hl:l≠[]):zcD c l=true:=by
 refine zPM c l ⟨0,?_⟩;have hp:0<ln l:=by unfold ln;have:=kK.2 hl;omega
 have g:=(zo4 (zik h (ln l))).2.2 hp;have hb:inb (zV c (ln l)) (ln l)=true:=qJ ⟨g.1,g.2⟩;unfold zih oN;exact zbK (zik h _) (zbK hb (zld aI (zcz _ _) (fun _=>zbv hb 0)))
def z07:zdy:=[(49,([false,true,true],zpC)),(129,([false,true,true],zlW))]++zTr
theorem zV9:zcv z07:=zdV zJa (by
 intro x hx;simp only[qI,qU,or_false]at hx;rcases hx with rfl|rfl
 .exact zLD
 .exact zCK)
theorem zfy {c:Cur}{i k:Int}(h:zdK c)(h0:0<=i):zdK ⟨c.b,i,k⟩:=⟨h0,h.2⟩
theorem z9o {c:Cur}(h:zdK c){l:List Int}(hl:l≠[]):zdM c l∈l:=(zpX (zMF h hl)).2.2 (kK.2 hl)
theorem zmU {c:Cur}(h:zdK c){n:Int}(hn:0<n):0<=zV c n/\zV c n<n:=(zo4 (zik h n)).2.2 hn
theorem zLV {o x:Int}(h:(o=1\/o=2\/o=5\/o=6)/\0<=x/\x<=99\/(o=3\/o=4)/\0<=x/\x<=15\/o=8/\0<=x/\x<=11):zdN ⟨o,x⟩=true:=by
 have w:∀{a b:Int},a<=x->x<=b->win x a b=true:=fun h1 h2=>by simp only[win,ige,ile,qE,qX];exact ⟨h1,h2⟩
 rcases h with ⟨h|h|h|h,h1,h2⟩|⟨h|h,h1,h2⟩|⟨h,h1,h2⟩<;>subst h<;>exact w h1 h2
def znP (N:Nat)(c:Cur)  : OA :=
 let y1:=(zdM c [1,2,3,3,3,4,4,4,5,6,8]);let y0:=({ (zbE c [1,2,3,3,3,4,4,4,5,6,8]) with b:=c.b }:Cur); (share (oN (zT y0 16) (some [(.agg [(.s .u8 c.b),(.i .i64 (zC y0 16).i),(.i .i64 (zC y0 16).h)]),(.agg [(.i .i64 y1),(.i .i64 (zV y0 16))])])) (fun t1=>(share (cond (ieq y1 8) (oN (zT y0 4) (some [(.agg [(.s .u8 c.b),(.i .i64 (zC y0 4).i),(.i .i64 (zC y0 4).h)]),(.agg [(.i .i64 y1),(.i .i64 (zV y0 4))])])) (oN (zT y0 100) (some [(.agg [(.s .u8 c.b),(.i .i64 (zC y0 100).i),(.i .i64 (zC y0 100).h)]),(.agg [(.i .i64 y1),(.i .i64 (zV y0 100))])]))) (fun t0=>(oN (zcD c [1,2,3,3,3,4,4,4,5,6,8]) (cond (ieq y1 3) (cond (ieq y1 3) t1 t0) (cond (ieq y1 4) t1 t0)))))))
theorem zYe (N:Nat)(c:Cur)  : zfN (cQ znX zkB z07 zjm) (zq []) N 12 293 [false,true,true] (zbx c) []=znP N c:=by kernel_rfl
def zmA (c:Cur)(s:Cur)(v0:Ins):Prop:=(∃N,znP N c=some (AV.agg (zbx s) :: [aT .ins v0]))/\(s.b=c.b/\0<=s.i)/\(zdN v0=true)
def zhT (c:Cur)  : Bool:=pc (∃s v0,zmA c s v0)
def zsV (c:Cur)  : Cur×Ins:=Classical.epsilon fun r=>zmA c r.1 r.2
def zgH (c:Cur)  : Cur:=bif zhT c then (zsV c).1 else ⟨[],0,0⟩
def zuz (c:Cur)  : Ins:=(zsV c).2
theorem zzI {c:Cur}(h:zhT c=true):zmA c (zgH c) (zuz c):=by
 obtain ⟨s,v0,h2⟩:=zD.1 h;have h3:zmA c (zsV c).1 (zsV c).2:=Classical.epsilon_spec (p:=fun r=>zmA c r.1 r.2) ⟨(s,v0),h2⟩;unfold zgH;rw[h,cT];exact h3
theorem z1k (c:Cur)  : 0<=(zgH c).i:=by
 unfold zgH;cases h:zhT c with
 | false=>exact jX 0
 | true =>
  have:=(zzI h).2.1.2;unfold zgH at this
  rwa [h] at this
theorem z1j (c:Cur)(h:∃N,Ends (fun a=>∃s v0,a=(AV.agg (zbx s) :: [aT .ins v0])/\(s.b=c.b/\0<=s.i)/\(zdN v0=true)) (znP N c)):zhT c=true:=by
 obtain ⟨N,a,e,s,v0,rfl,h⟩:=h;exact zbe ⟨s,v0,⟨N,e⟩,h⟩
def zrV:List CV->List AV->Option (Bool×List CV×List AV)
 | [.s .u8 b,.i .i64 c,.i .i64 d],[]=>some ((zhT (⟨b,c,d⟩:Cur)),zbx (zgH (⟨b,c,d⟩:Cur)),[aT .ins (zuz (⟨b,c,d⟩:Cur))])
 | _,_=>none
theorem zVG (c:Cur)(hb:zbD big (.agg (zbx c) :: []))(hc:zhT c=true):∃N,znP N c=some (.agg (zbx (zgH c)) :: [aT .ins (zuz c)]):=by
 exact (zzI hc).1
theorem zOA:zdx Tryz.prog 293 [false,true,true] zrV:=by
 refine zbT (zcT zeg zbg zV9 zo) (zd2 (by kernel_rfl)) ?_
 intro cs avs cs' rs hl hr h;have hb:=zce hr;unfold zrV at h;split at h
 .obtain ⟨hc,rfl,rfl⟩:=zct h;obtain ⟨N,hN⟩:=zVG _ (by exact hb) hc
  exact ⟨rfl,_,N,12,(zYe N _ ).trans hN⟩
 .cases h
theorem z7J {c:Cur}(h:zdK c):zhT c=true:=by
 refine z1j c ⟨0,?_⟩;have hk:([1,2,3,3,3,4,4,4,5,6,8]:List Int)≠[]:=by simp
 have hm:=z9o h hk;have h1:zdK { zbE c [1,2,3,3,3,4,4,4,5,6,8] with b:=c.b }:=zfy h (zlN _ _);have b16:=zmU h1 (n:=16) (by omega)
 have b4:=zmU h1 (n:=4) (by omega)
 have b100:=zmU h1 (n:=100) (by omega)
 unfold znP oN
 conv=>zeta
 generalize zdM c [1,2,3,3,3,4,4,4,5,6,8]=o at hm;simp only[qI,qU,or_false]at hm;have no:∀{n:Int},ieq o n=false->o≠n:=fun h e=>by subst e;simp[ieq]at h
 have ye:∀{n:Int},ieq o n=true->o=n:=fun h=>by simpa [ieq] using h
 have L:∀(n:Int),0<n->(zdN ⟨o,zV { zbE c [1,2,3,3,3,4,4,4,5,6,8] with b:=c.b } n⟩=true)->Ends (fun a=>∃s v0,a=(AV.agg (zbx s) :: [aT .ins v0])/\(s.b=c.b/\0<=s.i)/\zdN v0=true)
  (cond (zT { zbE c [1,2,3,3,3,4,4,4,5,6,8] with b:=c.b } n) (some (AV.agg [.s .u8 c.b,.i .i64 (zC { zbE c [1,2,3,3,3,4,4,4,5,6,8] with b:=c.b } n).i,.i .i64 (zC { zbE c [1,2,3,3,3,4,4,4,5,6,8] with b:=c.b } n).h] :: [.agg [.i .i64 o,.i .i64 (zV { zbE c [1,2,3,3,3,4,4,4,5,6,8] with b:=c.b } n)]])) none) :=
  fun n hn hi=>zbK (zik h1 n) (zld (aT .ins) (v:=⟨o,zV _ n⟩) (zcz _ _) hi)
 refine zbK (zMF h hk) (zdo (fun h3=>zdo (fun _=>L 16 (by omega) (zLV ?_)) (fun h4=>absurd (ye h3) (no h4))) (fun h3=>zdo (fun h4=>L 16 (by omega) (zLV ?_)) (fun h4=>zdo (fun h8=>L 4 (by omega) (zLV ?_)) (fun h8=>L 100 (by omega) (zLV ?_)))))
 .have:=ye h3;omega
 .have:=ye h4;omega
 .have:=ye h8;omega
 .have:=no h3;have:=no h4;have:=no h8;omega
def z08:zdy:=[(293,([false,true,true],zrV))]++z07
theorem zWa:zcv z08:=zdV zV9 (by
 intro x hx;simp only[qI,qU,or_false]at hx;rcases hx with rfl
 .exact zOA)
theorem znL {x y:Int}(h0:0<=x)(h1:x<=1000000)(h2:0<=y)(h3:y<=1000000):zG .i64 x y=x+y:=znK (by omega) (by omega)
theorem zxo {α:Type}{l:List α}(h:ln l<=1000000):few (ln l)=true:=qJ ⟨by unfold ln;omega,by omega⟩
theorem zqo {α:Type}(l:List α)(x:α):ln (ap l [x])=ln l+1:=by simp[ln,ap]
def zl1 (N:Nat)(c:Cur)  : OA :=
 (iter (σ:=(Int×(Int×(Int×(lI×((List Int)×Unit)))))) N (fun r2 s3=>let y3:=s3.2.2.2.1;let y2:=s3.2.2.2.2.1;let y1:=(⟨y2,s3.2.1,s3.2.2.1⟩:Cur);let y0:=({ (zC y1 7) with b:=y2 }:Cur); (oN (zT y1 7) (cond (ilt s3.1 (zG .i64 2 (zV y1 7))) (oN (zhT y0) (oN (few (ln (ap y3 [(zuz y0)]))) (r2 ((zG .i64 s3.1 1),((zgH y0).i,((zgH y0).h,((ap y3 [(zuz y0)]),(y2,())))))))) (oN (zeA y0 3) (cond (zkO y0 3) (oN (few (ln (ap y3 [(⟨7,0⟩:Ins)]))) (some [(.agg [(.s .u8 y2),(.i .i64 (zcs y0 3).i),(.i .i64 (zcs y0 3).h)]),(aS .ins (ap y3 [(⟨7,0⟩:Ins)]))])) (oN (few (ln (ap y3 [(⟨8,0⟩:Ins)]))) (some [(.agg [(.s .u8 y2),(.i .i64 (zcs y0 3).i),(.i .i64 (zcs y0 3).h)]),(aS .ins (ap y3 [(⟨8,0⟩:Ins)]))]))))))) (0,(c.i,(c.h,([],(c.b,()))))))
def zTf:FuncId->Nat->Option Tmpl:=zq [(230,0,{ n:=29,tm:=[(0,.lp 0 0),(3,.sl 0 []),(4,ti)],lo:=[(0,[.sl 1 [],ti,ti])],ro:=[(0,.ins,true),(1,.u8,false)] })]
theorem zVZ (N:Nat)(c:Cur)  : zfN (cQ znX zkB z08 zjm) zTf N 12 230 [false,true,true] (zbx c) []=zl1 N c:=by kernel_rfl
def zkQ (c:Cur)(s:Cur)(v0:List Ins):Prop:=(∃N,zl1 N c=some (AV.agg (zbx s) :: [aS .ins v0]))/\(s.b=c.b/\0<=s.i)/\(zc4 v0=true)
def zfX (c:Cur)  : Bool:=pc (∃s v0,zkQ c s v0)
def zqU (c:Cur)  : Cur×List Ins:=Classical.epsilon fun r=>zkQ c r.1 r.2
def zeZ (c:Cur)  : Cur:=bif zfX c then (zqU c).1 else ⟨[],0,0⟩
def znC (c:Cur)  : List Ins:=(zqU c).2
theorem zwU {c:Cur}(h:zfX c=true):zkQ c (zeZ c) (znC c):=by
 obtain ⟨s,v0,h2⟩:=zD.1 h;have h3:zkQ c (zqU c).1 (zqU c).2:=Classical.epsilon_spec (p:=fun r=>zkQ c r.1 r.2) ⟨(s,v0),h2⟩;unfold zeZ;rw[h,cT];exact h3
theorem zYs (c:Cur)  : 0<=(zeZ c).i:=by
 unfold zeZ;cases h:zfX c with
 | false=>exact jX 0
 | true =>
  have:=(zwU h).2.1.2;unfold zeZ at this
  rwa [h] at this
theorem zYr (c:Cur)(h:∃N,Ends (fun a=>∃s v0,a=(AV.agg (zbx s) :: [aS .ins v0])/\(s.b=c.b/\0<=s.i)/\(zc4 v0=true)) (zl1 N c)):zfX c=true:=by
 obtain ⟨N,a,e,s,v0,rfl,h⟩:=h;exact zbe ⟨s,v0,⟨N,e⟩,h⟩
def zpD:List CV->List AV->Option (Bool×List CV×List AV)
 | [.s .u8 b,.i .i64 c,.i .i64 d],[]=>some ((zfX (⟨b,c,d⟩:Cur)),zbx (zeZ (⟨b,c,d⟩:Cur)),[aS .ins (znC (⟨b,c,d⟩:Cur))])
 | _,_=>none
theorem zSP (c:Cur)(hb:zbD big (.agg (zbx c) :: []))(hc:zfX c=true):∃N,zl1 N c=some (.agg (zbx (zeZ c)) :: [aS .ins (znC c)]):=by
 exact (zwU hc).1
theorem zLG:zdx Tryz.prog 230 [false,true,true] zpD:=by
 refine zbT (zcT zeg zbg zWa zo) (zd2 (by kernel_rfl)) ?_
 intro cs avs cs' rs hl hr h;have hb:=zce hr;unfold zpD at h;split at h
 .obtain ⟨hc,rfl,rfl⟩:=zct h;obtain ⟨N,hN⟩:=zSP _ (by exact hb) hc
  exact ⟨rfl,_,N,12,(zVZ N _ ).trans hN⟩
 .cases h
theorem z3L {c:Cur}(h:zdK c):zfX c=true:=by
 refine zYr c ⟨9,?_⟩;unfold zl1 oN
 conv=>zeta
 refine zxn (fun n s=>s.1+(n:Int)=8/\0<=s.1/\0<=s.2.1/\(∀x∈s.2.2.2.1,zdN x=true)/\ln s.2.2.2.1=s.1/\s.2.2.2.2.1=c.b) ?_ 9 8 _ ⟨rfl,jX 0,h.1,by simp,rfl,rfl⟩ (by omega)
 rintro n ⟨t,i,k,l,b,u⟩ rec ⟨h1,h2,h3,h4,h5,h6⟩ hrec
 dsimp only at h1 h2 h3 h4 h5 h6 ⊢
 subst h6;have hcur:zdK ⟨c.b,i,k⟩:=zfy h h3;have hx:=zmU hcur (n:=7) (by omega)
 have hw:=znL (x:=2) (by omega) (by omega) hx.1 (by omega)
 have h7:zdK { zC ⟨c.b,i,k⟩ 7 with b:=c.b }:=zfy h (zcz _ _);have fin:∀(y:Ins),zdN y=true->2<=t->zc4 (ap l [y])=true:=by
  intro y hy ht;unfold zc4;rw[zqo,h5];have:(ap l [y]).all zdN=true:=by
   simp only[ap,List.all_append,k9,List.all_nil,Bool.and_true,qE];exact ⟨qO.2 h4,hy⟩
  rw[this,cT];simp only[win,ige,ile,qE,qX];omega
 refine zbK (zik hcur 7) (zdo (fun hc=>?_) (fun hc=>?_))
 .have hlt:t<zG .i64 2 (zV ⟨c.b,i,k⟩ 7):=qD hc;rw[hw]at hlt;refine zbK (z7J h7) (zbK (zxo (by rw[zqo];omega)) (hrec (n-1) _ (by omega) ⟨?_,?_,z1k _,?_,?_,rfl⟩))
  .show zG .i64 t 1+_=8
   rw[znL h2 (by omega) (by omega) (by omega)];omega
  .show 0<=zG .i64 t 1
   rw[znL h2 (by omega) (by omega) (by omega)];omega
  .intro x hx;rcases jI.1 hx with hx|hx
   .exact h4 x hx
   .rw [qF.1 hx];exact (zzI (z7J h7)).2.2
  .show ln (ap l [_])=zG .i64 t 1
   rw[zqo,znL h2 (by omega) (by omega) (by omega)];omega
 .have hge:¬ t<zG .i64 2 (zV ⟨c.b,i,k⟩ 7):=jP hc;rw[hw]at hge;refine zbK (zV6 h7 3) (zdo (fun _=>zbK (zxo (by rw[zqo];omega)) (zld (aS .ins) (zia _ _) (fin _ rfl (by omega)))) (fun _=>zbK (zxo (by rw[zqo];omega)) (zld (aS .ins) (zia _ _) (fin _ rfl (by omega)))))
def z09:zdy:=[(230,([false,true,true],zpD))]++z08
theorem zWb:zcv z09:=zdV zWa (by
 intro x hx;simp only[qI,qU,or_false]at hx;rcases hx with rfl
 .exact zLG)
theorem zXd {α:Type}{c:Cur}(h:zdK c){P:α->Prop}{fc:Cur->Bool}{fs:Cur->Cur}{fv:Cur->α}(hf:∀{c:Cur},zdK c->fc c=true)(hp:∀c,0<=(fs c).i)(hg:∀{c:Cur},zdK c->P (fv c)){G:Ans->Prop}{R:Cur->List α->Ans}(hG:∀s l,s.b=c.b->0<=s.i->1<=l.length->l.length<=2->(∀x∈l,P x)->G (R s l)){F:(Int×Int×Int×List α×List Int×Unit->OA)->Int×Int×Int×List α×List Int×Unit->OA}(hF:∀rec t i k l,F rec (t,i,k,l,c.b,())=bif zT ⟨c.b,i,k⟩ 2 then (bif ilt t (zG .i64 1 (zV ⟨c.b,i,k⟩ 2)) then (bif fc { zC ⟨c.b,i,k⟩ 2 with b:=c.b } then (bif few (ln (ap l [fv { zC ⟨c.b,i,k⟩ 2 with b:=c.b }])) then
        rec (zG .i64 t 1,(fs { zC ⟨c.b,i,k⟩ 2 with b:=c.b }).i,(fs { zC ⟨c.b,i,k⟩ 2 with b:=c.b }).h,ap l [fv { zC ⟨c.b,i,k⟩ 2 with b:=c.b }],c.b,()) else none) else none) else some (R ⟨c.b,(zC ⟨c.b,i,k⟩ 2).i,(zC ⟨c.b,i,k⟩ 2).h⟩ l)) else none) :
 Ends G (iter 3 F (0,c.i,c.h,[],c.b,())):=by
 refine zxn (fun n s=>s.1+(n:Int)=2/\0<=s.1/\0<=s.2.1/\(∀x∈s.2.2.2.1,P x)/\ln s.2.2.2.1=s.1/\s.2.2.2.2.1=c.b) ?_ 3 2 _ ⟨rfl,jX 0,h.1,by simp,rfl,rfl⟩ (by omega)
 rintro n ⟨t,i,k,l,b,u⟩ rec ⟨h1,h2,h3,h4,h5,h6⟩ hrec
 dsimp only at h1 h2 h3 h4 h5 h6
 subst h6;rw[hF];have hcur:zdK ⟨c.b,i,k⟩:=zfy h h3;have hx:=zmU hcur (n:=2) (by omega)
 have hw:=znL (x:=1) (by omega) (by omega) hx.1 (by omega)
 have h7:zdK { zC ⟨c.b,i,k⟩ 2 with b:=c.b }:=zfy h (zcz _ _);refine zbK (zik hcur 2) (zdo (fun hc=>?_) (fun hc=>?_))
 .have hlt:t<zG .i64 1 (zV ⟨c.b,i,k⟩ 2):=qD hc;rw[hw]at hlt;have ht:=znL (y:=1) h2 (by omega) (by omega) (by omega)
  refine zbK (hf h7) (zbK (zxo (by rw[zqo];omega)) (hrec (n-1) _ (by omega) ⟨?_,?_,hp _,?_,?_,rfl⟩))
  .show zG .i64 t 1+_=2
   omega
  .show 0<=zG .i64 t 1
   omega
  .intro x hx;rcases jI.1 hx with hx|hx
   .exact h4 x hx
   .rw [qF.1 hx];exact hg h7
  .show ln (ap l [_])=zG .i64 t 1
   rw[zqo];omega
 .have hge:¬ t<zG .i64 1 (zV ⟨c.b,i,k⟩ 2):=jP hc;rw[hw]at hge;unfold ln at h5;exact zKK (hG _ l rfl (zcz _ _) (by omega) (by omega) h4)
def zke (N:Nat)(c:Cur)  : OA :=
 (iter (σ:=(Int×(Int×(Int×(lP×((List Int)×Unit)))))) N (fun r2 s3=>let y2:=s3.2.2.2.2.1;let y1:=(⟨y2,s3.2.1,s3.2.2.1⟩:Cur);let y0:=({ (zC y1 2) with b:=y2 }:Cur); (oN (zT y1 2) (cond (ilt s3.1 (zG .i64 1 (zV y1 2))) (oN (zfX y0) (oN (few (ln (ap s3.2.2.2.1 [(znC y0)]))) (r2 ((zG .i64 s3.1 1),((zeZ y0).i,((zeZ y0).h,((ap s3.2.2.2.1 [(znC y0)]),(y2,())))))))) (some [(.agg [(.s .u8 y2),(.i .i64 (zC y1 2).i),(.i .i64 (zC y1 2).h)]),(aS (.sl .ins) s3.2.2.2.1)])))) (0,(c.i,(c.h,([],(c.b,()))))))
def zP2:FuncId->Nat->Option Tmpl:=zq [(125,0,{ n:=19,tm:=[(0,.lp 0 0),(3,.sl 0 []),(4,ti)],lo:=[(0,[.sl 1 [],ti,ti])],ro:=[(0,(.sl .ins),true),(1,.u8,false)] })]
theorem zS4 (N:Nat)(c:Cur)  : zfN (cQ znX zkB z09 zjm) zP2 N 12 125 [false,true,true] (zbx c) []=zke N c:=by kernel_rfl
def zjD (c:Cur)(s:Cur)(v0:List (List Ins)):Prop:=(∃N,zke N c=some (AV.agg (zbx s) :: [aS (.sl .ins) v0]))/\(s.b=c.b/\0<=s.i)/\(1<=v0.length/\v0.length<=2/\∀x∈v0,zc4 x=true)
def zfh (c:Cur)  : Bool:=pc (∃s v0,zjD c s v0)
def zo7 (c:Cur)  : Cur×List (List Ins):=Classical.epsilon fun r=>zjD c r.1 r.2
def zeB (c:Cur)  : Cur:=bif zfh c then (zo7 c).1 else ⟨[],0,0⟩
def zlP (c:Cur)  : List (List Ins):=(zo7 c).2
theorem zuA {c:Cur}(h:zfh c=true):zjD c (zeB c) (zlP c):=by
 obtain ⟨s,v0,h2⟩:=zD.1 h;have h3:zjD c (zo7 c).1 (zo7 c).2:=Classical.epsilon_spec (p:=fun r=>zjD c r.1 r.2) ⟨(s,v0),h2⟩;unfold zeB;rw[h,cT];exact h3
theorem zWv (c:Cur)  : 0<=(zeB c).i:=by
 unfold zeB;cases h:zfh c with
 | false=>exact jX 0
 | true =>
  have:=(zuA h).2.1.2;unfold zeB at this
  rwa [h] at this
theorem zWu (c:Cur)(h:∃N,Ends (fun a=>∃s v0,a=(AV.agg (zbx s) :: [aS (.sl .ins) v0])/\(s.b=c.b/\0<=s.i)/\(1<=v0.length/\v0.length<=2/\∀x∈v0,zc4 x=true)) (zke N c)):zfh c=true:=by
 obtain ⟨N,a,e,s,v0,rfl,h⟩:=h;exact zbe ⟨s,v0,⟨N,e⟩,h⟩
def zov:List CV->List AV->Option (Bool×List CV×List AV)
 | [.s .u8 b,.i .i64 c,.i .i64 d],[]=>some ((zfh (⟨b,c,d⟩:Cur)),zbx (zeB (⟨b,c,d⟩:Cur)),[aS (.sl .ins) (zlP (⟨b,c,d⟩:Cur))])
 | _,_=>none
theorem zPs (c:Cur)(hb:zbD big (.agg (zbx c) :: []))(hc:zfh c=true):∃N,zke N c=some (.agg (zbx (zeB c)) :: [aS (.sl .ins) (zlP c)]):=by
 exact (zuA hc).1
theorem zIE:zdx Tryz.prog 125 [false,true,true] zov:=by
 refine zbT (zcT zeg zbg zWb zo) (zd2 (by kernel_rfl)) ?_
 intro cs avs cs' rs hl hr h;have hb:=zce hr;unfold zov at h;split at h
 .obtain ⟨hc,rfl,rfl⟩:=zct h;obtain ⟨N,hN⟩:=zPs _ (by exact hb) hc
  exact ⟨rfl,_,N,12,(zS4 N _ ).trans hN⟩
 .cases h
theorem zZo {c:Cur}(h:zdK c):zfh c=true:=by
 refine zWu c ⟨3,?_⟩;unfold zke oN
 conv=>zeta
 exact zXd h (P:=fun x=>zc4 x=true) (fc:=zfX) (fs:=zeZ) (fv:=znC) (R:=fun s l=>AV.agg (zbx s) :: [aS (.sl .ins) l]) z3L zYs (fun h=>(zwU (z3L h)).2.2) (fun s l hb hi h1 h2 hl=>⟨s,l,rfl,⟨hb,hi⟩,h1,h2,hl⟩) (fun rec t i k l=>rfl)
def z1a:zdy:=[(125,([false,true,true],zov))]++z09
theorem zWc:zcv z1a:=zdV zWb (by
 intro x hx;simp only[qI,qU,or_false]at hx;rcases hx with rfl
 .exact zIE)
def znR (N:Nat)(c:Cur)  : OA :=
 (iter (σ:=(Int×(Int×(Int×(lQ×((List Int)×Unit)))))) N (fun r2 s3=>let y2:=s3.2.2.2.2.1;let y1:=(⟨y2,s3.2.1,s3.2.2.1⟩:Cur);let y0:=({ (zC y1 2) with b:=y2 }:Cur); (oN (zT y1 2) (cond (ilt s3.1 (zG .i64 1 (zV y1 2))) (oN (zfh y0) (oN (few (ln (ap s3.2.2.2.1 [(zlP y0)]))) (r2 ((zG .i64 s3.1 1),((zeB y0).i,((zeB y0).h,((ap s3.2.2.2.1 [(zlP y0)]),(y2,())))))))) (some [(.agg [(.s .u8 y2),(.i .i64 (zC y1 2).i),(.i .i64 (zC y1 2).h)]),(aS (.sl (.sl .ins)) s3.2.2.2.1)])))) (0,(c.i,(c.h,([],(c.b,()))))))
def zW8:FuncId->Nat->Option Tmpl:=zq [(47,0,{ n:=19,tm:=[(0,.lp 0 0),(3,.sl 0 []),(4,ti)],lo:=[(0,[.sl 1 [],ti,ti])],ro:=[(0,(.sl (.sl .ins)),true),(1,.u8,false)] })]
theorem zYg (N:Nat)(c:Cur)  : zfN (cQ znX zkB z1a zjm) zW8 N 12 47 [false,true,true] (zbx c) []=znR N c:=by kernel_rfl
def zmC (c:Cur)(s:Cur)(v0:List (List (List Ins))):Prop:=(∃N,znR N c=some (AV.agg (zbx s) :: [aS (.sl (.sl .ins)) v0]))/\(s.b=c.b/\0<=s.i)/\(1<=v0.length/\v0.length<=2/\∀p∈v0,1<=p.length/\p.length<=2/\∀x∈p,zc4 x=true)
def zhV (c:Cur)  : Bool:=pc (∃s v0,zmC c s v0)
def zsX (c:Cur)  : Cur×List (List (List Ins)):=Classical.epsilon fun r=>zmC c r.1 r.2
def zfZ (c:Cur)  : Cur:=bif zhV c then (zsX c).1 else ⟨[],0,0⟩
def zpZ (c:Cur)  : List (List (List Ins)):=(zsX c).2
theorem zzJ {c:Cur}(h:zhV c=true):zmC c (zfZ c) (zpZ c):=by
 obtain ⟨s,v0,h2⟩:=zD.1 h;have h3:zmC c (zsX c).1 (zsX c).2:=Classical.epsilon_spec (p:=fun r=>zmC c r.1 r.2) ⟨(s,v0),h2⟩;unfold zfZ;rw[h,cT];exact h3
theorem z1p (c:Cur)  : 0<=(zfZ c).i:=by
 unfold zfZ;cases h:zhV c with
 | false=>exact jX 0
 | true =>
  have:=(zzJ h).2.1.2;unfold zfZ at this
  rwa [h] at this
theorem z1o (c:Cur)(h:∃N,Ends (fun a=>∃s v0,a=(AV.agg (zbx s) :: [aS (.sl (.sl .ins)) v0])/\(s.b=c.b/\0<=s.i)/\(1<=v0.length/\v0.length<=2/\∀p∈v0,1<=p.length/\p.length<=2/\∀x∈p,zc4 x=true)) (znR N c)):zhV c=true:=by
 obtain ⟨N,a,e,s,v0,rfl,h⟩:=h;exact zbe ⟨s,v0,⟨N,e⟩,h⟩
def zrX:List CV->List AV->Option (Bool×List CV×List AV)
 | [.s .u8 b,.i .i64 c,.i .i64 d],[]=>some ((zhV (⟨b,c,d⟩:Cur)),zbx (zfZ (⟨b,c,d⟩:Cur)),[aS (.sl (.sl .ins)) (zpZ (⟨b,c,d⟩:Cur))])
 | _,_=>none
theorem zVI (c:Cur)(hb:zbD big (.agg (zbx c) :: []))(hc:zhV c=true):∃N,znR N c=some (.agg (zbx (zfZ c)) :: [aS (.sl (.sl .ins)) (zpZ c)]):=by
 exact (zzJ hc).1
theorem zOC:zdx Tryz.prog 47 [false,true,true] zrX:=by
 refine zbT (zcT zeg zbg zWc zo) (zd2 (by kernel_rfl)) ?_
 intro cs avs cs' rs hl hr h;have hb:=zce hr;unfold zrX at h;split at h
 .obtain ⟨hc,rfl,rfl⟩:=zct h;obtain ⟨N,hN⟩:=zVI _ (by exact hb) hc
  exact ⟨rfl,_,N,12,(zYg N _ ).trans hN⟩
 .cases h
theorem z6B {c:Cur}(h:zdK c):zhV c=true:=by
 refine z1o c ⟨3,?_⟩;unfold znR oN
 conv=>zeta
 exact zXd h (P:=fun p=>1<=p.length/\p.length<=2/\∀x∈p,zc4 x=true) (fc:=zfh) (fs:=zeB) (fv:=zlP) (R:=fun s l=>AV.agg (zbx s) :: [aS (.sl (.sl .ins)) l]) zZo zWv (fun h=>(zuA (zZo h)).2.2) (fun s l hb hi h1 h2 hl=>⟨s,l,rfl,⟨hb,hi⟩,h1,h2,hl⟩) (fun rec t i k l=>rfl)
def z1b:zdy:=[(47,([false,true,true],zrX))]++z1a
theorem zWd:zcv z1b:=zdV zWc (by
 intro x hx;simp only[qI,qU,or_false]at hx;rcases hx with rfl
 .exact zOC)
theorem zEw {ρ:Type}{G:ρ->Prop}{x:Bool}{a b:Option ρ}(k:Ends G a)(h:x=true:=by first
 | exact zik (by first|assumption|exact zfy (by assumption) (zcz _ _)|exact zfy (by assumption) (zia _ _)|exact zfy (by assumption) (zlN _ _)) _
 | exact zV6 (by first|assumption|exact zfy (by assumption) (zcz _ _)|exact zfy (by assumption) (zia _ _)) _
 | exact zMF (by first|assumption|exact zfy (by assumption) (zcz _ _)) (by simp)):Ends G (cond x a b):=zbK h k
def znQ (N:Nat)(c:Cur)  : OA :=
 let y5:=(zV c 4);let y0:=({ (zC c 4) with b:=c.b }:Cur);let y4:=(zkO y0 4);let y3:=(zcs y0 4);let y1:=({ y3 with b:=c.b }:Cur);let y2:=({ (zcs y1 2) with b:=c.b }:Cur); (oN (zT c 4) (oN (zeA y0 4) (cond (nB y4) (cond (ine y5 2) (oN (zeA y1 2) (cond (zkO y1 2) (oN (zT y2 256) (some [(.agg [(.s .u8 c.b),(.i .i64 (zC y2 256).i),(.i .i64 (zC y2 256).h)]),(.agg [(.i .i64 y5),(.i .i64 (zV y2 256)),(.b (nB y4))])])) (some [(.agg [(.s .u8 c.b),(.i .i64 (zcs y1 2).i),(.i .i64 (zcs y1 2).h)]),(.agg [(.i .i64 y5),(.i .i64 0),(.b (nB y4))])]))) (some [(.agg [(.s .u8 c.b),(.i .i64 y3.i),(.i .i64 y3.h)]),(.agg [(.i .i64 y5),(.i .i64 0),(.b (nB y4))])])) (some [(.agg [(.s .u8 c.b),(.i .i64 y3.i),(.i .i64 y3.h)]),(.agg [(.i .i64 y5),(.i .i64 0),(.b (nB y4))])]))))
theorem zYf (N:Nat)(c:Cur)  : zfN (cQ znX zkB z1b zjm) (zq []) N 12 231 [false,true,true] (zbx c) []=znQ N c:=by kernel_rfl
def zmB (c:Cur)(s:Cur)(v0:Ctl):Prop:=(∃N,znQ N c=some (AV.agg (zbx s) :: [.agg (zCj v0)]))/\(s.b=c.b/\0<=s.i)/\(True)
def zhU (c:Cur)  : Bool:=pc (∃s v0,zmB c s v0)
def zsW (c:Cur)  : Cur×Ctl:=Classical.epsilon fun r=>zmB c r.1 r.2
def zfg (c:Cur)  : Cur:=bif zhU c then (zsW c).1 else ⟨[],0,0⟩
def zkR (c:Cur)  : Ctl:=(zsW c).2
theorem zMT {c:Cur}(h:zhU c=true):zmB c (zfg c) (zkR c):=by
 obtain ⟨s,v0,h2⟩:=zD.1 h;have h3:zmB c (zsW c).1 (zsW c).2:=Classical.epsilon_spec (p:=fun r=>zmB c r.1 r.2) ⟨(s,v0),h2⟩;unfold zfg;rw[h,cT];exact h3
theorem z1m (c:Cur)  : 0<=(zfg c).i:=by
 unfold zfg;cases h:zhU c with
 | false=>exact jX 0
 | true =>
  have:=(zMT h).2.1.2;unfold zfg at this
  rwa [h] at this
theorem z1l (c:Cur)(h:∃N,Ends (fun a=>∃s v0,a=(AV.agg (zbx s) :: [.agg (zCj v0)])/\(s.b=c.b/\0<=s.i)/\(True)) (znQ N c)):zhU c=true:=by
 obtain ⟨N,a,e,s,v0,rfl,h⟩:=h;exact zbe ⟨s,v0,⟨N,e⟩,h⟩
def zrW:List CV->List AV->Option (Bool×List CV×List AV)
 | [.s .u8 b,.i .i64 c,.i .i64 d],[]=>some ((zhU (⟨b,c,d⟩:Cur)),zbx (zfg (⟨b,c,d⟩:Cur)),[.agg (zCj (zkR (⟨b,c,d⟩:Cur)))])
 | _,_=>none
theorem zVH (c:Cur)(hb:zbD big (.agg (zbx c) :: []))(hc:zhU c=true):∃N,znQ N c=some (.agg (zbx (zfg c)) :: [.agg (zCj (zkR c))]):=by
 exact (zMT hc).1
theorem zOB:zdx Tryz.prog 231 [false,true,true] zrW:=by
 refine zbT (zcT zeg zbg zWd zo) (zd2 (by kernel_rfl)) ?_
 intro cs avs cs' rs hl hr h;have hb:=zce hr;unfold zrW at h;split at h
 .obtain ⟨hc,rfl,rfl⟩:=zct h;obtain ⟨N,hN⟩:=zVH _ (by exact hb) hc
  exact ⟨rfl,_,N,12,(zYf N _ ).trans hN⟩
 .cases h
theorem zbaN {c:Cur}(h:zdK c):zhU c=true:=by
 refine z1l c ⟨0,?_⟩;unfold znQ oN nB
 conv=>zeta
 refine zEw (zEw (zdo (fun _=>zdo (fun _=>zEw (zdo (fun _=>zEw (?_)) (fun _=>?_))) (fun _=>?_)) (fun _=>?_)))
 all_goals exact zld (fun x=>AV.agg (zCj x)) (v:=⟨_,_,_⟩) (by first|exact zcz _ _|exact zia _ _) trivial
def z1c:zdy:=[(231,([false,true,true],zrW))]++z1b
theorem zJb:zcv z1c:=zdV zWd (by
 intro x hx;simp only[qI,qU,or_false]at hx;rcases hx with rfl
 .exact zOB)
theorem zdP {ρ:Type}{G:ρ->Prop}{x:Bool}{a b:Option ρ}(k:Ends G a)(h:x=true:=by first
 | exact zik (by first|assumption|exact zfy (by assumption) (zcz _ _)|exact zfy (by assumption) (zlN _ _)) _
 | exact zMF (by first|assumption|exact zfy (by assumption) (zcz _ _)) (by simp)
 | exact zbaN (zfy (by assumption) (zcz _ _))):Ends G (cond x a b):=zbK h k
def znS (N:Nat)(c:Cur)  : OA :=
 let y13:=({ (zC c 2) with b:=c.b }:Cur);let y8:=(zV c 2);let y2:=(zV y13 2);let y1:=({ (zC y13 2) with b:=c.b }:Cur);let y10:=(zC y1 24);let y5:=(zV y1 24);let y0:=({ y10 with b:=c.b }:Cur);let y14:=(zC y0 8);let y12:=({ (zC y0 4) with b:=c.b }:Cur);let y11:=({ y14 with b:=c.b }:Cur);let y9:=({ (zC y0 16) with b:=c.b }:Cur);let y7:=({ (zbE y0 [16,17]) with b:=c.b }:Cur);let y6:=({ (zbE y0 [13,13,14,15]) with b:=c.b }:Cur);let y4:=({ (zC y11 4) with b:=c.b }:Cur);let y3:=({ (zC y12 8) with b:=c.b }:Cur); (share (oN (zcD y0 [13,13,14,15]) (oN (zT y6 8) (some [(.agg [(.s .u8 c.b),(.i .i64 (zC y6 8).i),(.i .i64 (zC y6 8).h)]),(.agg [(.i .i64 (zdM y0 [13,13,14,15])),(.i .i64 y8),(.i .i64 y2),(.i .i64 (zV y6 8)),(.i .i64 0),(.i .i64 0)])]))) (fun t5=>(share (cond (ieq y5 16) (oN (zcD y0 [16,17]) (oN (zT y7 4) (some [(.agg [(.s .u8 c.b),(.i .i64 (zC y7 4).i),(.i .i64 (zC y7 4).h)]),(.agg [(.i .i64 (zdM y0 [16,17])),(.i .i64 y8),(.i .i64 y2),(.i .i64 (zV y7 4)),(.i .i64 0),(.i .i64 0)])]))) (some [(.agg [(.s .u8 c.b),(.i .i64 y10.i),(.i .i64 y10.h)]),(.agg [(.i .i64 1),(.i .i64 y8),(.i .i64 y2),(.i .i64 0),(.i .i64 0),(.i .i64 0)])])) (fun t4=>(share (oN (zT y0 4) (oN (zT y12 8) (oN (zcD y3 [3,3,1,2]) (some [(.agg [(.s .u8 c.b),(.i .i64 (zbE y3 [3,3,1,2]).i),(.i .i64 (zbE y3 [3,3,1,2]).h)]),(.agg [(.i .i64 2),(.i .i64 y8),(.i .i64 y2),(.i .i64 (zV y0 4)),(.i .i64 (zV y12 8)),(.i .i64 (zdM y3 [3,3,1,2]))])])))) (fun t3=>(share (oN (zT y0 4) (some [(.agg [(.s .u8 c.b),(.i .i64 (zC y0 4).i),(.i .i64 (zC y0 4).h)]),(.agg [(.i .i64 3),(.i .i64 y8),(.i .i64 y2),(.i .i64 (zV y0 4)),(.i .i64 0),(.i .i64 0)])])) (fun t2=>(share (cond (ieq y5 7) (oN (zT y0 8) (some [(.agg [(.s .u8 c.b),(.i .i64 y14.i),(.i .i64 y14.h)]),(.agg [(.i .i64 6),(.i .i64 y8),(.i .i64 y2),(.i .i64 (zV y0 8)),(.i .i64 0),(.i .i64 0)])])) (cond (ieq y5 8) (oN (zhU y0) (cond ((zkR y0).Open) (some [(.agg [(.s .u8 c.b),(.i .i64 (zfg y0).i),(.i .i64 (zfg y0).h)]),(.agg [(.i .i64 7),(.i .i64 y8),(.i .i64 y2),(.i .i64 (zkR y0).Traps),(.i .i64 (zkR y0).Post),(.i .i64 1)])]) (some [(.agg [(.s .u8 c.b),(.i .i64 (zfg y0).i),(.i .i64 (zfg y0).h)]),(.agg [(.i .i64 7),(.i .i64 y8),(.i .i64 y2),(.i .i64 (zkR y0).Traps),(.i .i64 (zkR y0).Post),(.i .i64 0)])]))) (cond (ieq y5 9) (oN (zT y0 8) (oN (zT y11 4) (oN (zT y4 100) (some [(.agg [(.s .u8 c.b),(.i .i64 (zC y4 100).i),(.i .i64 (zC y4 100).h)]),(.agg [(.i .i64 8),(.i .i64 y8),(.i .i64 y2),(.i .i64 (zV y0 8)),(.i .i64 (zV y11 4)),(.i .i64 (zV y4 100))])])))) (cond (ieq y5 10) (oN (zT y0 8) (some [(.agg [(.s .u8 c.b),(.i .i64 y14.i),(.i .i64 y14.h)]),(.agg [(.i .i64 9),(.i .i64 y8),(.i .i64 y2),(.i .i64 (zV y0 8)),(.i .i64 0),(.i .i64 0)])])) (cond (ieq y5 11) (some [(.agg [(.s .u8 c.b),(.i .i64 y10.i),(.i .i64 y10.h)]),(.agg [(.i .i64 10),(.i .i64 y8),(.i .i64 y2),(.i .i64 0),(.i .i64 0),(.i .i64 0)])]) (cond (ieq y5 12) (oN (zT y0 16) (oN (zT y9 100) (some [(.agg [(.s .u8 c.b),(.i .i64 (zC y9 100).i),(.i .i64 (zC y9 100).h)]),(.agg [(.i .i64 11),(.i .i64 y8),(.i .i64 y2),(.i .i64 (zV y0 16)),(.i .i64 (zV y9 100)),(.i .i64 0)])]))) (cond (ieq y5 13) (oN (zT y0 16) (some [(.agg [(.s .u8 c.b),(.i .i64 (zC y0 16).i),(.i .i64 (zC y0 16).h)]),(.agg [(.i .i64 12),(.i .i64 y8),(.i .i64 y2),(.i .i64 (zV y0 16)),(.i .i64 0),(.i .i64 0)])])) (cond (ieq y5 14) (cond (ieq y5 14) t5 t4) (cond (ieq y5 15) t5 t4))))))))) (fun t0=>(share (cond (ieq y5 4) (oN (zT y0 100) (some [(.agg [(.s .u8 c.b),(.i .i64 (zC y0 100).i),(.i .i64 (zC y0 100).h)]),(.agg [(.i .i64 4),(.i .i64 y8),(.i .i64 y2),(.i .i64 (zV y0 100)),(.i .i64 0),(.i .i64 0)])])) (cond (ieq y5 5) (cond (ieq y5 5) (some [(.agg [(.s .u8 c.b),(.i .i64 y10.i),(.i .i64 y10.h)]),(.agg [(.i .i64 5),(.i .i64 y8),(.i .i64 y2),(.i .i64 0),(.i .i64 0),(.i .i64 0)])]) t0) (cond (ieq y5 6) (some [(.agg [(.s .u8 c.b),(.i .i64 y10.i),(.i .i64 y10.h)]),(.agg [(.i .i64 5),(.i .i64 y8),(.i .i64 y2),(.i .i64 0),(.i .i64 0),(.i .i64 0)])]) t0))) (fun t1=>(share (cond (ieq y5 2) (cond (ieq y5 2) t2 t1) (cond (ieq y5 3) t2 t1)) (fun t6=>(oN (zT c 2) (oN (zT y13 2) (oN (zT y1 24) (cond (ieq y5 0) (cond (ieq y5 0) t3 t6) (cond (ieq y5 1) t3 t6)))))))))))))))))))
theorem zYi (N:Nat)(c:Cur)  : zfN (cQ znX zkB z1c zjm) (zq []) N 12 127 [false,true,true] (zbx c) []=znS N c:=by kernel_rfl
def zmE (c:Cur)(s:Cur)(v0:GAct):Prop:=(∃N,znS N c=some (AV.agg (zbx s) :: [aT .act v0]))/\(s.b=c.b/\0<=s.i)/\(True)
def zfk (c:Cur)  : Bool:=pc (∃s v0,zmE c s v0)
def zsZ (c:Cur)  : Cur×GAct:=Classical.epsilon fun r=>zmE c r.1 r.2
def zdY (c:Cur)  : Cur:=bif zfk c then (zsZ c).1 else ⟨[],0,0⟩
def zkT (c:Cur)  : GAct:=(zsZ c).2
theorem zMU {c:Cur}(h:zfk c=true):zmE c (zdY c) (zkT c):=by
 obtain ⟨s,v0,h2⟩:=zD.1 h;have h3:zmE c (zsZ c).1 (zsZ c).2:=Classical.epsilon_spec (p:=fun r=>zmE c r.1 r.2) ⟨(s,v0),h2⟩;unfold zdY;rw[h,cT];exact h3
theorem z1r (c:Cur)  : 0<=(zdY c).i:=by
 unfold zdY;cases h:zfk c with
 | false=>exact jX 0
 | true =>
  have:=(zMU h).2.1.2;unfold zdY at this
  rwa [h] at this
theorem z1q (c:Cur)(h:∃N,Ends (fun a=>∃s v0,a=(AV.agg (zbx s) :: [aT .act v0])/\(s.b=c.b/\0<=s.i)/\(True)) (znS N c)):zfk c=true:=by
 obtain ⟨N,a,e,s,v0,rfl,h⟩:=h;exact zbe ⟨s,v0,⟨N,e⟩,h⟩
def zrY:List CV->List AV->Option (Bool×List CV×List AV)
 | [.s .u8 b,.i .i64 c,.i .i64 d],[]=>some ((zfk (⟨b,c,d⟩:Cur)),zbx (zdY (⟨b,c,d⟩:Cur)),[aT .act (zkT (⟨b,c,d⟩:Cur))])
 | _,_=>none
theorem zVM (c:Cur)(hb:zbD big (.agg (zbx c) :: []))(hc:zfk c=true):∃N,znS N c=some (.agg (zbx (zdY c)) :: [aT .act (zkT c)]):=by
 exact (zMU hc).1
theorem zOG:zdx Tryz.prog 127 [false,true,true] zrY:=by
 refine zbT (zcT zeg zbg zJb zo) (zd2 (by kernel_rfl)) ?_
 intro cs avs cs' rs hl hr h;have hb:=zce hr;unfold zrY at h;split at h
 .obtain ⟨hc,rfl,rfl⟩:=zct h;obtain ⟨N,hN⟩:=zVM _ (by exact hb) hc
  exact ⟨rfl,_,N,12,(zYi N _ ).trans hN⟩
 .cases h
theorem zbaK {c:Cur}(h:zdK c):zfk c=true:=by
 refine z1q c ⟨0,?_⟩;unfold znS oN
 conv=>zeta
 refine zmX (zdP (zdP (?_))) (fun _ ht5=>zmX (zdo (fun _=>zdP (zdP (?_))) (fun _=>?_)) (fun _ ht4=>zmX (zdP (zdP (zdP (?_)))) (fun _ ht3=>zmX (zdP (?_)) (fun _ ht2=>zmX (zdo (fun _=>zdP (?_)) (fun _=>zdo (fun _=>zdP (zdo (fun _=>?_) (fun _=>?_))) (fun _=>zdo (fun _=>zdP (zdP (zdP (?_)))) (fun _=>zdo (fun _=>zdP (?_)) (fun _=>zdo (fun _=>?_) (fun _=>zdo (fun _=>zdP (zdP (?_))) (fun _=>zdo (fun _=>zdP (?_)) (fun _=>zdo (fun _=>zdo (fun _=>ht5) (fun _=>ht4)) (fun _=>zdo (fun _=>ht5) (fun _=>ht4)))))))))) (fun _ ht0=>zmX (zdo (fun _=>zdP (?_)) (fun _=>zdo (fun _=>zdo (fun _=>?_) (fun _=>ht0)) (fun _=>zdo (fun _=>?_) (fun _=>ht0)))) (fun _ ht1=>zmX (zdo (fun _=>zdo (fun _=>ht2) (fun _=>ht1)) (fun _=>zdo (fun _=>ht2) (fun _=>ht1))) (fun _ ht6=>zdP (zdP (zdP (zdo (fun _=>zdo (fun _=>ht3) (fun _=>ht6)) (fun _=>zdo (fun _=>ht3) (fun _=>ht6))))))))))))
 all_goals exact zld (aT .act) (v:=⟨_,_,_,_,_,_⟩) (by first|exact zcz _ _|exact zlN _ _|exact z1m _) trivial
def zkf (N:Nat)  : OA :=
 (iter (σ:=(Int×(lA×Unit))) N (fun r1 s2=>(cond (ilt s2.1 2) (iter (σ:=(Int×(Int×(lA×Unit)))) N (fun r3 s4=>(cond (ilt s4.2.1 2) (iter (σ:=(Int×(Int×(Int×(lA×Unit))))) N (fun r5 s6=>let y0:=(ap s6.2.2.2.1 [(⟨2,s6.1,s6.2.1,s6.2.2.1,(zG .i64 s6.2.2.1 (zlX .i64 3 s6.2.1)),3⟩:GAct),(⟨3,s6.1,s6.2.1,s6.2.2.1,0,0⟩:GAct)]); (cond (ilt s6.2.2.1 3) (oN (few (ln y0)) (r5 (s6.1,(s6.2.1,((zG .i64 s6.2.2.1 1),(y0,())))))) (r3 (s6.1,((zG .i64 s6.2.1 1),(s6.2.2.2.1,())))))) (s4.1,(s4.2.1,(0,(s4.2.2.1,()))))) (r1 ((zG .i64 s4.1 1),(s4.2.2.1,()))))) (s2.1,(0,(s2.2.1,())))) (some [(aS .act s2.2.1)]))) (0,([],())))
def zP3:FuncId->Nat->Option Tmpl:=zq [(126,0,{ n:=34,tm:=[(1,.sl 0 []),(2,ti)],lo:=[],ro:=[(0,.act,true)] }),(126,2,{ n:=34,tm:=[(1,.sl 0 []),(2,ti),(3,ti)],lo:=[],ro:=[(0,.act,true)] }),(126,4,{ n:=34,tm:=[(1,.sl 0 []),(2,ti),(3,ti),(4,ti)],lo:=[],ro:=[(0,.act,true)] })]
def zjE  (v0:List GAct):Prop:=(∃N,zkf N=some [aS .act v0])/\(v0.length<=45)
def ziL  : Bool:=pc (∃v0,zjE v0)
def zEb  : List GAct:=Classical.epsilon fun r=>zjE r
def zs6  : List GAct:=(zEb)
theorem zEa  (h:ziL=true):zjE zs6:=by
 obtain ⟨v0,h2⟩:=zD.1 h;have h3:zjE (zEb):=Classical.epsilon_spec (p:=fun r=>zjE r) ⟨v0,h2⟩;exact h3
theorem zWw  (h:∃N,Ends (fun a=>∃v0,a=[aS .act v0]/\(v0.length<=45)) (zkf N)):ziL=true:=by
 obtain ⟨N,a,e,v0,rfl,h⟩:=h;exact zbe ⟨v0,⟨N,e⟩,h⟩
def zyj:Run:=rF0 (ziL,[aS .act zs6])
theorem zPt  (hc:ziL=true):∃N,zkf N  = some [aS .act zs6]:=by
 exact (zEa hc).1
theorem zIF:u3 126 zyj:=kF0 zeg zbg zJb zo zP3 zPt
def z1V:List GAct:=match zkf 10 with
 | some [.one (.s .act l)]=>l
 | _=>[]
theorem zYU:ziL=true:=zWw ⟨10,_,(by kernel_rfl:zkf 10=some [aS .act z1V]),z1V,rfl,Nat.le_of_ble_eq_true (by kernel_rfl)⟩
def z1d:zdy:=[(127,([false,true,true],zrY))]++z1c
theorem zWe:zcv z1d:=zdV zJb (by
 intro x hx;simp only[qI,qU,or_false]at hx;rcases hx with rfl
 .exact zOG)
def z14:zQ:=[(126,zyj)]++znX
theorem z15:zI z14:=zh zIF zeg
theorem zQ4 {c:Cur}(h:zdK c){m:Int}(h0:0<=m)(hm:m<=1000){G:Ans->Prop}{R:Cur->List GAct->Ans}(hG:∀s l,s.b=c.b->0<=s.i->ln l<=45+m->G (R s l)){F:(Int×Int×Int×Int×List GAct×List Int×Unit->OA)->Int×Int×Int×Int×List GAct×List Int×Unit->OA}(hF:∀rec t i k l,F rec (m,t,i,k,l,c.b,())=bif zT ⟨c.b,i,k⟩ (zG .i64 m 1) then (bif ilt t (zV ⟨c.b,i,k⟩ (zG .i64 m 1)) then (bif zfk { zC ⟨c.b,i,k⟩ (zG .i64 m 1) with b:=c.b } then (bif few (ln (ap l [zkT { zC ⟨c.b,i,k⟩ (zG .i64 m 1) with b:=c.b }])) then
        rec (m,zG .i64 t 1,(zdY { zC ⟨c.b,i,k⟩ (zG .i64 m 1) with b:=c.b }).i,(zdY { zC ⟨c.b,i,k⟩ (zG .i64 m 1) with b:=c.b }).h,ap l [zkT { zC ⟨c.b,i,k⟩ (zG .i64 m 1) with b:=c.b }],c.b,()) else none) else none) else some (R ⟨c.b,(zC ⟨c.b,i,k⟩ (zG .i64 m 1)).i,(zC ⟨c.b,i,k⟩ (zG .i64 m 1)).h⟩ l)) else none){i0 k0:Int}(hi0:0<=i0){l0:List GAct}(hl0:l0.length<=45):Ends G (iter 1002 F (m,0,i0,k0,l0,c.b,())):=by
 refine zxn (fun n s=>s.1=m/\s.2.1+(n:Int)=1000/\0<=s.2.1/\0<=s.2.2.1/\(ln s.2.2.2.2.1<=45+s.2.1/\s.2.1<=m)/\s.2.2.2.2.2.1=c.b) ?_ 1002 1000 _ ⟨rfl,rfl,jX 0,hi0,⟨by unfold ln;show ((l0.length:Nat):Int)<=45+0;omega,h0⟩,rfl⟩ (by omega)
 rintro n ⟨q,t,i,k,l,b,u⟩ rec ⟨h0,h1,h2,h3,⟨h5,hq⟩,h6⟩ hrec
 dsimp only at h0 h1 h2 h3 h5 h6 hq
 subst h6;subst h0;rw[hF];have hcur:zdK ⟨c.b,i,k⟩:=zfy h h3;have hw:=znL (x:=q) (y:=1) (by omega) (by omega) (by omega) (by omega)
 have hx:=zmU hcur (n:=zG .i64 q 1) (by omega)
 have h7:zdK { zC ⟨c.b,i,k⟩ (zG .i64 q 1) with b:=c.b }:=zfy h (zcz _ _);refine zbK (zik hcur _) (zdo (fun hc=>?_) (fun hc=>?_))
 .have hlt:t<zV ⟨c.b,i,k⟩ (zG .i64 q 1):=qD hc;have ht:=znL (y:=1) h2 (by omega) (by omega) (by omega)
  refine zbK (zbaK h7) (zbK (zxo (by rw[zqo];omega)) (hrec (n-1) _ (by omega) ⟨rfl,?_,?_,z1r _,⟨?_,?_⟩,rfl⟩))
  .show zG .i64 t 1+_=1000
   omega
  .show 0<=zG .i64 t 1
   omega
  .show ln (ap l [_])<=45+zG .i64 t 1
   rw[zqo];omega
  .show zG .i64 t 1<=q
   omega
 .refine zKK (hG _ l rfl (zcz _ _) ?_);omega
def zl3 (N:Nat)(c:Cur)(a0:Int):OA:=
 (oN (zeA c 5) (cond (nB (zkO c 5)) (oN ziL (iter (σ:=(Int×(Int×(Int×(Int×(lA×((List Int)×Unit))))))) N (fun r3 s4=>let y6:=s4.2.2.2.2.2.1;let y4:=(zG .i64 s4.1 1);let y2:=(⟨y6,s4.2.2.1,s4.2.2.2.1⟩:Cur);let y0:=({ (zC y2 y4) with b:=y6 }:Cur);let y8:=(ap s4.2.2.2.2.1 [(zkT y0)]); (oN (zT y2 y4) (cond (ilt s4.2.1 (zV y2 y4)) (oN (zfk y0) (oN (few (ln y8)) (r3 (s4.1,((zG .i64 s4.2.1 1),((zdY y0).i,((zdY y0).h,(y8,(y6,()))))))))) (some [(.agg [(.s .u8 y6),(.i .i64 (zC y2 y4).i),(.i .i64 (zC y2 y4).h)]),(aS .act s4.2.2.2.2.1)])))) (a0,(0,((zcs c 5).i,((zcs c 5).h,(zs6,(c.b,())))))))) (iter (σ:=(Int×(Int×(Int×(Int×(lA×((List Int)×Unit))))))) N (fun r3 s4=>let y7:=s4.2.2.2.2.2.1;let y5:=(zG .i64 s4.1 1);let y3:=(⟨y7,s4.2.2.1,s4.2.2.2.1⟩:Cur);let y1:=({ (zC y3 y5) with b:=y7 }:Cur);let y9:=(ap s4.2.2.2.2.1 [(zkT y1)]); (oN (zT y3 y5) (cond (ilt s4.2.1 (zV y3 y5)) (oN (zfk y1) (oN (few (ln y9)) (r3 (s4.1,((zG .i64 s4.2.1 1),((zdY y1).i,((zdY y1).h,(y9,(y7,()))))))))) (some [(.agg [(.s .u8 y7),(.i .i64 (zC y3 y5).i),(.i .i64 (zC y3 y5).h)]),(aS .act s4.2.2.2.2.1)])))) (a0,(0,((zcs c 5).i,((zcs c 5).h,([],(c.b,())))))))))
def zTi:FuncId->Nat->Option Tmpl:=zq [(48,0,{ n:=26,tm:=[(0,.lp 0 0),(1,ti),(5,.sl 0 []),(6,ti)],lo:=[(0,[.sl 1 [],ti,ti])],ro:=[(0,.act,true),(1,.u8,false)] })]
theorem zV5 (N:Nat)(c:Cur)(a0:Int):zfN (cQ z14 zkB z1d zjm) zTi N 12 48 [false,true,true] (zbx c) [aI a0]=zl3 N c a0:=by kernel_rfl
def zkU (c:Cur)(a0:Int)(s:Cur)(v0:List GAct):Prop:=(∃N,zl3 N c a0=some (AV.agg (zbx s) :: [aS .act v0]))/\(s.b=c.b/\0<=s.i)/\(ln v0<=45+a0)
def zgT (c:Cur)(a0:Int):Bool:=pc (∃s v0,zkU c a0 s v0)
def zqX (c:Cur)(a0:Int):Cur×List GAct:=Classical.epsilon fun r=>zkU c a0 r.1 r.2
def zf0 (c:Cur)(a0:Int):Cur:=bif zgT c a0 then (zqX c a0).1 else ⟨[],0,0⟩
def znG (c:Cur)(a0:Int):List GAct:=(zqX c a0).2
theorem zwV {c:Cur}{a0:Int}(h:zgT c a0=true):zkU c a0 (zf0 c a0) (znG c a0):=by
 obtain ⟨s,v0,h2⟩:=zD.1 h;have h3:zkU c a0 (zqX c a0).1 (zqX c a0).2:=Classical.epsilon_spec (p:=fun r=>zkU c a0 r.1 r.2) ⟨(s,v0),h2⟩;unfold zf0;rw[h,cT];exact h3
theorem zYv (c:Cur)(a0:Int):0<=(zf0 c a0).i:=by
 unfold zf0;cases h:zgT c a0 with
 | false=>exact jX 0
 | true =>
  have:=(zwV h).2.1.2;unfold zf0 at this
  rwa [h] at this
theorem zYu (c:Cur)(a0:Int)(h:∃N,Ends (fun a=>∃s v0,a=(AV.agg (zbx s) :: [aS .act v0])/\(s.b=c.b/\0<=s.i)/\(ln v0<=45+a0)) (zl3 N c a0)):zgT c a0=true:=by
 obtain ⟨N,a,e,s,v0,rfl,h⟩:=h;exact zbe ⟨s,v0,⟨N,e⟩,h⟩
def zpF:List CV->List AV->Option (Bool×List CV×List AV)
 | [.s .u8 b,.i .i64 c,.i .i64 d],[.one (.i .i64 e)]=>some ((zgT (⟨b,c,d⟩:Cur) e),zbx (zf0 (⟨b,c,d⟩:Cur) e),[aS .act (znG (⟨b,c,d⟩:Cur) e)])
 | _,_=>none
theorem zS0 (c:Cur)(a0:Int)(hb:zbD big (.agg (zbx c) :: [aI a0]))(hc:zgT c a0=true):∃N,zl3 N c a0=some (.agg (zbx (zf0 c a0)) :: [aS .act (znG c a0)]):=by
 exact (zwV hc).1
theorem zLR:zdx Tryz.prog 48 [false,true,true] zpF:=by
 refine zbT (zcT z15 zbg zWe zo) (zd2 (by kernel_rfl)) ?_
 intro cs avs cs' rs hl hr h;have hb:=zce hr;unfold zpF at h;split at h
 .obtain ⟨hc,rfl,rfl⟩:=zct h;obtain ⟨N,hN⟩:=zS0 _ _ (by exact hb) hc
  exact ⟨rfl,_,N,12,(zV5 N _ _ ).trans hN⟩
 .cases h
theorem z1P {c:Cur}(h:zdK c){m:Int}(h0:0<=m)(hm:m<=1000):zgT c m=true:=by
 refine zYu c m ⟨1002,?_⟩;unfold zl3 oN nB
 conv=>zeta
 have g:=zEa zYU;exact zbK (zV6 h 5) (zdo (fun _=>zbK zYU (zQ4 h h0 hm (R:=fun s l=>AV.agg (zbx s) :: [aS .act l]) (fun s l hb hi hl=>⟨s,l,rfl,⟨hb,hi⟩,hl⟩) (fun rec t i k l=>rfl) (zia _ _) g.2)) (fun _=>zQ4 h h0 hm (R:=fun s l=>AV.agg (zbx s) :: [aS .act l]) (fun s l hb hi hl=>⟨s,l,rfl,⟨hb,hi⟩,hl⟩) (fun rec t i k l=>rfl) (zia _ _) (jQ _)))
def z1e:zdy:=[(48,([false,true,true],zpF))]++z1d
theorem zWf:zcv z1e:=zdV zWe (by
 intro x hx;simp only[qI,qU,or_false]at hx;rcases hx with rfl
 .exact zLR)
end
end Go.Proofs.YtdnmkiajccpnoaaGreat.E
