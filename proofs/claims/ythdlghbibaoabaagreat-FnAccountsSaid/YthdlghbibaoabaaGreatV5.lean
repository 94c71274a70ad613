/- What is proved here: a part of the proof that the statement of this claim holds (several texts of wip/, laid together). -/
import Derived.Test.YthdlghbibaoabaaGreatV4
namespace Go.Proofs.YthdlghbibaoabaaGreat.E
open Go
set_option linter.unusedVariables false
set_option maxRecDepth 100000
set_option linter.unusedSimpArgs false
set_option linter.unusedSectionVars false
noncomputable section
def cz (l:List Slot):Nat:=l.countP fun s=>ieq s.Page 0
def zH:List Mon->Nat
 |[]=>0
 |m::l=>cz m.Outer+zH l
def bit (u:List Bool):Nat:=bif ix u 0 false then 1 else 0
theorem zwC (s:Slot)(l:List Slot):cz (s::l)=cz l+bif ieq s.Page 0 then 1 else 0:=by unfold cz;rw[kG];cases ieq s.Page 0<;>rfl
theorem z8C {u:List Bool}{p:Int}(hp:0<=p)(hlt:p.toNat<u.length)(x:Bool):ix (up u p x) 0 false=bif ieq p 0 then x else ix u 0 false:=by unfold ix up;cases h:ieq p 0;{have:p≠0:=(by simpa [ieq] using h);have hne:p.toNat≠0:=(by omega);simp[List.getD,q0,hne]};{have:p=0:=(by simpa [ieq] using h);subst this;have hlt:0<u.length:=hlt;simp[List.getD,q0,hlt]}
theorem zC5:∀(l:List Slot) (u u':List Bool),(∀s∈l,s.Page<12)->u.length=12->zgH l u=some u'->cz l+bit u=bit u'
 |[],u,u',_,_,h=>by cases h;simp[cz]
 |s::l,u,u',hs,hu,h=>by
  simp only[zgH]at h;rw[zwC];cases h1:ilt s.Page 0;{have h1:=jS h1;rw[show ilt s.Page 0=false from qS (by omega)]at h;simp only[cF]at h;cases h2:ix u s.Page false;{rw [h2]at h;simp only[cF]at h;have hlt:s.Page.toNat<u.length:=(by have:=hs s (by simp);omega);have ih:=zC5 l _ u' (fun t ht=>hs t (by simp[ht])) (by simpa using hu) h;have e:bit (up u s.Page true)=bif ieq s.Page 0 then 1 else bit u:=(by unfold bit;rw[z8C (by omega) hlt];cases ieq s.Page 0<;>rfl);rw[e] at ih;cases h3:ieq s.Page 0;{rw [h3] at ih;simp only[cF] at ih ⊢;omega};{have h4:s.Page=0:=(by simpa [ieq] using h3);rw[h4]at h2;have:bit u=0:=(by unfold bit;rw[h2];rfl);rw[h3] at ih;simp only[cT] at ih ⊢;omega}};{rw [h2]at h;cases h}};{have h1':=qE h1;rw[h1]at h;simp only[cT]at h;have ih:=zC5 l u u' (fun t ht=>hs t (by simp[ht])) hu h;have:ieq s.Page 0=false:=(by simp[ieq];omega);rw[this];simpa using ih}
theorem zRW:∀(l:List Mon) (u:List Bool),u.length=12->zjN l u=true->zH l+bit u<=1
 |[],u,_,_=>by unfold zH bit;cases ix u 0 false<;>simp
 |m::l,u,hu,h=>by simp only[zjN]at h;cases h1:zeO m;{rw [h1]at h;cases h};{rw [h1]at h;simp only[cT]at h;cases h2:zgH m.Outer u with|none=>rw[h2]at h;cases h|some u' =>rw[h2]at h;have e:=zC5 _ _ _ (zNb (zps h1)) hu h2;have ih:=zRW l u' ((zr2 _ _ _ h2).trans hu) h;simp only[zH];omega}
theorem zZZ:∀(l:List Slot) (b:Nat) (s:Slot),l[b]?=some s->s.Page=0->cz (l.set b noSlot)+1=cz l
 |[],b,s,h,_=>by simp at h
 |t::l,0,s,h,hs=>by simp only[qI,qC]at h;subst h;rw[List.set_cons_zero,zwC,zwC];have:ieq t.Page 0=true:=(by simp[ieq,hs]);rw[this];rfl
 |t::l,b+1,s,h,hs=>by rw[List.set_cons_succ,zwC,zwC];have:=zZZ l b s (by simpa using h) hs;omega
theorem zUv:∀(l:List Mon) (a:Nat) (x y:Mon),l[a]?=some x->zH (l.set a y)+cz x.Outer=zH l+cz y.Outer
 |[],a,x,y,h=>by simp at h
 |m::l,0,x,y,h=>by simp only[qI,qC]at h;subst h;rw[List.set_cons_zero];simp only[zH];omega
 |m::l,a+1,x,y,h=>by rw[List.set_cons_succ];have:=zUv l a x y (by simpa using h);simp only[zH];omega
theorem zXK {l:List Slot}(h:cz l=0):zmW l 0=none:=by unfold zmW;rw[List.findIdx?_eq_none_iff];intro s hs;have:=(u5.1 h) s hs;simpa using this
theorem zKg:∀(l:List Mon) (i:Nat),zH l=0->zhc 0 l i=(-1,-1)
 |[],_,_=>rfl
 |m::l,i,h=>by simp only[zH]at h;simp only[zhc];rw[zXK (by omega)];exact zKg l (i+1) (by omega)
theorem zXL {l:List Slot}{k:Nat}(h:zmW l 0=some k):∃s,l[k]?=some s/\s.Page=0:=by unfold zmW at h;rw[uX]at h;obtain⟨hlt,h1,_⟩:=h;exact⟨l[k],qB hlt,by simpa [ieq] using h1⟩
theorem zFr:∀(l:List Mon) (i:Nat),zhc 0 l i=(-1,-1)\/∃a b x s,zhc 0 l i=(((i+a:Nat):Int),((b:Nat):Int))/\l[a]?=some x/\x.Outer[b]?=some s/\s.Page=0
 |[],_=>.inl rfl
 |m::l,i=>by
  simp only[zhc];cases h:zmW m.Outer 0 with
  |none=>rcases zFr l (i+1) with h1|⟨a,b,x,s,h1,h2,h3,h4⟩;{exact .inl h1};{refine .inr ⟨a+1,b,x,s,?_,by simpa using h2,h3,h4⟩;have e:i+1+a=i+(a+1):=(by omega);rw[h1,e]}
  |some k=>obtain⟨s,h1,h2⟩:=zXL h;exact .inr ⟨0,k,m,s,rfl,rfl,h1,h2⟩
def Fit (h:Host):Prop:=Shape h/\0<h.Memory.length/\zH h.Mons<=1
theorem zFk {h:Host}(hm:0<h.Memory.length)(ho:ilt (zbx h 0).1 0=true):inb 0 (ln (zb3 h))=true:=by unfold zb3;obtain⟨n,hn⟩:∃n,h.Memory.length=n+1:=⟨h.Memory.length-1,by omega⟩;rw[hn];simp only[zqM];rw[show ilt (zbx h ((0:Nat):Int)).1 0=true from ho];exact qL (by simp only[cT,ln,qV];omega)
theorem zXQ {h:Host}(hm:0<h.Memory.length)(h0:ieq (ln (zb3 h)) 0=true):ilt (zbx h 0).1 0=false:=by cases ho:ilt (zbx h 0).1 0;{rfl};{have h1:=qE (zFk hm ho);have h2:ln (zb3 h)=0:=(by simpa [ieq] using h0);omega}
def zcY (h:Host):Host:=bif ieq (ln (zb3 h)) 0 then zdc h (zbx h 0).1 (zbx h 0).2 else h
structure Room (h r:Host):Prop where
 shape:Shape r
 free:inb 0 (ln (zb3 r))=true
 len:r.Mons.length=h.Mons.length
 outer:∀m,(ix r.Mons m mZ).Outer.length=8\/True
theorem z0R {h:Host}(hf:Fit h)(h0:ieq (ln (zb3 h)) 0=true):∃(a b:Nat) (x:Mon) (s:Slot),zbx h 0=((a:Int),(b:Int))/\h.Mons[a]?=some x/\x.Outer[b]?=some s/\s.Page=0:=by have h1:=zXQ hf.2.1 h0;have e:zbx h 0=zhc 0 h.Mons 0:=rfl;rcases zFr h.Mons 0 with h2|⟨a,b,x,s,h2,h3⟩;{rw [e,h2]at h1;cases h1};{exact⟨a,b,x,s,by rw[e,h2,jU],h3⟩}
theorem zDz {h:Host}(hf:Fit h)(h0:ieq (ln (zb3 h)) 0=true):hasB (zbx h 0).1 (ln h.Mons)=true/\hasB (zbx h 0).2 8=true:=by obtain⟨a,b,x,s,h1,h2,h3,h4⟩:=z0R hf h0;rw[h1];have ha:=(qA.1 h2).1;have hb:=(qA.1 h3).1;have hx:=hf.1.2 x (qH h2);refine⟨qL (by simp only[ln];omega),qL ?_⟩;have:=hx.1;show 0<=(b:Int)/\(b:Int)<8;omega
theorem room {h:Host}(hf:Fit h):Room h (zcY h):=by unfold zcY;cases h0:ieq (ln (zb3 h)) 0;{refine⟨hf.1,qL ?_,rfl,fun _=>.inr trivial⟩;have:ln (zb3 h)≠0:=(by simpa [ieq] using h0);show 0<=(0:Int)/\(0:Int)<ln (zb3 h);simp only[ln] at *;omega};{obtain⟨hm,hp⟩:=zDz hf h0;obtain⟨a,b,x,s,h1,h2,h3,h4⟩:=z0R hf h0;simp only[cT];rw[h1]at hm hp ⊢;have ha:=(qA.1 h2).1;have hb:=(qA.1 h3).1;have hxa:ix h.Mons (a:Int) mZ=x:=(by rw[zbA ha];exact(qA.1 h2).2);have hmons:=(zfD (zeb h (a:Int) (b:Int)) (a:Int) (b:Int) noSlot).1;have ex:ix (zeb h (a:Int) (b:Int)).Mons (a:Int) mZ={x with Out:=up x.Out (b:Int) (zck h.Memory (ix x.Outer (b:Int) sZ).Page)}:=(by unfold zeb;rw[zdz ha,hxa]);obtain⟨y,hM,hy⟩:∃y,(zdc h (a:Int) (b:Int)).Mons=h.Mons.set a y/\y.Outer=x.Outer.set b noSlot:=(by unfold zdc;rw[hmons,ex];unfold zeb;rw[zvp];exact⟨_,by simp[up];rfl,by simp[up]⟩);have hz:zH (zdc h (a:Int) (b:Int)).Mons=0:=(by have e1:=zUv h.Mons a x y h2;have e2:=zZZ x.Outer b s h3 h4;have e3:=hf.2.2;rw[hM];rw[hy] at e1;omega);have hmem:(zdc h (a:Int) (b:Int)).Memory=h.Memory:=(zfD (zeb h (a:Int) (b:Int)) (a:Int) (b:Int) noSlot).2;refine⟨zKG hf.1 hm,zFk (by rw[hmem];exact hf.2.1) ?_,by rw[hM];simp,fun _=>.inr trivial⟩;have e:zbx (zdc h (a:Int) (b:Int)) 0=zhc 0 (zdc h (a:Int) (b:Int)).Mons 0:=rfl;rw[e,zKg _ _ hz];rfl}
theorem zTP {m:List (List Int)}{p:Int}{c:List Int}(h:SmM m)(hc:c.length<=1048576):SmM (zgI m p c):=by unfold zgI;cases hasB p (ln m);{exact h};{cases zct c;{exact h};{exact zKO h hc}}
def landing (r:Host)(m p to:Int):Host:={r with Memory:=zgI r.Memory to (ix (ix r.Mons m mZ).Out p []),Mons:=up r.Mons m {ix r.Mons m mZ with Out:=up (ix r.Mons m mZ).Out p []}}
def zen (r:Host)(m p to:Int):Host:=zci (landing r m p to) m p ⟨to,3⟩
def fetched (h:Host)(m p:Int):Host:=zen (zcY h) m p (ix (zb3 (zcY h)) 0 0)
theorem zTR {r:Host}{m p:Int}(hr:Shape r)(hm:hasB m (ln r.Mons)=true)(hp:hasB p 8=true):(ix (ix r.Mons m mZ).Out p []).length<=1048576:=by obtain⟨g1,g2⟩:=zcu hr hm;exact g1.2.1.2 _ (zbC (zdk g2.2.1 hp) _)
theorem zrg {r:Host}{m p to:Int}(hr:Shape r)(hm:hasB m (ln r.Mons)=true)(hp:hasB p 8=true):Shape (landing r m p to):=by obtain⟨g1,g2⟩:=zcu hr hm;exact zOP (h:={r with Mons:=up r.Mons m {ix r.Mons m mZ with Out:=up (ix r.Mons m mZ).Out p []}}) (zhA (x:={ix r.Mons m mZ with Out:=up (ix r.Mons m mZ).Out p []}) hr ⟨g1.1,zKO g1.2.1 (by simp),g1.2.2⟩ ⟨g2.1,by simpa using g2.2.1,g2.2.2⟩) (zTP hr.1.1 (zTR hr hm hp))
theorem zQg {r:Host}{m p to:Int}(hr:Shape r)(hm:hasB m (ln r.Mons)=true)(hp:hasB p 8=true):Shape (zen r m p to):=zrh (zd7 hm) (zrg hr hm hp)
theorem zoK {h:Host}(hf:Fit h){m:Int}(hm:hasB m (ln h.Mons)=true):hasB m (ln (zcY h).Mons)=true:=by rw[ln,(room hf).len];exact hm
theorem zi0 {h:Host}{m p:Int}(hf:Fit h)(hm:hasB m (ln h.Mons)=true)(hp:hasB p 8=true):Shape (fetched h m p)/\hasB m (ln (fetched h m p).Mons)=true :=
 ⟨zQg (room hf).shape (zoK hf hm) hp,zFl (zd7 (zoK hf hm))⟩
@[simp] abbrev zvh (h:Host)(m p:Int):Bool:=pc (Fit h/\hasB m (ln h.Mons)=true/\hasB p 8=true)
@[simp] abbrev zxy (h:Host)(m p:Int):Host:=fetched h m p
def zvU:List AV->Option (Bool×List AV)
 |[.agg [.s (.sl .int) b,.s .mon c,.s .entry d,.s .entry e],.one (.i .i64 f),.one (.i .i64 g)]=>some ((zvh (⟨b,c,d,e⟩:Host) f g),[aH (zxy (⟨b,c,d,e⟩:Host) f g)])
 |_=>none
def zA1 (N:Nat)(a0:Host)(a1 a2:Int):OA:=
 let y6:=(ix (zek a0) 0 0);let y2:=(ix a0.Mons a1 zh);let y0:=(zy4 a0 (zfP a0 0) (zhe a0 0));let y5:=(ix (zek y0) 0 0);let y1:=(ix y0.Mons a1 zh); (oN (ziu a0) (cond (ieq (ln (zek a0)) 0) (oN (zjw a0 0) (oN (zr0 a0 (zfP a0 0) (zhe a0 0)) (oN (ziu y0) (oN (inb 0 (ln (zek y0))) (oN (inb a1 (ln y0.Mons)) (oN (inb a2 (ln y1.Out)) (oN (zka y0.Memory y5 (ix y1.Out a2 [])) (oN (inb a1 (ln y0.Mons)) (oN (inb a2 (ln y1.Out)) (share (up y0.Mons a1 ({y1 with Out:=(up y1.Out a2 [])}:Mon)) (fun x4=>let y3:=({y0 with Memory:=(ziy y0.Memory y5 (ix y1.Out a2 [])),Mons:=x4}:Host); (oN (zeC y3 a1 a2 (⟨y5,3⟩:Slot)) (some [(aH (zgi y3 a1 a2 (⟨y5,3⟩:Slot)))]))))))))))))) (oN (ziu a0) (oN (inb 0 (ln (zek a0))) (oN (inb a1 (ln a0.Mons)) (oN (inb a2 (ln y2.Out)) (oN (zka a0.Memory y6 (ix y2.Out a2 [])) (oN (inb a1 (ln a0.Mons)) (oN (inb a2 (ln y2.Out)) (share (up a0.Mons a1 ({y2 with Out:=(up y2.Out a2 [])}:Mon)) (fun x4=>let y4:=({a0 with Memory:=(ziy a0.Memory y6 (ix y2.Out a2 [])),Mons:=x4}:Host); (oN (zeC y4 a1 a2 (⟨y6,3⟩:Slot)) (some [(aH (zgi y4 a1 a2 (⟨y6,3⟩:Slot)))])))))))))))))
theorem zYl (N:Nat)(a0:Host)(a1 a2:Int):zDj (cQ zph zoB zYs zZc) (zy []) N 12 77 [true,true,true,true,false,false] 1 1 [[0],[1],[2],[4],[7]] .mon [aH a0,aI a1,aI a2]=zA1 N a0 a1 a2:=by kernel_rfl
theorem zVk (a0:Host)(a1 a2:Int)(hb:zcP big [aH a0,aI a1,aI a2])(hc:zvh a0 a1 a2=true):∃N,zA1 N a0 a1 a2=some [aH (zxy a0 a1 a2)]:=by
 obtain⟨hf,hm,hp⟩:=zQ.1 hc;have tail:∀r,Shape r->inb 0 (ln (zb3 r))=true->hasB a1 (ln r.Mons)=true->(cond (ziu r) (cond (inb 0 (ln (zek r))) (cond (inb a1 (ln r.Mons)) (cond (inb a2 (ln (ix r.Mons a1 zh).Out)) (cond (zka r.Memory (ix (zek r) 0 0) (ix (ix r.Mons a1 zh).Out a2 [])) (cond (inb a1 (ln r.Mons)) (cond (inb a2 (ln (ix r.Mons a1 zh).Out)) (share (up r.Mons a1 ({ (ix r.Mons a1 zh) with Out:=(up (ix r.Mons a1 zh).Out a2 [])}:Mon)) (fun x4=>(cond (zeC ({r with Memory:=(ziy r.Memory (ix (zek r) 0 0) (ix (ix r.Mons a1 zh).Out a2 [])),Mons:=x4}:Host) a1 a2 (⟨(ix (zek r) 0 0),3⟩:Slot)) (some [(AV.agg (zbj (zgi ({r with Memory:=(ziy r.Memory (ix (zek r) 0 0) (ix (ix r.Mons a1 zh).Out a2 [])),Mons:=x4}:Host) a1 a2 (⟨(ix (zek r) 0 0),3⟩:Slot))))]) none))) none) none) none) none) none) none) none)=some [AV.agg (zbj (zen r a1 a2 (ix (zb3 r) 0 0)))]:=(by intro r hr hfree hrm;obtain⟨g1,g2⟩:=zcu hr hrm;have hL:=zrg (to:=ix (zb3 r) 0 0) hr hrm hp;obtain⟨k,rfl,hk⟩:=zds (n:=r.Mons.length) hrm;refine must (zbN hr.1.1.1) (must hfree (must (zC hrm) (must (zC (zdk g2.2.1 hp)) (must (zbN ⟨hr.1.1,zTR hr hrm hp⟩) (must (zC hrm) (must (zC (zdk g2.2.1 hp)) (shr (must (zbN ⟨(zbb _).2 hL.1,zd7 hrm,?_,?_⟩) rfl))))))));{simp only [zdz hk];exact zdk g2.1 hp};{simp only [zdz hk];exact k5 g2.2.2.2});have hR:=room hf;have hrm:=zoK hf hm;refine⟨0,?_⟩;unfold zA1 zxy fetched oN;conv=>zeta
 refine must (zbN hf.1.1.1.1) ?_;cases h0:ieq (ln (zek a0)) 0;{have er:zcY a0=a0:=(by unfold zcY;rw[show ieq (ln (zb3 a0)) 0=false from h0];rfl);rw[er]at hR hrm ⊢;exact tail a0 hR.shape hR.free hrm};{obtain⟨o1,o2⟩:=zDz hf h0;have er:zcY a0=zdc a0 (zbx a0 0).1 (zbx a0 0).2:=(by unfold zcY;rw[show ieq (ln (zb3 a0)) 0=true from h0];rfl);rw[er]at hR hrm ⊢;exact must rfl (must rfl (must (zbN ⟨hf.1,o1,o2⟩) (tail _ hR.shape hR.free hrm)))}
theorem zPk:zdG Tryz.prog 77 [true,true,true,true,false,false] (some (1,1,[[0],[1],[2],[4],[7]])) zvU:=by refine zkx (kt:=.mon) (zfM zhk zJ zM3 zNg) (zie (by kernel_rfl)) (by kernel_rfl) ?_;intro avs rs hl hr h;have hb:=zhF hr;unfold zvU at h;split at h;{obtain⟨hc,rfl⟩:=zdL h;obtain⟨N,hN⟩:=zVk _ _ _ (by exact hb) hc;exact⟨⟨_,rfl⟩,rfl,_,N,12,(zYl N _ _ _ ).trans hN⟩};{cases h}
@[simp] abbrev zqK (h:Host):Bool:=pc (Shape h/\hasB (zbx h 0).1 (ln h.Mons)=true/\hasB (zbx h 0).2 8=true)
@[simp] abbrev zqL (h:Host):Host:=zdc h (zbx h 0).1 (zbx h 0).2
def zl9:List CV->List AV->Option (Bool×List CV×List AV)
 |[.s (.sl .int) b,.s .mon c,.s .entry d,.s .entry e],[]=>some ((zqK (⟨b,c,d,e⟩:Host)),zbj (zqL (⟨b,c,d,e⟩:Host)),[])
 |_,_=>none
def zqy (N:Nat)(c:Host)  : OA :=
 (oN (zjs c 0) (oN (zG5 c (zfN c 0) (zg6 c 0)) (some [(aH (zG6 c (zfN c 0) (zg6 c 0)))])))
theorem zMX (N:Nat)(c:Host)  : zmV (cQ zph zoB zYs zZc) (zy []) N 12 127 [true,true,true,true] (zbj c) []=zqy N c:=by kernel_rfl
theorem zJQ (c:Host)(hb:zcP big (.agg (zbj c)::[]))(hc:zqK c=true):∃N,zqy N c=some (.agg (zbj (zqL c))::[]):=by have hs:=zQ.1 hc;refine⟨0,?_⟩;unfold zqy oN;exact must rfl (must (zbN hs) rfl)
theorem zDQ:zbM Tryz.prog 127 [true,true,true,true] zl9:=by refine zgq (zfM zhk zJ zM3 zNg) (zie (by kernel_rfl)) ?_;intro cs avs cs' rs hl hr h;have hb:=zjC hr;unfold zl9 at h;split at h;{obtain⟨hc,rfl,rfl⟩:=zlA h;obtain⟨N,hN⟩:=zJQ _ (by exact hb) hc;exact⟨rfl,_,N,12,(zMX N _ ).trans hN⟩};{cases h}
def z3l:zcQ:=[(127,([true,true,true,true],zl9))]++zYs
theorem zWH:zb1 z3l:=zco zM3 (by
 intro x hx;simp only[qF,qP,or_false]at hx;rcases hx with rfl
 .exact zDQ)
def zT2:ze7:=[(77,([true,true,true,true,false,false],(some (1,1,[[0],[1],[2],[4],[7]])),zvU))]++zZc
theorem zDK:zdW zT2:=zo7 zNg (by
 intro x hx;simp only[qF,qP,or_false]at hx;rcases hx with rfl
 .exact zPk)
@[simp] abbrev zBC (h:Host)(m p:Int):Bool:=pc (Fit h/\hasB m (ln h.Mons)=true/\hasB p 8=true)
@[simp] abbrev zuj (h:Host)(m p:Int):Host:=fetched h m p
theorem zXk {r:Host}{m p to:Int}(hr:Shape r)(hm:hasB m (ln r.Mons)=true):zyu {landing r m p to with Mons:=up (landing r m p to).Mons m {ix (landing r m p to).Mons m mZ with Outer:=up (ix (landing r m p to).Mons m mZ).Outer p ⟨to,3⟩}} m p (ix (ix (landing r m p to).Mons m mZ).Outer p sZ)=zen r m p to:=by obtain⟨g1,g2⟩:=zcu hr hm;obtain⟨k,rfl,hk⟩:=zds (n:=r.Mons.length) hm;refine zy7 (h:=landing r (k:Int) p to) (by simpa [landing] using hk) ?_;unfold landing;simp only[zdz hk];exact g2.2.2.2
theorem zVW {r:Host}{m p to:Int}(hr:Shape r)(hm:hasB m (ln r.Mons)=true)(hp:hasB p 8=true):Shape {landing r m p to with Mons:=up (landing r m p to).Mons m {ix (landing r m p to).Mons m mZ with Outer:=up (ix (landing r m p to).Mons m mZ).Outer p ⟨to,3⟩}}:=by have hL:=zrg (to:=to) hr hm hp;obtain⟨q1,q2⟩:=zcu hL (zd7 hm);exact zhA hL ⟨by simpa using q1.1,q1.2⟩ ⟨by simpa using q2.1,q2.2⟩
def zsV:List CV->List AV->Option (Bool×List CV×List AV)
 |[.s (.sl .int) b,.s .mon c,.s .entry d,.s .entry e],[.one (.i .i64 f),.one (.i .i64 g)]=>some ((zBC (⟨b,c,d,e⟩:Host) f g),zbj (zuj (⟨b,c,d,e⟩:Host) f g),[])
 |_,_=>none
def zAH (N:Nat)(c:Host)(a0 a1:Int):OA:=
 let y8:=(ix (zfe c) 0 0);let y6:=(zqL c);let y7:=(ix (zfe y6) 0 0);let y1:=(ix c.Mons a0 zh);let y0:=(ix y6.Mons a0 zh); (oN (zil c) (cond (ieq (ln (zfe c)) 0) (oN (zqK c) (oN (inb a0 (ln y6.Mons)) (oN (zil y6) (oN (inb 0 (ln (zfe y6))) (oN (inb a1 (ln y0.Out)) (oN (zjQ y6.Memory y7 (ix y0.Out a1 [])) (oN (inb a1 (ln y0.Out)) (share (up y6.Mons a0 ({y0 with Out:=(up y0.Out a1 [])}:Mon)) (fun x4=>let y2:=(ix x4 a0 zh);let y9:=(ix y2.Outer a1 zbc); (oN (inb a1 (ln y2.Outer)) (oN (inb a1 (ln y2.Outer)) (share (up x4 a0 ({y2 with Outer:=(up y2.Outer a1 (⟨y7,3⟩:Slot))}:Mon)) (fun x5=>let y4:=({y6 with Memory:=(zim y6.Memory y7 (ix y0.Out a1 [])),Mons:=x5}:Host); (oN (zdR y4 a0 a1 y9) (some [(aH (zdS y4 a0 a1 y9))]))))))))))))))) (oN (inb a0 (ln c.Mons)) (oN (zil c) (oN (inb 0 (ln (zfe c))) (oN (inb a1 (ln y1.Out)) (oN (zjQ c.Memory y8 (ix y1.Out a1 [])) (oN (inb a1 (ln y1.Out)) (share (up c.Mons a0 ({y1 with Out:=(up y1.Out a1 [])}:Mon)) (fun x4=>let y3:=(ix x4 a0 zh);let y10:=(ix y3.Outer a1 zbc); (oN (inb a1 (ln y3.Outer)) (oN (inb a1 (ln y3.Outer)) (share (up x4 a0 ({y3 with Outer:=(up y3.Outer a1 (⟨y8,3⟩:Slot))}:Mon)) (fun x5=>let y5:=({c with Memory:=(zim c.Memory y8 (ix y1.Out a1 [])),Mons:=x5}:Host); (oN (zdR y5 a0 a1 y10) (some [(aH (zdS y5 a0 a1 y10))]))))))))))))))))
theorem zYk (N:Nat)(c:Host)(a0 a1:Int):zmV (cQ zph zoB z3l zT2) (zy []) N 12 71 [true,true,true,true] (zbj c) [aI a0,aI a1]=zAH N c a0 a1:=by kernel_rfl
theorem zU2 (c:Host)(a0 a1:Int)(hb:zcP big (.agg (zbj c)::[aI a0,aI a1]))(hc:zBC c a0 a1=true):∃N,zAH N c a0 a1=some (.agg (zbj (zuj c a0 a1))::[]):=by
 obtain⟨hf,hm,hp⟩:=zQ.1 hc;have tail:∀r,Shape r->inb 0 (ln (zb3 r))=true->hasB a0 (ln r.Mons)=true->(cond (inb a0 (ln r.Mons)) (cond (zil r) (cond (inb 0 (ln (zfe r))) (cond (inb a1 (ln (ix r.Mons a0 zh).Out)) (cond (zjQ r.Memory (ix (zfe r) 0 0) (ix (ix r.Mons a0 zh).Out a1 [])) (cond (inb a1 (ln (ix r.Mons a0 zh).Out)) (share (up r.Mons a0 ({ (ix r.Mons a0 zh) with Out:=(up (ix r.Mons a0 zh).Out a1 [])}:Mon)) (fun x4=>(cond (inb a1 (ln (ix x4 a0 zh).Outer)) (cond (inb a1 (ln (ix x4 a0 zh).Outer)) (share (up x4 a0 ({ (ix x4 a0 zh) with Outer:=(up (ix x4 a0 zh).Outer a1 (⟨(ix (zfe r) 0 0),3⟩:Slot))}:Mon)) (fun x5=>(cond (zdR ({r with Memory:=(zim r.Memory (ix (zfe r) 0 0) (ix (ix r.Mons a0 zh).Out a1 [])),Mons:=x5}:Host) a0 a1 (ix (ix x4 a0 zh).Outer a1 zbc)) (some [(AV.agg (zbj (zdS ({r with Memory:=(zim r.Memory (ix (zfe r) 0 0) (ix (ix r.Mons a0 zh).Out a1 [])),Mons:=x5}:Host) a0 a1 (ix (ix x4 a0 zh).Outer a1 zbc))))]) none))) none) none))) none) none) none) none) none) none)=some [AV.agg (zbj (zen r a0 a1 (ix (zb3 r) 0 0)))]:=(by intro r hr hfree hrm;obtain⟨g1,g2⟩:=zcu hr hrm;have hL:=zVW (to:=ix (zb3 r) 0 0) hr hrm hp;have hE:=zXk (p:=a1) (to:=ix (zb3 r) 0 0) hr hrm;obtain⟨k,rfl,hk⟩:=zds (n:=r.Mons.length) hrm;have hh:∀(x y:Mon),hasB (k:Int) (ln (up (up r.Mons (k:Int) x) (k:Int) y))=true:=fun x y=>(by simpa [ln] using hrm);have hi:inb a1 (ln (ix (up r.Mons (k:Int) {ix r.Mons (k:Int) mZ with Out:=up (ix r.Mons (k:Int) mZ).Out a1 []}) (k:Int) mZ).Outer)=true:=(by rw[zdz hk];exact zC (zdk g2.1 hp));refine must (zC hrm) (must (zbN hr.1.1.1) (must hfree (must (zC (zdk g2.2.1 hp)) (must (zbN ⟨hr.1.1,zTR hr hrm hp⟩) (must (zC (zdk g2.2.1 hp)) (shr (must hi (must hi (shr (must (zbN ⟨hL,hh _ _⟩) ?_))))))))));exact congrArg (fun x=>some [AV.agg (zbj x)]) hE);have hR:=room hf;have hrm:=zoK hf hm;refine⟨0,?_⟩;unfold zAH zuj fetched oN;conv=>zeta
 refine must (zbN hf.1.1.1.1) ?_;cases h0:ieq (ln (zfe c)) 0;{have er:zcY c=c:=(by unfold zcY;rw[show ieq (ln (zb3 c)) 0=false from h0];rfl);rw[er]at hR hrm ⊢;exact tail c hR.shape hR.free hrm};{obtain⟨o1,o2⟩:=zDz hf h0;have er:zcY c=zdc c (zbx c 0).1 (zbx c 0).2:=(by unfold zcY;rw[show ieq (ln (zb3 c)) 0=true from h0];rfl);rw[er]at hR hrm ⊢;exact must rfl (must (zbN ⟨hf.1,o1,o2⟩) (tail _ hR.shape hR.free hrm))}
theorem zO2:zbM Tryz.prog 71 [true,true,true,true] zsV:=by refine zgq (zfM zhk zJ zWH zDK) (zie (by kernel_rfl)) ?_;intro cs avs cs' rs hl hr h;have hb:=zjC hr;unfold zsV at h;split at h;{obtain⟨hc,rfl,rfl⟩:=zlA h;obtain⟨N,hN⟩:=zU2 _ _ _ (by exact hb) hc;exact⟨rfl,_,N,12,(zYk N _ _ _ ).trans hN⟩};{cases h}
def zYt:zcQ:=[(71,([true,true,true,true],zsV))]++z3l
theorem zM4:zb1 zYt:=zco zWH (by
 intro x hx;simp only[qF,qP,or_false]at hx;rcases hx with rfl
 .exact zO2)
def zbF (h:Host)(m p:Int):Host:={h with Mons:=up h.Mons m {ix h.Mons m mZ with Dirty:=up (ix h.Mons m mZ).Dirty p true}}
def opened (h:Host)(m p:Int):Host:=bif ieq (wand .i64 (ix (ix h.Mons m mZ).Outer p sZ).Rights 2) 0 then zci h m p ⟨(ix (ix h.Mons m mZ).Outer p sZ).Page,3⟩ else h
def ziq (h:Host)(m p n:Int):Host:=bif ieq (wand .i64 n 2) 0 then h else opened (zbF h m p) m p
def mended (h:Host)(m p n:Int):Host:=bif ieq (ix (ix h.Mons m mZ).Outer p sZ).Page (-1) then ziq (fetched h m p) m p n else ziq h m p n
theorem z6O {r:Int}(h0:0<=r)(h3:r<=3):enough r 2 = !ieq (wand .i64 r 2) 0:=by have:r=0\/r=1\/r=2\/r=3:=(by omega);rcases this with rfl|rfl|rfl|rfl<;>rfl
structure SlotFit (s:Slot):Prop where
 no:zc3 s noSlot=ieq s.Page (-1)
 lo:0<=s.Rights
 hi:s.Rights<=3
theorem zY3 {s:Slot}{n:Int}(h:zdX s n=true):SlotFit s:=by refine⟨zOR h,?_,?_⟩<;>unfold zdX at h<;>cases h1:zc3 s noSlot;{rw [h1]at h;simp only[cF,zc0]at h;have:=(zfp.1 h.2.2).1;omega};{unfold zc3 at h1;rw[qD]at h1;have:s.Rights=0:=qE h1.2;omega};{rw [h1]at h;simp only[cF,zc0]at h;have:=(zfp.1 h.2.2).2;omega};{unfold zc3 at h1;rw[qD]at h1;have:s.Rights=0:=qE h1.2;omega}
theorem zlW {h:Host}{m p:Int}(hs:Shape h)(hm:hasB m (ln h.Mons)=true):Shape (zbF h m p):=by obtain⟨g1,g2⟩:=zcu hs hm;exact zhA hs ⟨g1.1,g1.2.1,by simpa using g1.2.2.1,g1.2.2.2⟩ ⟨g2.1,g2.2.1,by simpa using g2.2.2.1,g2.2.2.2⟩
theorem zTI {h:Host}{m p:Int}(hs:Shape h)(hm:hasB m (ln h.Mons)=true):Shape (opened h m p)/\hasB m (ln (opened h m p).Mons)=true:=by unfold opened;cases ieq (wand .i64 (ix (ix h.Mons m mZ).Outer p sZ).Rights 2) 0;{exact⟨hs,hm⟩};{exact⟨zrh hm hs,zFl hm⟩}
theorem zFV {h:Host}{m p n:Int}(hs:Shape h)(hm:hasB m (ln h.Mons)=true):Shape (ziq h m p n)/\hasB m (ln (ziq h m p n).Mons)=true:=by unfold ziq;cases ieq (wand .i64 n 2) 0;{exact zTI (zlW hs hm) (zd7 hm)};{exact⟨hs,hm⟩}
theorem ztt {h:Host}{m p n:Int}(hf:Fit h)(hm:hasB m (ln h.Mons)=true)(hp:hasB p 8=true):Shape (mended h m p n)/\hasB m (ln (mended h m p n).Mons)=true:=by unfold mended;cases ieq (ix (ix h.Mons m mZ).Outer p sZ).Page (-1);{exact zFV hf.1 hm};{obtain⟨h1,h2⟩:=zi0 hf hm hp;exact zFV h1 h2}
theorem zRC {h:Host}{m p:Int}(hf:Fit h)(hm:hasB m (ln h.Mons)=true)(hp:hasB p 8=true):(ix (ix (fetched h m p).Mons m mZ).Outer p sZ).Rights=3:=by have hR:=room hf;have hrm:=zoK hf hm;obtain⟨g1,g2⟩:=zcu hR.shape hrm;obtain⟨k,rfl,hk⟩:=zds (n:=(zcY h).Mons.length) hrm;obtain⟨q,rfl,hq⟩:=zds (n:=8) hp;unfold fetched zen;rw[(zfD _ _ _ _).1];have hk':k<(landing (zcY h) (k:Int) (q:Int) (ix (zb3 (zcY h)) 0 0)).Mons.length:=(by simpa [landing] using hk);rw[zdz hk'];have ho:q<(ix (landing (zcY h) (k:Int) (q:Int) (ix (zb3 (zcY h)) 0 0)).Mons (k:Int) mZ).Outer.length:=(by unfold landing;rw[zdz hk];show q<(ix (zcY h).Mons (k:Int) mZ).Outer.length;rw[g2.1];exact hq);show (ix (up (ix (landing (zcY h) (k:Int) (q:Int) (ix (zb3 (zcY h)) 0 0)).Mons (k:Int) mZ).Outer (q:Int) ⟨_,3⟩) (q:Int) sZ).Rights=3;rw[zdz ho]
def zQV (h:Host)(m p n:Int):Prop:=Fit h/\hasB m (ln h.Mons)=true/\hasB p 8=true/\(n=1\/n=2)/\SlotFit (ix (ix h.Mons m mZ).Outer p sZ)
@[simp] abbrev zlz (h:Host)(m p n:Int):Bool:=pc (zQV h m p n)
@[simp] abbrev zmE (h:Host)(m p n:Int):Host:=mended h m p n
def zq0:List AV->Option (Bool×List AV)
 |[.agg [.s (.sl .int) b,.s .mon c,.s .entry d,.s .entry e],.one (.i .i64 f),.one (.i .i64 g),.one (.i .i64 h)]=>some ((zlz (⟨b,c,d,e⟩:Host) f g h),[aH (zmE (⟨b,c,d,e⟩:Host) f g h)])
 |_=>none
def zvy (N:Nat)(a0:Host)(a1 a2 a3:Int):OA:=
 let y3:=(zxy a0 a1 a2);let y6:=(ix y3.Mons a1 zh);let y0:=(ix a0.Mons a1 zh);let y7:=(ix y0.Outer a2 zbc); (oN (inb a1 (ln a0.Mons)) (oN (inb a2 (ln y0.Outer)) (oN zcp (cond (cond (ieq y7.Page zbt.Page) (ieq y7.Rights zbt.Rights) false) (oN (zvh a0 a1 a2) (cond (ieq (wand .i64 a3 2) 0) (some [(aH y3)]) (oN (inb a1 (ln y3.Mons)) (oN (inb a2 (ln y6.Dirty)) (share (up y3.Mons a1 ({y6 with Dirty:=(up y6.Dirty a2 true)}:Mon)) (fun x5=>let y8:=(ix x5 a1 zh).Outer;let y4:=({y3 with Mons:=x5}:Host);let y1:=(ix y8 a2 zbc);let y9:=({y1 with Rights:=3}:Slot); (oN (inb a1 (ln x5)) (oN (inb a2 (ln y8)) (cond (ieq (wand .i64 y1.Rights 2) 0) (oN (zeC y4 a1 a2 y9) (some [(aH (zgi y4 a1 a2 y9))])) (some [(aH y4)])))))))))) (cond (ieq (wand .i64 a3 2) 0) (some [(aH a0)]) (oN (inb a1 (ln a0.Mons)) (oN (inb a2 (ln y0.Dirty)) (share (up a0.Mons a1 ({y0 with Dirty:=(up y0.Dirty a2 true)}:Mon)) (fun x5=>let y10:=(ix x5 a1 zh).Outer;let y5:=({a0 with Mons:=x5}:Host);let y2:=(ix y10 a2 zbc);let y11:=({y2 with Rights:=3}:Slot); (oN (inb a1 (ln x5)) (oN (inb a2 (ln y10)) (cond (ieq (wand .i64 y2.Rights 2) 0) (oN (zeC y5 a1 a2 y11) (some [(aH (zgi y5 a1 a2 y11))])) (some [(aH y5)])))))))))))))
theorem zSY (N:Nat)(a0:Host)(a1 a2 a3:Int):zDj (cQ zph zoB zYt zT2) (zy []) N 12 250 [true,true,true,true,false,false,false] 1 1 [[0],[1],[2],[4],[7]] .mon [aH a0,aI a1,aI a2,aI a3]=zvy N a0 a1 a2 a3:=by kernel_rfl
theorem zPX (a0:Host)(a1 a2 a3:Int)(hb:zcP big [aH a0,aI a1,aI a2,aI a3])(hc:zlz a0 a1 a2 a3=true):∃N,zvy N a0 a1 a2 a3=some [aH (zmE a0 a1 a2 a3)]:=by
 obtain⟨hf,hm,hp,hn,hs⟩:=zQ.1 hc;obtain⟨g1,g2⟩:=zcu hf.1 hm;have tail:∀r,Shape r->hasB a1 (ln r.Mons)=true->(cond (ieq (wand .i64 a3 2) 0) (some [(AV.agg (zbj r))]) (cond (inb a1 (ln r.Mons)) (cond (inb a2 (ln (ix r.Mons a1 zh).Dirty)) (share (up r.Mons a1 ({ (ix r.Mons a1 zh) with Dirty:=(up (ix r.Mons a1 zh).Dirty a2 true)}:Mon)) (fun x5=>(cond (inb a1 (ln x5)) (cond (inb a2 (ln (ix x5 a1 zh).Outer)) (cond (ieq (wand .i64 (ix (ix x5 a1 zh).Outer a2 zbc).Rights 2) 0) (cond (zeC ({r with Mons:=x5}:Host) a1 a2 ({ (ix (ix x5 a1 zh).Outer a2 zbc) with Rights:=3}:Slot)) (some [(AV.agg (zbj (zgi ({r with Mons:=x5}:Host) a1 a2 ({ (ix (ix x5 a1 zh).Outer a2 zbc) with Rights:=3}:Slot))))]) none) (some [(AV.agg (zbj ({r with Mons:=x5}:Host)))])) none) none))) none) none))=some [AV.agg (zbj (ziq r a1 a2 a3))]:=(by intro r hr hrm;obtain⟨q1,q2⟩:=zcu hr hrm;have hD:=zlW (p:=a2) hr hrm;unfold ziq;cases h0:ieq (wand .i64 a3 2) 0;{obtain⟨k,rfl,hk⟩:=zds (n:=r.Mons.length) hrm;have ex:ix (zbF r (k:Int) a2).Mons (k:Int) mZ={ix r.Mons (k:Int) mZ with Dirty:=up (ix r.Mons (k:Int) mZ).Dirty a2 true}:=zdz hk _ _;refine zdT rfl (must (zC hrm) (must (zC (zdk q2.2.2.1 hp)) (shr (must (zC (zd7 hrm)) (must ?_ ?_)))));{rw [zdz hk];exact zC (zdk q2.1 hp)};{unfold opened;show (cond (ieq (wand .i64 (ix (ix (zbF r (k:Int) a2).Mons (k:Int) mZ).Outer a2 sZ).Rights 2) 0) _ _)=_;cases h1:ieq (wand .i64 (ix (ix (zbF r (k:Int) a2).Mons (k:Int) mZ).Outer a2 sZ).Rights 2) 0;{rfl};{refine must rfl (must (zbN ⟨(zbb _).2 hD.1,zd7 hrm,?_,?_⟩) rfl);{show hasB a2 (ln (ix (zbF r (k:Int) a2).Mons (k:Int) mZ).Outer)=true;rw[ex];exact zdk q2.1 hp};{show (ix (zbF r (k:Int) a2).Mons (k:Int) mZ).Tables.length<=(ix (zbF r (k:Int) a2).Mons (k:Int) mZ).Guests.length;rw[ex];exact k5 q2.2.2.2}}}};{rfl});refine⟨0,?_⟩;unfold zvy zmE mended oN;conv=>zeta
 refine must (zC hm) (must (zC (zdk g2.1 hp)) (must rfl ?_));have e:(cond (ieq (ix (ix a0.Mons a1 mZ).Outer a2 sZ).Page zbt.Page) (ieq (ix (ix a0.Mons a1 mZ).Outer a2 sZ).Rights zbt.Rights) false)=ieq (ix (ix a0.Mons a1 mZ).Outer a2 sZ).Page (-1):=(by rw[<- hs.no];unfold zc3 zbt;cases ieq (ix (ix a0.Mons a1 mZ).Outer a2 sZ).Page noSlot.Page<;>rfl);rw[e];cases h0:ieq (ix (ix a0.Mons a1 mZ).Outer a2 sZ).Page (-1);{exact tail a0 hf.1 hm};{obtain⟨h1,h2⟩:=zi0 (p:=a2) hf hm hp;exact must rfl (must (zbN ⟨hf,hm,hp⟩) (tail _ h1 h2))}
theorem zJA:zdG Tryz.prog 250 [true,true,true,true,false,false,false] (some (1,1,[[0],[1],[2],[4],[7]])) zq0:=by refine zkx (kt:=.mon) (zfM zhk zJ zM4 zDK) (zie (by kernel_rfl)) (by kernel_rfl) ?_;intro avs rs hl hr h;have hb:=zhF hr;unfold zq0 at h;split at h;{obtain⟨hc,rfl⟩:=zdL h;obtain⟨N,hN⟩:=zPX _ _ _ _ (by exact hb) hc;exact⟨⟨_,rfl⟩,rfl,_,N,12,(zSY N _ _ _ _ ).trans hN⟩};{cases h}
@[simp] abbrev zRX (h:Host)(m p n:Int):Bool:=pc (zQV h m p n)
@[simp] abbrev zG4 (h:Host)(m p n:Int):Host:=mended h m p n
def zvM:List CV->List AV->Option (Bool×List CV×List AV)
 |[.s (.sl .int) b,.s .mon c,.s .entry d,.s .entry e],[.one (.i .i64 f),.one (.i .i64 g),.one (.i .i64 h)]=>some ((zRX (⟨b,c,d,e⟩:Host) f g h),zbj (zG4 (⟨b,c,d,e⟩:Host) f g h),[])
 |_,_=>none
def zF6 (N:Nat)(c:Host)(a0 a1 a2:Int):OA:=
 let y3:=(zuj c a0 a1);let y6:=(ix y3.Mons a0 zh);let y2:=(ix c.Mons a0 zh); (oN (inb a0 (ln c.Mons)) (oN (inb a1 (ln y2.Outer)) (cond (ieq (ix y2.Outer a1 zbc).Page (-1)) (oN (zBC c a0 a1) (oN (zeK a2 2) (cond (nB (zfd a2 2)) (some [(aH y3)]) (oN (inb a0 (ln y3.Mons)) (oN (inb a1 (ln y6.Dirty)) (share (up y3.Mons a0 ({y6 with Dirty:=(up y6.Dirty a1 true)}:Mon)) (fun x5=>let y4:=(ix x5 a0 zh);let y0:=(ix y4.Outer a1 zbc); (oN (inb a1 (ln y4.Outer)) (oN (zeK y0.Rights 2) (cond (nB (zfd y0.Rights 2)) (oN (inb a1 (ln y4.Outer)) (share (up x5 a0 ({y4 with Outer:=(up y4.Outer a1 ({y0 with Rights:=3}:Slot))}:Mon)) (fun x6=>let y7:=({y3 with Mons:=x6}:Host); (oN (zdR y7 a0 a1 y0) (some [(aH (zdS y7 a0 a1 y0))]))))) (some [(aH ({y3 with Mons:=x5}:Host))]))))))))))) (oN (zeK a2 2) (cond (nB (zfd a2 2)) (some [(aH c)]) (oN (inb a0 (ln c.Mons)) (oN (inb a1 (ln y2.Dirty)) (share (up c.Mons a0 ({y2 with Dirty:=(up y2.Dirty a1 true)}:Mon)) (fun x5=>let y5:=(ix x5 a0 zh);let y1:=(ix y5.Outer a1 zbc); (oN (inb a1 (ln y5.Outer)) (oN (zeK y1.Rights 2) (cond (nB (zfd y1.Rights 2)) (oN (inb a1 (ln y5.Outer)) (share (up x5 a0 ({y5 with Outer:=(up y5.Outer a1 ({y1 with Rights:=3}:Slot))}:Mon)) (fun x6=>let y8:=({c with Mons:=x6}:Host); (oN (zdR y8 a0 a1 y1) (some [(aH (zdS y8 a0 a1 y1))]))))) (some [(aH ({c with Mons:=x5}:Host))])))))))))))))
theorem z0H (N:Nat)(c:Host)(a0 a1 a2:Int):zmV (cQ zph zoB zYt zT2) (zy []) N 12 265 [true,true,true,true] (zbj c) [aI a0,aI a1,aI a2]=zF6 N c a0 a1 a2:=by kernel_rfl
theorem zYc (c:Host)(a0 a1 a2:Int)(hb:zcP big (.agg (zbj c)::[aI a0,aI a1,aI a2]))(hc:zRX c a0 a1 a2=true):∃N,zF6 N c a0 a1 a2=some (.agg (zbj (zG4 c a0 a1 a2))::[]):=by
 obtain⟨hf,hm,hp,hn,hs⟩:=zQ.1 hc;obtain⟨g1,g2⟩:=zcu hf.1 hm;have en:enough a2 2 = !ieq (wand .i64 a2 2) 0:=(by rcases hn with rfl|rfl<;>rfl);have tail:∀r,Shape r->hasB a0 (ln r.Mons)=true->enough (ix (ix r.Mons a0 mZ).Outer a1 sZ).Rights 2=(!ieq (wand .i64 (ix (ix r.Mons a0 mZ).Outer a1 sZ).Rights 2) 0)->(cond (zeK a2 2) (cond (cond (zfd a2 2) false true) (some [(AV.agg (zbj r))]) (cond (inb a0 (ln r.Mons)) (cond (inb a1 (ln (ix r.Mons a0 zh).Dirty)) (share (up r.Mons a0 ({ (ix r.Mons a0 zh) with Dirty:=(up (ix r.Mons a0 zh).Dirty a1 true)}:Mon)) (fun x5=>(cond (inb a1 (ln (ix x5 a0 zh).Outer)) (cond (zeK (ix (ix x5 a0 zh).Outer a1 zbc).Rights 2) (cond (cond (zfd (ix (ix x5 a0 zh).Outer a1 zbc).Rights 2) false true) (cond (inb a1 (ln (ix x5 a0 zh).Outer)) (share (up x5 a0 ({ (ix x5 a0 zh) with Outer:=(up (ix x5 a0 zh).Outer a1 ({ (ix (ix x5 a0 zh).Outer a1 zbc) with Rights:=3}:Slot))}:Mon)) (fun x6=>(cond (zdR ({r with Mons:=x6}:Host) a0 a1 (ix (ix x5 a0 zh).Outer a1 zbc)) (some [(AV.agg (zbj (zdS ({r with Mons:=x6}:Host) a0 a1 (ix (ix x5 a0 zh).Outer a1 zbc))))]) none))) none) (some [(AV.agg (zbj ({r with Mons:=x5}:Host)))])) none) none))) none) none)) none)=some [AV.agg (zbj (ziq r a0 a1 a2))]:=(by intro r hr hrm her;obtain⟨q1,q2⟩:=zcu hr hrm;have hD:=zlW (p:=a1) hr hrm;unfold ziq;simp only[zeK,zfd,en,cT];cases h0:ieq (wand .i64 a2 2) 0;{obtain⟨k,rfl,hk⟩:=zds (n:=r.Mons.length) hrm;have ex:ix (zbF r (k:Int) a1).Mons (k:Int) mZ={ix r.Mons (k:Int) mZ with Dirty:=up (ix r.Mons (k:Int) mZ).Dirty a1 true}:=zdz hk _ _;have hk':k<(zbF r (k:Int) a1).Mons.length:=(by simpa [zbF] using hk);have hi:inb a1 (ln (ix (zbF r (k:Int) a1).Mons (k:Int) mZ).Outer)=true:=(by rw[ex];exact zC (zdk q2.1 hp));refine zdT rfl (must (zC hrm) (must (zC (zdk q2.2.2.1 hp)) (shr (must hi ?_))));unfold opened;show (cond (cond (enough (ix (ix (zbF r (k:Int) a1).Mons (k:Int) mZ).Outer a1 sZ).Rights 2) false true) _ _)=_;have e2:(cond (enough (ix (ix (zbF r (k:Int) a1).Mons (k:Int) mZ).Outer a1 sZ).Rights 2) false true)=ieq (wand .i64 (ix (ix (zbF r (k:Int) a1).Mons (k:Int) mZ).Outer a1 sZ).Rights 2) 0:=(by rw[ex];show (cond (enough (ix (ix r.Mons (k:Int) mZ).Outer a1 sZ).Rights 2) false true)=ieq (wand .i64 (ix (ix r.Mons (k:Int) mZ).Outer a1 sZ).Rights 2) 0;rw[her];cases ieq (wand .i64 (ix (ix r.Mons (k:Int) mZ).Outer a1 sZ).Rights 2) 0<;>rfl);rw[e2];cases h1:ieq (wand .i64 (ix (ix (zbF r (k:Int) a1).Mons (k:Int) mZ).Outer a1 sZ).Rights 2) 0;{rfl};{have hX:Shape {zbF r (k:Int) a1 with Mons:=up (zbF r (k:Int) a1).Mons (k:Int) {ix (zbF r (k:Int) a1).Mons (k:Int) mZ with Outer:=up (ix (zbF r (k:Int) a1).Mons (k:Int) mZ).Outer a1 ⟨(ix (ix (zbF r (k:Int) a1).Mons (k:Int) mZ).Outer a1 sZ).Page,3⟩}}:=(by obtain⟨w1,w2⟩:=zcu hD (zd7 hrm);exact zhA hD ⟨by simpa using w1.1,w1.2⟩ ⟨by simpa using w2.1,w2.2⟩);have hh:∀(x y:Mon),hasB (k:Int) (ln (up (up r.Mons (k:Int) x) (k:Int) y))=true:=fun x y=>(by simpa [ln] using hrm);refine must rfl (must hi (shr (must (zbN ⟨hX,hh _ _⟩) ?_)));exact congrArg (fun x=>some [AV.agg (zbj x)]) (zy7 (h:=zbF r (k:Int) a1) (p:=a1) (s:=⟨(ix (ix (zbF r (k:Int) a1).Mons (k:Int) mZ).Outer a1 sZ).Page,3⟩) hk' (by rw[ex];exact q2.2.2.2))}};{rfl});refine⟨0,?_⟩;unfold zF6 zG4 mended oN nB;conv=>zeta
 refine must (zC hm) (must (zC (zdk g2.1 hp)) ?_);cases h0:ieq (ix (ix c.Mons a0 mZ).Outer a1 sZ).Page (-1);{exact tail c hf.1 hm (z6O hs.lo hs.hi)};{obtain⟨h1,h2⟩:=zi0 (p:=a1) hf hm hp;exact must rfl (must (zbN ⟨hf,hm,hp⟩) (tail _ h1 h2 (by rw[zRC hf hm hp];rfl)))}
theorem zRR:zbM Tryz.prog 265 [true,true,true,true] zvM:=by refine zgq (zfM zhk zJ zM4 zDK) (zie (by kernel_rfl)) ?_;intro cs avs cs' rs hl hr h;have hb:=zjC hr;unfold zvM at h;split at h;{obtain⟨hc,rfl,rfl⟩:=zlA h;obtain⟨N,hN⟩:=zYc _ _ _ _ (by exact hb) hc;exact⟨rfl,_,N,12,(z0H N _ _ _ _ ).trans hN⟩};{cases h}
def zYu:zcQ:=[(265,([true,true,true,true],zvM))]++zYt
theorem zcl:zb1 zYu:=zco zM4 (by
 intro x hx;simp only[qF,qP,or_false]at hx;rcases hx with rfl
 .exact zRR)
def zZd:ze7:=[(250,([true,true,true,true,false,false,false],(some (1,1,[[0],[1],[2],[4],[7]])),zq0))]++zT2
theorem zNh:zdW zZd:=zo7 zDK (by
 intro x hx;simp only[qF,qP,or_false]at hx;rcases hx with rfl
 .exact zJA)
theorem zXZ {h:Host}(hh:zcc h=true):h.Memory.length=12:=by unfold zcc at hh;simp only[zc0]at hh;have h1:=hh.1;unfold zkC at h1;simp only[zc0]at h1;have:ln h.Memory=12:=qE h1.2;simp only[ln] at this;omega
theorem zgb {h:Host}(hh:zcc h=true):∀x∈h.Mons,zeO x=true:=by unfold zcc at hh;simp only[zc0]at hh;exact zyk _ _ hh.2.2.2.2
theorem zHn {x:Mon}(hk:zeO x=true):ShM x:=by have ho:=zvn (zps hk);unfold zeO at hk;simp only[zc0]at hk;have e1:ln x.Tables=ln x.Guests:=qE hk.2.1;have e2:ln x.Out=8:=qE hk.2.2.2.1;have e3:ln x.Dirty=8:=qE hk.2.2.2.2.1;simp only[ln] at *;exact⟨by omega,by omega,by omega,by omega⟩
theorem zeI {h:Host}(hs:SmH h)(hh:zcc h=true):Fit h:=by refine⟨⟨hs,fun x hx=>zHn (zgb hh x hx)⟩,by rw[zXZ hh];decide,?_⟩;unfold zcc at hh;simp only[zc0]at hh;have:=zRW _ _ rfl hh.2.2.2.2;omega
theorem zrH {x:Mon}(hk:zeO x=true){p:Int}(hp:hasB p 8=true):SlotFit (ix x.Outer p sZ):=by have ht:=zps hk;unfold zdd at ht;simp only[zc0]at ht;exact zY3 (qN.1 ht.1 _ (zbC (zdk (zHn hk).1 hp) _))
theorem zUP {h:Host}{m p:Int}(hf:Fit h)(hm:hasB m (ln h.Mons)=true):Fit (zbF h m p):=by refine⟨zlW hf.1 hm,hf.2.1,?_⟩;obtain⟨k,rfl,hk⟩:=zds (n:=h.Mons.length) hm;have:=zUv h.Mons k (ix h.Mons (k:Int) mZ) {ix h.Mons (k:Int) mZ with Dirty:=up (ix h.Mons (k:Int) mZ).Dirty p true} (by rw[zbA hk];exact qB hk);have h3:=hf.2.2;unfold zbF;simp only[up,kD];dsimp only at this;simp only[up] at this;omega
abbrev gZ:Guest:=Ty.dflt .guest
def zbW (h:Host)(m g:Int):Bool:=bif zcc h then (cond (hasB m (ln h.Mons)) (hasB g (ln (ix h.Mons m mZ).Guests)) false) else false
@[simp] abbrev zgk (h:Host)(m g:Int):Bool:=pc (zb2 h)
@[simp] abbrev zh0 (h:Host)(m g:Int):Bool:=zbW h m g
def zFN:Run:=rF3 dH dI dI fun b c d=>(zgk b c d,[aB (zh0 b c d)])
def zNT (N:Nat)(a0:Host)(a1 a2:Int):OA:=
 let y0:=(wsub .i64 (ln (ix a0.Mons a1 zh).Guests) 1); (oN (zeS a0) (cond (zeR a0) (oN (zN a1 0 (wsub .i64 (ln a0.Mons) 1)) (cond (zS a1 0 (wsub .i64 (ln a0.Mons) 1)) (oN (inb a1 (ln a0.Mons)) (oN (zN a2 0 y0) (some [(aB (zS a2 0 y0))]))) oF)) oF))
theorem zVn (a0:Host)(a1 a2:Int)(hc:zgk a0 a1 a2=true):∃N,zNT N a0 a1 a2=some [aB (zh0 a0 a1 a2)]:=by
 have hs:=(zbb a0).1 (zQ.1 hc);refine⟨0,?_⟩;unfold zNT zh0 zbW oN;conv=>zeta
 refine must rfl ?_;rw[show zeR a0=zcc a0 from rfl];cases hh:zcc a0;{rfl};{rw [show zS a1 0 (wsub .i64 (ln a0.Mons) 1)=hasB a1 (ln a0.Mons) from zo9 hs.2.1.1 a1];refine must rfl (must rfl ?_);cases h1:hasB a1 (ln a0.Mons);{rfl};{have hg:(ix a0.Mons a1 mZ).Guests.length<=1048576:=(hs.2.1.2 _ (zbC h1 _)).2.2.2.1.1;rw[show zS a2 0 (wsub .i64 (ln (ix a0.Mons a1 zh).Guests) 1)=hasB a2 (ln (ix a0.Mons a1 mZ).Guests) from zo9 hg a2];exact must rfl (must (zC h1) (must rfl rfl))}}
theorem zPm:vL 233 zFN:=kF3 zhk zJ zcl zNh (zy []) zVn
def zcA (h:Host)(m:Int):Nat->Nat->List (List Int)
 | 0,_=>[]
 |n+1,i=>zcX h m (i:Int)::zcA h m n (i+1)
theorem zyH (h:Host)(m:Int):∀(n i:Nat),(zcA h m n i).length=n
 | 0,_=>rfl
 |n+1,i=>by simp[zcA,zyH h m n]
def zI (h:Host)(m:Int):Bare:=bif hasB m (ln h.Mons) then ⟨zcA h m 8 0,(ix h.Mons m mZ).Guests,(ix h.Mons m mZ).Outs,(ix h.Mons m mZ).Pending⟩ else ⟨[],[],[],0⟩
def z5f:zZ:=[(233,zFN)]++zph
theorem z2u:zL z5f:=zi zPm zhk
theorem zVw:zct zzd=true:=by decide
theorem zWb {p:Nat->Bool}:∀{n i q:Nat},zoi p n i=true->i<=q->q<i+n->p q=true
 | 0,i,q,_,h1,h2=>by omega
 |n+1,i,q,h,h1,h2=>by simp only[zoi,qD]at h;by_cases he:i=q;{subst he;exact h.1};{exact zWb h.2 (by omega) (by omega)}
theorem z0V {h:Host}{m:Int}(hh:zcc h=true)(hm:hasB m (ln h.Mons)=true){p:Int}(hp:hasB p 8=true):zct (zcX h m p)=true:=by have hk:=zgb hh _ (zbC hm mZ);have hsh:=zHn hk;have hmem:h.Memory.all zct=true:=(by unfold zcc at hh;simp only[zc0]at hh;have h1:=hh.1;unfold zkC at h1;simp only[zc0]at h1;exact h1.1);unfold zcX;rw[hm,hp];simp only[cT];have hsl:zbz (ix h.Mons m mZ).Outer p=ix (ix h.Mons m mZ).Outer p sZ:=(by unfold zbz;rw[zdk hsh.1 hp];rfl);rw[hsl];have hAt:∀(mm:List (List Int)) (q:Int),(hasB q (ln mm)=true->zct (ix mm q [])=true)->zct (zck mm q)=true:=(by intro mm q hq;unfold zck;cases h1:hasB q (ln mm);{exact zVw};{exact hq h1});cases hpg:ine (ix (ix h.Mons m mZ).Outer p sZ).Page (-1);{refine hAt _ _ (fun hq=>?_);obtain⟨q,rfl,hq8⟩:=zds (n:=8) hp;have hfit:fits (ix h.Mons m mZ) q=true:=(by unfold zeO at hk;simp only[zc0]at hk;exact zWb hk.2.2.2.2.2.2.2.2.2.2 (by omega) (by omega));unfold fits zmw at hfit;have hno:zc3 (ix (ix h.Mons m mZ).Outer (q:Int) sZ) noSlot=true:=(by rw[(zrH (zgb hh _ (zbC hm mZ)) hp).no];rw[zDt]at hpg;cases h1:ieq (ix (ix h.Mons m mZ).Outer (q:Int) sZ).Page (-1);{rw [h1]at hpg;cases hpg};{rfl});rw[hno]at hfit;exact hfit};{exact hAt _ _ (fun hq=>qN.1 hmem _ (zbC hq _))}
theorem zOB {h:Host}{m:Int}(hh:zcc h=true)(hm:hasB m (ln h.Mons)=true):∀(n i:Nat),i+n<=8->(zcA h m n i).all zct=true
 | 0,_,_=>rfl
 |n+1,i,hi=>by simp only[zcA,kW,qD];exact⟨z0V hh hm (qL (by omega)),zOB hh hm n (i+1) (by omega)⟩
theorem zE9 {h:Host}{m:Int}(hh:zcc h=true)(hm:hasB m (ln h.Mons)=true):zb7 (zI h m)=true:=by have hk:=zgb hh _ (zbC hm mZ);unfold zeO at hk;simp only[zc0]at hk;unfold zI zb7 zkC;rw[hm];simp only[cT,hk.2.2.2.2.2.2.2.2.2.1,zOB hh hm 8 0 (by decide),ln,zyH];simp only[ln]at hk;rw[hk.1,hk.2.2.2.2.2.1,hk.2.2.2.2.2.2.1];rfl
def zlE:zZ:=z5f
theorem zhl:zL zlE:=z2u
def zdI (l:List Mon):List (List Guest):=l.map fun x=>x.Guests
theorem zyj {l:List Mon}{m:Int}{x:Mon}(hm:hasB m (ln l)=true)(hx:x.Guests=(ix l m mZ).Guests):zdI (up l m x)=zdI l:=by obtain⟨k,rfl,hk⟩:=zds (n:=l.length) hm;unfold zdI up;rw[List.map_set,kD,hx,zbA hk];have:=@u3 _ (l.map fun x=>x.Guests) k (by simpa using hk);simpa using this
theorem zI0 {l l':List Mon}(h:zdI l'=zdI l)(m:Int):(ix l' m mZ).Guests=(ix l m mZ).Guests:=by unfold zdI at h;have h2:(l'.map fun x=>x.Guests)[m.toNat]?=(l.map fun x=>x.Guests)[m.toNat]?:=(by rw[h]);rw[qO,qO]at h2;unfold ix;simp only[j7];cases h3:l'[m.toNat]? <;> cases h4:l[m.toNat]? <;> rw [h3,h4]at h2<;>simp at h2 ⊢;exact h2
theorem zyi {h:Host}{m p:Int}{s:Slot}(hm:hasB m (ln h.Mons)=true):zdI (zci h m p s).Mons=zdI h.Mons:=by rw[(zfD h m p s).1];exact zyj hm rfl
theorem z6W {h:Host}{m p:Int}(hm:hasB m (ln h.Mons)=true):zdI (zdc h m p).Mons=zdI h.Mons:=(zyi (h:=zeb h m p) (zd7 hm)).trans (zyj hm rfl)
theorem z6V {h:Host}(hf:Fit h):zdI (zcY h).Mons=zdI h.Mons:=by unfold zcY;cases h0:ieq (ln (zb3 h)) 0;{rfl};{exact z6W (zDz hf h0).1}
theorem zXW {h:Host}{m p:Int}(hf:Fit h)(hm:hasB m (ln h.Mons)=true):zdI (fetched h m p).Mons=zdI h.Mons:=by have hr:=zoK hf hm;exact((zyi (h:=landing (zcY h) m p (ix (zb3 (zcY h)) 0 0)) (zd7 hr)).trans (zyj hr rfl)).trans (z6V hf)
theorem zRO {h:Host}{m p n:Int}(hm:hasB m (ln h.Mons)=true):zdI (ziq h m p n).Mons=zdI h.Mons:=by have hd:zdI (zbF h m p).Mons=zdI h.Mons:=zyj hm rfl;unfold ziq;cases ieq (wand .i64 n 2) 0;{unfold opened;cases ieq (wand .i64 (ix (ix (zbF h m p).Mons m mZ).Outer p sZ).Rights 2) 0;{exact hd};{exact(zyi (h:=zbF h m p) (zd7 hm)).trans hd}};{rfl}
theorem z0i {h:Host}{m p n:Int}(hf:Fit h)(hm:hasB m (ln h.Mons)=true)(hp:hasB p 8=true):zdI (mended h m p n).Mons=zdI h.Mons:=by unfold mended;cases ieq (ix (ix h.Mons m mZ).Outer p sZ).Page (-1);{exact zRO hm};{exact(zRO (zi0 hf hm hp).2).trans (zXW hf hm)}
theorem z8z {l l':List Mon}(h:zdI l'=zdI l):l'.length=l.length:=by have:=congrArg List.length h;simpa [zdI] using this
abbrev kZ:Kept:=Ty.dflt .kept
theorem z9w {x:Guest}(hk:zd5 x=true){p n:Int}(hw:ze0 x.Live p n=true):hasB (zcx x.Live p n) 8=true:=by have ht:zdd x.Live 4 8=true:=(by unfold zd5 at hk;simp only[qD]at hk;exact hk.2.2.2.2.1);unfold zcx;rw[hw];simp only[cT];unfold ze0 at hw;cases h1:ieq (zbz x.Live p).Page (-1);{unfold zbz at h1 ⊢;cases h2:hasB p (ln x.Live);{rw [h2]at h1;cases h1};{rw [h2]at h1;simp only[cT]at h1 ⊢;unfold zdd at ht;simp only[zc0]at ht;have hs:=qN.1 ht.1 _ (zbC h2 sZ);unfold zdX at hs;cases h3:zc3 (ix x.Live p sZ) noSlot;{rw [h3]at hs;simp only[cF,zc0]at hs;have:=zfp.1 hs.2.1;rw[show wsub .i64 8 1=7 from rfl] at this;show hasB (ix x.Live p sZ).Page 8=true;exact qL (by omega)};{unfold zc3 at h3;rw[qD]at h3;have:(ix x.Live p sZ).Page = -1:=qE h3.1;rw[show ieq (ix x.Live p zbc).Page (-1)=true from qL this]at h1;cases h1}}};{rw [h1]at hw;cases hw}
def zcK (h:Host)(m g:Int):List Slot:=(ix (ix h.Mons m mZ).Guests g gZ).Live
def zcs (h:Host)(m g:Int):Kept:=ix (ix h.Mons m mZ).Tables g kZ
def zqe (b:List Entry)(m g page:Int):Option Entry:=zDk b (zeg m g) page
def zgS (b:List Entry)(m g page need:Int):Bool:=bif (zqe b m g page).isSome then enough ((zqe b m g page).getD ⟨0,0,0,0⟩).Rights need else false
def zev (h:Host)(m g page need:Int):Bool:=bif zjS (zcs h m g) page then (cond (ieq (zeF (zcs h m g) page).Page (-1)) true (!enough (zeF (zcs h m g) page).Rights need)) else true
def zdv (h:Host)(m g page:Int):Host:={h with Mons:=up h.Mons m {ix h.Mons m mZ with Tables:=up (ix h.Mons m mZ).Tables g (filled (zcs h m g) (zcK h m g) (ix h.Mons m mZ).Outer page)}}
def zQz (h:Host)(m g page:Int):Entry:=⟨zeg m g,page,(zeF (zcs h m g) page).Page,(zeF (zcs h m g) page).Rights⟩
def zuv (h:Host)(m g page:Int)(io:Bool):Host:=bif io then {h with IoBuffer:=zoG h.IoBuffer (zQz h m g page)} else {h with Buffer:=zoG h.Buffer (zQz h m g page)}
def zha (h:Host)(m g page:Int)(io:Bool):Host×Int×Bool:=(zuv h m g page io,(zeF (zcs h m g) page).Page,true)
def zg9 (h:Host)(b:List Entry)(m g page need q:Int)(io:Bool):Host×Int×Bool :=
 bif zgS b m g page need then (h,((zqe b m g page).getD ⟨0,0,0,0⟩).Host,true)
 else (cond (zev h m g page need) (zha (zdv (mended h m q need) m g page) m g page io) (zha h m g page io))
def ziN (need:Int):Bool:=bif ieq need 1 then true else ieq need 2
def zb5 (h:Host)(m g page need:Int):Bool:=bif zbW h m g then (cond (ziN need) (ze0 (zcK h m g) page need) false) else false
def lookOf (h:Host)(b:List Entry)(m g page need:Int)(io:Bool):Host×Int×Bool :=
 bif zb5 h m g page need then zg9 (cond (ieq need 2) (zbF h m (zcx (zcK h m g) page need)) h) b m g page need (zcx (zcK h m g) page need) io else (h,-1,false)
structure Kp (h r:Host):Prop where
 shape:Shape r
 gs:zdI r.Mons=zdI h.Mons
theorem Kp.has {h r:Host}(k:Kp h r){m:Int}(hm:hasB m (ln h.Mons)=true):hasB m (ln r.Mons)=true:=by rw[ln,z8z k.gs];exact hm
theorem zY0 {h:Host}{m g page:Int}(hs:Shape h)(hm:hasB m (ln h.Mons)=true)(hg:hasB g (ln (ix h.Mons m mZ).Guests)=true):Shape (zdv h m g page):=by obtain⟨g1,g2⟩:=zcu hs hm;have ht:hasB g (ln (ix h.Mons m mZ).Tables)=true:=(by rw[ln,g2.2.2.2];exact hg);exact zhA hs ⟨g1.1,g1.2.1,g1.2.2.1,g1.2.2.2.1,g1.2.2.2.2.1,zxA g1.2.2.2.2.2 (zY6 (g1.2.2.2.2.2.2 _ (zbC ht _)))⟩ ⟨g2.1,g2.2.1,g2.2.2.1,by simpa using g2.2.2.2⟩
theorem z0r {h r:Host}{m g page:Int}{io:Bool}(k:Kp h r):Kp h (zuv r m g page io):=by obtain⟨⟨h1,h2,h3,h4⟩,h5⟩:=k.shape;unfold zuv;cases io;{exact⟨⟨⟨h1,h2,(zyK _ h3).1,h4⟩,h5⟩,k.gs⟩};{exact⟨⟨⟨h1,h2,h3,(zyK _ h4).1⟩,h5⟩,k.gs⟩}
structure LookAt (h:Host) (m g q need:Int):Prop where
 fit:Fit h
 hm:hasB m (ln h.Mons)=true
 hg:hasB g (ln (ix h.Mons m mZ).Guests)=true
 hq:hasB q 8=true
 hn:need=1\/need=2
 hs:SlotFit (ix (ix h.Mons m mZ).Outer q sZ)
theorem LookAt.mend {h:Host}{m g q need:Int}(A:LookAt h m g q need):zQV h m q need:=⟨A.fit,A.hm,A.hq,A.hn,A.hs⟩
theorem LookAt.kp {h:Host}{m g q need:Int}(A:LookAt h m g q need):Kp h (mended h m q need):=⟨(ztt A.fit A.hm A.hq).1,z0i A.fit A.hm A.hq⟩
theorem LookAt.fill {h:Host}{m g q need:Int}(A:LookAt h m g q need)(page:Int):Kp h (zdv (mended h m q need) m g page):=by have k:=A.kp;have hg:hasB g (ln (ix (mended h m q need).Mons m mZ).Guests)=true:=(by rw[zI0 k.gs];exact A.hg);have e:zdI (zdv (mended h m q need) m g page).Mons=zdI (mended h m q need).Mons:=zyj (k.has A.hm) rfl;exact⟨zY0 k.shape (k.has A.hm) hg,e.trans k.gs⟩
theorem zR3 {h:Host}{b:List Entry}{m g page need q:Int}{io:Bool}(A:LookAt h m g q need):Kp h (zg9 h b m g page need q io).1:=by unfold zg9;cases zgS b m g page need;{cases zev h m g page need;{exact z0r ⟨A.fit.1,rfl⟩};{exact z0r (A.fill page)}};{exact⟨A.fit.1,rfl⟩}
theorem zdj {h:Host}{m g:Int}(hh:zbW h m g=true):zcc h=true/\hasB m (ln h.Mons)=true/\hasB g (ln (ix h.Mons m mZ).Guests)=true:=by unfold zbW at hh;simp only[zc0]at hh;exact hh
theorem zXX {h:Host}{m g:Int}(hh:zbW h m g=true):zd5 (ix (ix h.Mons m mZ).Guests g gZ)=true:=by obtain⟨h1,h2,h3⟩:=zdj hh;have hk:=zgb h1 _ (zbC h2 mZ);unfold zeO at hk;simp only[zc0]at hk;exact qN.1 hk.2.2.2.2.2.2.2.2.2.1 _ (zbC h3 _)
theorem zJ8 {n:Int}(h:ziN n=true):n=1\/n=2:=by unfold ziN at h;cases h1:ieq n 1;{rw [h1]at h;exact .inr (qE h)};{exact .inl (qE h1)}
theorem zOo {h:Host}{m g page need:Int}(hs:SmH h)(hh:zb5 h m g page need=true) :
 LookAt h m g (zcx (zcK h m g) page need) need/\LookAt (zbF h m (zcx (zcK h m g) page need)) m g (zcx (zcK h m g) page need) need:=by
 unfold zb5 at hh;simp only[zc0]at hh;obtain⟨h1,h2,h3⟩:=hh;obtain⟨g1,g2,g3⟩:=zdj h1;have hq:hasB (zcx (zcK h m g) page need) 8=true:=z9w (zXX h1) h3;have hsl:=zrH (zgb g1 _ (zbC g2 mZ)) hq;have hf:=zeI hs g1;refine⟨⟨hf,g2,g3,hq,zJ8 h2,hsl⟩,⟨zUP hf g2,zd7 g2,?_,hq,zJ8 h2,?_⟩⟩
 .have e:zdI (zbF h m (zcx (zcK h m g) page need)).Mons=zdI h.Mons:=zyj g2 rfl;rw[zI0 e];exact g3
 .obtain⟨k,rfl,hk⟩:=zds (n:=h.Mons.length) g2;unfold zbF;rw[zdz hk];exact hsl
theorem zwN {h:Host}{b:List Entry}{m g page need:Int}{io:Bool}(hs:SmH h)(hh:zbW h m g=true):Kp h (lookOf h b m g page need io).1:=by have hf:=zeI hs (zdj hh).1;unfold lookOf;cases h1:zb5 h m g page need;{exact⟨hf.1,rfl⟩};{obtain⟨A,B⟩:=zOo hs h1;simp only[cT];cases ieq need 2;{exact zR3 A};{have k:=zR3 (b:=b) (page:=page) (io:=io) B;have e:zdI (zbF h m (zcx (zcK h m g) page need)).Mons=zdI h.Mons:=zyj A.hm rfl;exact⟨k.shape,k.gs.trans e⟩}}
def zM6 (x:Host×Int×Bool):List AV:=[.agg (zbj x.1),.one (.i .i64 x.2.1),.one (.b x.2.2)]
theorem zmu {h:Host}{b:List Entry}{m g page need:Int}{io:Bool}(hh:zb5 h m g page need=false):lookOf h b m g page need io=(h,-1,false):=by unfold lookOf;rw[hh];rfl
theorem zBQ {h:Host}{m g page need:Int}(hh:zbW h m g=false):zb5 h m g page need=false:=by unfold zb5;rw[hh];rfl
theorem z6X {h:Host}{m g:Int}(hh:zcc h=false):zbW h m g=false:=by unfold zbW;rw[hh];rfl
theorem z6Y {h:Host}{m g:Int}(hh:hasB m (ln h.Mons)=false):zbW h m g=false:=by unfold zbW;rw[hh];cases zcc h<;>rfl
theorem z6Z {h:Host}{m g:Int}(hh:hasB g (ln (ix h.Mons m mZ).Guests)=false):zbW h m g=false:=by unfold zbW;rw[hh];cases zcc h<;>cases hasB m (ln h.Mons)<;>rfl
theorem z7a {h:Host}{m g:Int}(h1:zcc h=true)(h2:hasB m (ln h.Mons)=true)(h3:hasB g (ln (ix h.Mons m mZ).Guests)=true):zbW h m g=true:=by unfold zbW;rw[h1,h2,h3];rfl
structure LookF (r:Host) (m g:Int):Prop where
 hm:hasB m (ln r.Mons)=true
 hg:hasB g (ln (ix r.Mons m mZ).Guests)=true
 ht:hasB g (ln (ix r.Mons m mZ).Tables)=true
 hk:SmK (zcs r m g)
 hb:r.Buffer.length<=1048576
 hi:r.IoBuffer.length<=1048576
theorem zDw {h r:Host}{m g:Int}(k:Kp h r)(hm:hasB m (ln h.Mons)=true)(hg:hasB g (ln (ix h.Mons m mZ).Guests)=true):LookF r m g:=by obtain⟨g1,g2⟩:=zcu k.shape (k.has hm);have hg':hasB g (ln (ix r.Mons m mZ).Guests)=true:=(by rw[zI0 k.gs];exact hg);have ht:hasB g (ln (ix r.Mons m mZ).Tables)=true:=(by rw[ln,g2.2.2.2];exact hg');exact⟨k.has hm,hg',ht,g1.2.2.2.2.2.2 _ (zbC ht _),k.shape.1.2.2.1,k.shape.1.2.2.2⟩
@[simp] abbrev zjn (h:Host)(b:List Entry)(m g page need:Int)(io:Bool):Bool:=pc (zb2 h)
@[simp] abbrev zeD (h:Host)(b:List Entry)(m g page need:Int)(io:Bool):Host:=(lookOf h b m g page need io).1
@[simp] abbrev zjm (h:Host)(b:List Entry)(m g page need:Int)(io:Bool):Int:=(lookOf h b m g page need io).2.1
@[simp] abbrev zgj (h:Host)(b:List Entry)(m g page need:Int)(io:Bool):Bool:=(lookOf h b m g page need io).2.2
def zq2:List AV->Option (Bool×List AV)
 |[.agg [.s (.sl .int) c,.s .mon d,.s .entry e,.s .entry f],.one (.s .entry g),.one (.i .i64 h),.one (.i .i64 j),.one (.i .i64 k),.one (.i .i64 l),.one (.b m)]=>some ((zjn (⟨c,d,e,f⟩:Host) g h j k l m),[aH (zeD (⟨c,d,e,f⟩:Host) g h j k l m),aI (zjm (⟨c,d,e,f⟩:Host) g h j k l m),aB (zgj (⟨c,d,e,f⟩:Host) g h j k l m)])
 |_=>none
abbrev zOX (u9_11:lM)(u9_12:lN)(u9_13:lE)(u9_14:lE)(u9_0:Int)(u9_5:Int)(u9_3:Int):Mon :=
 (ix (zmE (⟨u9_11,u9_12,u9_13,u9_14⟩:Host) u9_0 u9_5 u9_3).Mons u9_0 zh)
abbrev zOY (a0:Host)(a2 a3:Int)(a4 a5:Int):Int :=
 (ziS (ix (ix a0.Mons a2 zh).Guests a3 zD).Live a4 a5)
def zLg (N:Nat)(u11_0:Int)(u11_2:lM)(u11_3:lN)(u11_4:lE)(u11_5:lE):OA:=
 (some [(aH (⟨u11_2,u11_3,u11_4,u11_5⟩:Host)),(aI u11_0),(aB true)])
def zoh (N:Nat)(u10_0:Int)(u10_1:Bool)(u10_2:Int)(u10_7:Int)(u10_8:Int)(u10_9:lM)(u10_10:lN)(u10_11:lE)(u10_12:lE)(u10_13:lM)(u10_14:lN)(u10_15:lE)(u10_16:lE):OA:=
 let y0:=(⟨u10_2,u10_0,u10_7,u10_8⟩:Entry); (share (fun (s11:(Int×(Int×(lM×(lN×(lE×(lE×(lM×(lN×(lE×(lE×Unit)))))))))))=>(zLg N s11.1 s11.2.2.1 s11.2.2.2.1 s11.2.2.2.2.1 s11.2.2.2.2.2.1)) (fun r11=>(cond u10_1 (oN (zj7 u10_12 y0) (r11 (u10_7,(u10_8,(u10_9,(u10_10,(u10_11,((zkV u10_12 y0),(u10_13,(u10_14,(u10_15,(u10_16,())))))))))))) (oN (zj7 u10_11 y0) (r11 (u10_7,(u10_8,(u10_9,(u10_10,((zkV u10_11 y0),(u10_12,(u10_13,(u10_14,(u10_15,(u10_16,())))))))))))))))
def zqC (N:Nat)(u9_11:lM)(u9_12:lN)(u9_13:lE)(u9_14:lE)(u9_0:Int)(u9_5:Int)(u9_3:Int)(u9_1:Int)(u9_2:Int)(r10:((Int×(Bool×(Int×(Int×(Int×(Int×(Int×(Int×(Int×(lM×(lN×(lE×(lE×(lM×(lN×(lE×(lE×Unit))))))))))))))))))->OA)(u9_4:Bool)(u9_6:Int)(u9_7:Int)(u9_8:Int)(u9_9:Int)(u9_10:Int)(u9_15:lM)(u9_16:lN)(u9_17:lE)(u9_18:lE):OA:=
 let y7:=(⟨u9_11,u9_12,u9_13,u9_14⟩:Host);let y1:=(zmE y7 u9_0 u9_5 u9_3);let y3:=(inb u9_0 (ln y1.Mons));let y0:=(zOX u9_11 u9_12 u9_13 u9_14 u9_0 u9_5 u9_3);let y6:=(ix y0.Tables u9_1 zgJ);let y4:=(ix y0.Guests u9_1 zD).Live; (oN (zlz y7 u9_0 u9_5 u9_3) (oN y3 (oN y3 (oN (inb u9_1 (ln y0.Tables)) (oN y3 (oN (inb u9_1 (ln y0.Guests)) (oN y3 (oN (zHC y6 y4 y0.Outer u9_2) (oN (inb u9_1 (ln y0.Tables)) (share (up y1.Mons u9_0 ({y0 with Tables:=(up y0.Tables u9_1 (zKw y6 y4 y0.Outer u9_2))}:Mon)) (fun x11=>let y5:=(ix x11 u9_0 zh).Tables;let y2:=(ix y5 u9_1 zgJ); (oN (inb u9_0 (ln x11)) (oN (inb u9_1 (ln y5)) (oN (zDE y2 u9_2) (r10 (u9_2,(u9_4,(u9_6,(u9_7,(u9_8,(u9_9,(u9_10,((zsb y2 u9_2).Page,((zsb y2 u9_2).Rights,(y1.Memory,(x11,(y1.Buffer,(y1.IoBuffer,(u9_15,(u9_16,(u9_17,(u9_18,()))))))))))))))))))))))))))))))))
def zko (N:Nat)(u9_0:Int)(u9_1:Int)(u9_2:Int)(u9_3:Int)(u9_4:Bool)(u9_5:Int)(u9_6:Int)(u9_7:Int)(u9_8:Int)(u9_9:Int)(u9_10:Int)(u9_11:lM)(u9_12:lN)(u9_13:lE)(u9_14:lE)(u9_15:lM)(u9_16:lN)(u9_17:lE)(u9_18:lE):OA:=
 let y3:=(ix u9_12 u9_0 zh).Tables;let y0:=(ix y3 u9_1 zgJ);let y2:=(zsb y0 u9_2); (oN (inb u9_0 (ln u9_12)) (oN (inb u9_1 (ln y3)) (oN (zDE y0 u9_2) (share (fun (s10:(Int×(Bool×(Int×(Int×(Int×(Int×(Int×(Int×(Int×(lM×(lN×(lE×(lE×(lM×(lN×(lE×(lE×Unit))))))))))))))))))=>(zoh N s10.1 s10.2.1 s10.2.2.1 s10.2.2.2.2.2.2.2.1 s10.2.2.2.2.2.2.2.2.1 s10.2.2.2.2.2.2.2.2.2.1 s10.2.2.2.2.2.2.2.2.2.2.1 s10.2.2.2.2.2.2.2.2.2.2.2.1 s10.2.2.2.2.2.2.2.2.2.2.2.2.1 s10.2.2.2.2.2.2.2.2.2.2.2.2.2.1 s10.2.2.2.2.2.2.2.2.2.2.2.2.2.2.1 s10.2.2.2.2.2.2.2.2.2.2.2.2.2.2.2.1 s10.2.2.2.2.2.2.2.2.2.2.2.2.2.2.2.2.1)) (fun r10=>let y1:=(zqC N u9_11 u9_12 u9_13 u9_14 u9_0 u9_5 u9_3 u9_1 u9_2 r10 u9_4 u9_6 u9_7 u9_8 u9_9 u9_10 u9_15 u9_16 u9_17 u9_18); (cond (nB (zDD y0 u9_2)) y1 (cond (ieq y2.Page (-1)) y1 (oN (zeQ y2.Rights u9_3) (cond (nB (zfl y2.Rights u9_3)) y1 (r10 (u9_2,(u9_4,(u9_6,(u9_7,(u9_8,(u9_9,(u9_10,(y2.Page,(y2.Rights,(u9_11,(u9_12,(u9_13,(u9_14,(u9_15,(u9_16,(u9_17,(u9_18,())))))))))))))))))))))))))))
def zqD (N:Nat)(a2:Int)(a0:Host)(a3 a4 a5:Int)(a1:lE)(a6:Bool):OA:=
 let y3:=(zse a2 a3);let y2:=(zOY a0 a2 a3 a4 a5);let y1:=(ix a0.Mons a2 zh);let y5:=(ix y1.Guests a3 zD).Live;let y0:=(zlL a1 y3 a4);let y4:=y0.Rights; (oN (inb a2 (ln a0.Mons)) (oN (inb a3 (ln y1.Guests)) (oN (zrb y5 a4 a5) (cond (nB (ziT y5 a4 a5)) (some [(aH a0),(aI (-1)),(aB false)]) (oN (zj8 a2 a3) (cond (ieq a5 2) (oN (inb a2 (ln a0.Mons)) (oN (inb y2 (ln y1.Dirty)) (share (up a0.Mons a2 ({y1 with Dirty:=(up y1.Dirty y2 true)}:Mon)) (fun x8=>(oN (zlM a1 y3 a4) (share (fun (s9:(Int×(Int×(Int×(Int×(Bool×(Int×(Int×(Int×(Int×(Int×(Int×(lM×(lN×(lE×(lE×(lM×(lN×(lE×(lE×Unit))))))))))))))))))))=>(zko N s9.1 s9.2.1 s9.2.2.1 s9.2.2.2.1 s9.2.2.2.2.1 s9.2.2.2.2.2.1 s9.2.2.2.2.2.2.1 s9.2.2.2.2.2.2.2.1 s9.2.2.2.2.2.2.2.2.1 s9.2.2.2.2.2.2.2.2.2.1 s9.2.2.2.2.2.2.2.2.2.2.1 s9.2.2.2.2.2.2.2.2.2.2.2.1 s9.2.2.2.2.2.2.2.2.2.2.2.2.1 s9.2.2.2.2.2.2.2.2.2.2.2.2.2.1 s9.2.2.2.2.2.2.2.2.2.2.2.2.2.2.1 s9.2.2.2.2.2.2.2.2.2.2.2.2.2.2.2.1 s9.2.2.2.2.2.2.2.2.2.2.2.2.2.2.2.2.1 s9.2.2.2.2.2.2.2.2.2.2.2.2.2.2.2.2.2.1 s9.2.2.2.2.2.2.2.2.2.2.2.2.2.2.2.2.2.2.1)) (fun r9=>(cond (ziQ a1 y3 a4) (oN (zeQ y4 a5) (cond (zfl y4 a5) (some [(aH ({a0 with Mons:=x8}:Host)),(aI y0.Host),(aB true)]) (r9 (a2,(a3,(a4,(a5,(a6,(y2,(y3,(y0.Tag,(y0.Page,(y0.Host,(y4,(a0.Memory,(x8,(a0.Buffer,(a0.IoBuffer,([],([],([],([],())))))))))))))))))))))) (r9 (a2,(a3,(a4,(a5,(a6,(y2,(y3,(y0.Tag,(y0.Page,(y0.Host,(y4,(a0.Memory,(x8,(a0.Buffer,(a0.IoBuffer,([],([],([],([],())))))))))))))))))))))))))))) (oN (zlM a1 y3 a4) (share (fun (s8:(Int×(Int×(Int×(Int×(Bool×(Int×(Int×(Int×(Int×(Int×(Int×(lM×(lN×(lE×(lE×(lM×(lN×(lE×(lE×Unit))))))))))))))))))))=>(zko N s8.1 s8.2.1 s8.2.2.1 s8.2.2.2.1 s8.2.2.2.2.1 s8.2.2.2.2.2.1 s8.2.2.2.2.2.2.1 s8.2.2.2.2.2.2.2.1 s8.2.2.2.2.2.2.2.2.1 s8.2.2.2.2.2.2.2.2.2.1 s8.2.2.2.2.2.2.2.2.2.2.1 s8.2.2.2.2.2.2.2.2.2.2.2.1 s8.2.2.2.2.2.2.2.2.2.2.2.2.1 s8.2.2.2.2.2.2.2.2.2.2.2.2.2.1 s8.2.2.2.2.2.2.2.2.2.2.2.2.2.2.1 s8.2.2.2.2.2.2.2.2.2.2.2.2.2.2.2.1 s8.2.2.2.2.2.2.2.2.2.2.2.2.2.2.2.2.1 s8.2.2.2.2.2.2.2.2.2.2.2.2.2.2.2.2.2.1 s8.2.2.2.2.2.2.2.2.2.2.2.2.2.2.2.2.2.2.1)) (fun r8=>(cond (ziQ a1 y3 a4) (oN (zeQ y4 a5) (cond (zfl y4 a5) (some [(aH a0),(aI y0.Host),(aB true)]) (r8 (a2,(a3,(a4,(a5,(a6,(y2,(y3,(y0.Tag,(y0.Page,(y0.Host,(y4,(a0.Memory,(a0.Mons,(a0.Buffer,(a0.IoBuffer,([],([],([],([],())))))))))))))))))))))) (r8 (a2,(a3,(a4,(a5,(a6,(y2,(y3,(y0.Tag,(y0.Page,(y0.Host,(y4,(a0.Memory,(a0.Mons,(a0.Buffer,(a0.IoBuffer,([],([],([],([],()))))))))))))))))))))))))))))))
def zpb (N:Nat)(a0:Host)(a1:lE)(a2 a3:Int)(a4 a5:Int)(a6:Bool):OA:=
 let y1:=(zqD N a2 a0 a3 a4 a5 a1 a6);let y0:=(wsub .i64 (ln (ix a0.Mons a2 zh).Guests) 1); (oN (zeS a0) (cond (nB (zeR a0)) (some [(aH a0),(aI (-1)),(aB false)]) (oN (zN a2 0 (wsub .i64 (ln a0.Mons) 1)) (cond (nB (zS a2 0 (wsub .i64 (ln a0.Mons) 1))) (some [(aH a0),(aI (-1)),(aB false)]) (oN (inb a2 (ln a0.Mons)) (oN (zN a3 0 y0) (cond (nB (zS a3 0 y0)) (some [(aH a0),(aI (-1)),(aB false)]) (cond (ine a5 1) (cond (ine a5 2) (some [(aH a0),(aI (-1)),(aB false)]) y1) y1))))))))
def zrj:FuncId->Nat->Option Tmpl:=zy [(254,999999,{n:=0,tm:=[],lo:=[],ro:=[]}),(254,1007023,{n:=210,tm:=[(2,ti),(3,ti),(4,ti),(5,ti),(6,.b),(7,.lp 0 0),(14,.lp 1 0),(17,ti),(19,ti),(20,.lp 2 0)],lo:=[(0,[.sl 0 [],.sl 1 [],.sl 2 [],.sl 3 []]),(1,[.sl 4 [],.sl 5 [],.sl 6 [],.sl 7 []]),(2,[ti,ti,ti,ti])],ro:=[(0,(.sl .int),true),(1,.mon,true),(2,.entry,true),(3,.entry,true),(4,(.sl .int),true),(5,.mon,true),(6,.entry,true),(7,.entry,true)],kr:=1}),(254,1009011,{n:=210,tm:=[(4,ti),(6,.b),(7,.lp 0 0),(14,.lp 1 0),(19,ti),(20,.lp 2 0),(22,.lp 3 0)],lo:=[(0,[.sl 0 [],.sl 1 [],.sl 2 [],.sl 3 []]),(1,[.sl 4 [],.sl 5 [],.sl 6 [],.sl 7 []]),(2,[ti,ti,ti,ti]),(3,[ti,ti])],ro:=[(0,(.sl .int),true),(1,.mon,true),(2,.entry,true),(3,.entry,true),(4,(.sl .int),true),(5,.mon,true),(6,.entry,true),(7,.entry,true)],kr:=1}),(254,1005003,{n:=210,tm:=[(7,.lp 0 0),(14,.lp 1 0),(22,.lp 2 0)],lo:=[(0,[.sl 0 [],.sl 1 [],.sl 2 [],.sl 3 []]),(1,[.sl 4 [],.sl 5 [],.sl 6 [],.sl 7 []]),(2,[ti,ti])],ro:=[(0,(.sl .int),true),(1,.mon,true),(2,.entry,true),(3,.entry,true),(4,(.sl .int),true),(5,.mon,true),(6,.entry,true),(7,.entry,true)],kr:=1})]
theorem zMY (N:Nat)(a0:Host)(a2 a3:Int)(a4 a5:Int)(a6:Bool):zQA (cQ zlE zoB zYu zZd) zrj N 12 254 [true,true,true,true,false,false,false,false,false,false] [(4,2)] 1 1 [[0],[1],[2],[4],[7]] .mon [aH a0,aS .entry a0.Buffer,aI a2,aI a3,aI a4,aI a5,aB a6]=zpb N a0 a0.Buffer a2 a3 a4 a5 a6:=by kernel_rfl
theorem zMZ (N:Nat)(a0:Host)(a2 a3:Int)(a4 a5:Int)(a6:Bool):zQA (cQ zlE zoB zYu zZd) zrj N 12 254 [true,true,true,true,false,false,false,false,false,false] [(4,3)] 1 1 [[0],[1],[2],[4],[7]] .mon [aH a0,aS .entry a0.IoBuffer,aI a2,aI a3,aI a4,aI a5,aB a6]=zpb N a0 a0.IoBuffer a2 a3 a4 a5 a6:=by kernel_rfl
theorem zDl {N:Nat}{r:Host}{m g page:Int}{io:Bool}{z1 z2 z3 z4}(hb:r.Buffer.length<=1048576)(hi:r.IoBuffer.length<=1048576) :
 zoh N page io (zeg m g) (zeF (zcs r m g) page).Page (zeF (zcs r m g) page).Rights r.Memory r.Mons r.Buffer r.IoBuffer z1 z2 z3 z4=some (zM6 (zha r m g page io)):=by
 unfold zoh oN
 conv=>zeta
 refine shr ?_;cases io
 .exact zdT rfl (must (zbN hb) rfl)
 .exact must rfl (must (zbN hi) rfl)
theorem zRD {N:Nat}{r:Host}{m g page need q:Int}{io:Bool}{R:OA}{r11}{u6 u7 u8 u9 u10 z1 z2 z3 z4}(A:LookAt r m g q need)(hr:r11 (page,(io,(u6,(u7,(u8,(u9,(u10,((zeF (zcs (zdv (mended r m q need) m g page) m g) page).Page,((zeF (zcs (zdv (mended r m q need) m g page) m g) page).Rights,((zdv (mended r m q need) m g page).Memory,((zdv (mended r m q need) m g page).Mons,((zdv (mended r m q need) m g page).Buffer,((zdv (mended r m q need) m g page).IoBuffer,(z1,(z2,(z3,(z4,())))))))))))))))))=R) :
 zqC N r.Memory r.Mons r.Buffer r.IoBuffer m q need g page r11 io u6 u7 u8 u9 u10 z1 z2 z3 z4=R:=by
 have M:=zDw A.kp A.hm A.hg;have F:=zDw (A.fill page) A.hm A.hg;unfold zqC oN
 conv=>zeta
 exact must (zbN A.mend) (must (zC M.hm) (must (zC M.hm) (must (zC M.ht) (must (zC M.hm) (must (zC M.hg) (must (zC M.hm) (must (zbN M.hk) (must (zC M.ht) (shr (must (zC F.hm) (must (zC F.ht) (must (zbN F.hk) hr))))))))))))
theorem z7K {r:Host}{m g page need:Int}(h:zjS (zcs r m g) page=false):zev r m g page need=true:=by unfold zev;rw[h];rfl
theorem z7L {r:Host}{m g page need:Int}(h:ieq (zeF (zcs r m g) page).Page (-1)=true):zev r m g page need=true:=by unfold zev;rw[h];cases zjS (zcs r m g) page<;>rfl
theorem z7M {r:Host}{m g page need:Int}(h:enough (zeF (zcs r m g) page).Rights need=false):zev r m g page need=true:=by unfold zev;rw[h];cases zjS (zcs r m g) page<;>cases ieq (zeF (zcs r m g) page).Page (-1)<;>rfl
theorem z7N {r:Host}{m g page need:Int}(h1:zjS (zcs r m g) page=true)(h2:ieq (zeF (zcs r m g) page).Page (-1)=false)(h3:enough (zeF (zcs r m g) page).Rights need=true):zev r m g page need=false:=by unfold zev;rw[h1,h2,h3];rfl
theorem zMN {r:Host}{m g page need q:Int}{io:Bool}(h:zev r m g page need=true):(cond (zev r m g page need) (zha (zdv (mended r m q need) m g page) m g page io) (zha r m g page io))=zha (zdv (mended r m q need) m g page) m g page io:=by rw[h];rfl
theorem z7e {r:Host}{m g page need q:Int}{io:Bool}(h:zev r m g page need=false):(cond (zev r m g page need) (zha (zdv (mended r m q need) m g page) m g page io) (zha r m g page io))=zha r m g page io:=by rw[h];rfl
theorem zDm {N:Nat}{r:Host}{m g page need q:Int}{io:Bool}{u7 u8 u9 u10 z1 z2 z3 z4}(A:LookAt r m g q need) :
 zko N m g page need io q (zeg m g) u7 u8 u9 u10 r.Memory r.Mons r.Buffer r.IoBuffer z1 z2 z3 z4=some (zM6 (cond (zev r m g page need) (zha (zdv (mended r m q need) m g page) m g page io) (zha r m g page io))):=by
 have M:=zDw ⟨A.fit.1,rfl⟩ A.hm A.hg;have F:=zDw (A.fill page) A.hm A.hg;unfold zko oN nB
 conv=>zeta
 refine must (zC M.hm) (must (zC M.ht) (must (zbN M.hk) (shr (brN (fun h1=>?_) (fun h1=>br (fun h2=>?_) (fun h2=>must rfl (brN (fun h3=>?_) (fun h3=>?_))))))))
 .rw [zMN (z7K h1)];exact zRD A (zDl (r:=zdv (mended r m q need) m g page) (m:=m) (g:=g) F.hb F.hi)
 .rw [zMN (z7L h2)];exact zRD A (zDl (r:=zdv (mended r m q need) m g page) (m:=m) (g:=g) F.hb F.hi)
 .rw [zMN (z7M h3)];exact zRD A (zDl (r:=zdv (mended r m q need) m g page) (m:=m) (g:=g) F.hb F.hi)
 .rw [z7e (z7N h1 h2 h3)];exact zDl (r:=r) (m:=m) (g:=g) M.hb M.hi
theorem zWp {b:List Entry}{m g page need:Int}(h:(zqe b m g page).isSome=false):zgS b m g page need=false:=by unfold zgS;rw[h];rfl
theorem zDp {b:List Entry}{m g page need:Int}{x:Bool}(h1:(zqe b m g page).isSome=true)(h:enough ((zqe b m g page).getD ⟨0,0,0,0⟩).Rights need=x):zgS b m g page need=x:=by unfold zgS;rw[h1,h];rfl
theorem zDv {r:Host}{b:List Entry}{m g page need q:Int}{io:Bool}(h:zgS b m g page need=false):zg9 r b m g page need q io=bif zev r m g page need then zha (zdv (mended r m q need) m g page) m g page io else zha r m g page io:=by unfold zg9;rw[h];rfl
theorem zWA {r:Host}{b:List Entry}{m g page need q:Int}{io:Bool}(h:zgS b m g page need=true):zg9 r b m g page need q io=(r,((zqe b m g page).getD ⟨0,0,0,0⟩).Host,true):=by unfold zg9;rw[h];rfl
theorem zSP {h:Host}{b:List Entry}{m g page need:Int}{io:Bool}(hh:zb5 h m g page need=true):lookOf h b m g page need io=zg9 (cond (ieq need 2) (zbF h m (zcx (zcK h m g) page need)) h) b m g page need (zcx (zcK h m g) page need) io:=by unfold lookOf;rw[hh];rfl
theorem zZ4 {N:Nat}{r:Host}{b:List Entry}{m g page need:Int}{io:Bool}(hs:SmH r)(hg:zbW r m g=true)(hn:ziN need=true) :
 zqD N m r g page need b io=some (zM6 (lookOf r b m g page need io)):=by
 obtain⟨g1,g2,g3⟩:=zdj hg;unfold zqD oN nB
 conv=>zeta
 refine must (zC g2) (must (zC g3) (must rfl (brN (fun hw=>?_) (fun hw=>must rfl ?_))))
 .have:zb5 r m g page need=false:=by
   unfold zb5;rw[hg,hn,show ze0 (zcK r m g) page need=false from hw];rfl
  rw[zmu this];rfl
 .have hl:zb5 r m g page need=true:=by
   unfold zb5;rw[hg,hn,show ze0 (zcK r m g) page need=true from hw];rfl
  obtain⟨A,B⟩:=zOo hs hl;rw[zSP hl];have hd:hasB (zcx (zcK r m g) page need) (ln (ix r.Mons m mZ).Dirty)=true:=zdk (zcu A.fit.1 g2).2.2.2.1 A.hq;refine br (fun h2=>?_) (fun h2=>?_)
  .rw [h2]
   show _=some (zM6 (zg9 (zbF r m (zcx (zcK r m g) page need)) b m g page need (zcx (zcK r m g) page need) io))
   refine must (zC g2) (must (zC hd) (shr (must rfl (shr (br (fun f1=>must rfl (br (fun f2=>?_) (fun f2=>?_))) (fun f1=>?_))))))
   .rw [zWA (zDp f1 f2)];rfl
   .rw [zDv (zDp f1 f2)];exact zDm (r:=zbF r m (zcx (zcK r m g) page need)) B
   .rw [zDv (zWp f1)];exact zDm (r:=zbF r m (zcx (zcK r m g) page need)) B
  .rw [h2]
   show _=some (zM6 (zg9 r b m g page need (zcx (zcK r m g) page need) io))
   refine must rfl (shr (br (fun f1=>must rfl (br (fun f2=>?_) (fun f2=>?_))) (fun f1=>?_)))
   .rw [zWA (zDp f1 f2)];rfl
   .rw [zDv (zDp f1 f2)];exact zDm A
   .rw [zDv (zWp f1)];exact zDm A
theorem zPZ (a0:Host)(a1:List Entry)(a2 a3:Int)(a4 a5:Int)(a6:Bool)(hb:zcP big [aH a0,aS .entry a1,aI a2,aI a3,aI a4,aI a5,aB a6])(hc:zjn a0 a1 a2 a3 a4 a5 a6=true):∃N,zpb N a0 a1 a2 a3 a4 a5 a6=some [aH (zeD a0 a1 a2 a3 a4 a5 a6),aI (zjm a0 a1 a2 a3 a4 a5 a6),aB (zgj a0 a1 a2 a3 a4 a5 a6)]:=by
 have hs:=(zbb a0).1 (zQ.1 hc);refine⟨0,?_⟩;show _=some (zM6 (lookOf a0 a1 a2 a3 a4 a5 a6));unfold zpb oN nB;conv=>zeta
 refine must rfl (brN (fun h1=>?_) (fun h1=>must rfl ?_));{rw [zmu (zBQ (z6X h1))];rfl};rw[show zS a2 0 (wsub .i64 (ln a0.Mons) 1)=hasB a2 (ln a0.Mons) from zo9 hs.2.1.1 a2];refine brN (fun h2=>?_) (fun h2=>must (zC h2) (must rfl ?_));{rw [zmu (zBQ (z6Y h2))];rfl};have hl:(ix a0.Mons a2 mZ).Guests.length<=1048576:=(hs.2.1.2 _ (zbC h2 _)).2.2.2.1.1;rw[show zS a3 0 (wsub .i64 (ln (ix a0.Mons a2 zh).Guests) 1)=hasB a3 (ln (ix a0.Mons a2 mZ).Guests) from zo9 hl a3];refine brN (fun h3=>?_) (fun h3=>?_);{rw [zmu (zBQ (z6Z h3))];rfl};have hg:=z7a h1 h2 h3;have hno:∀{n:Int},ziN n=false->zb5 a0 a2 a3 a4 n=false:=fun {n} h=>(by unfold zb5;rw[hg,h];rfl);rw[zDt,zDt];cases h4:ieq a5 1;{cases h5:ieq a5 2;{have:ziN a5=false:=(by unfold ziN;rw[h4,h5];rfl);rw[zmu (hno this)];rfl};{exact zZ4 hs hg (by unfold ziN;rw[h4,h5];rfl)}};{exact zZ4 hs hg (by unfold ziN;rw[h4];rfl)}
theorem zJC:zdG Tryz.prog 254 [true,true,true,true,false,false,false,false,false,false] (some (1,1,[[0],[1],[2],[4],[7]])) zq2:=by refine zLv (kt:=.mon) (zfM zhl zJ zcl zNh) (zie (by kernel_rfl)) ?_;intro al avs rs hal heq hl hr h;have hb:=zhF hr;have hal':al=[(4,2)]\/al=[(4,3)]:=(by rw[show zg2 254=[[(4,2)],[(4,3)]] from by kernel_rfl]at hal;simpa using hal);unfold zq2 at h;split at h;{rename_i a0_0 a0_1 a0_2 a0_3 a1 a2 a3 a4 a5 a6;obtain⟨hc,rfl⟩:=zdL h;obtain⟨N,hN⟩:=zPZ (⟨a0_0,a0_1,a0_2,a0_3⟩:Host) a1 a2 a3 a4 a5 a6 hb hc;refine⟨⟨_,rfl⟩,rfl,zrj,N,12,?_⟩;rcases hal' with rfl|rfl;{have e:=heq 4 2 (by simp);simp only[zu,j6,AV.cvs] at e;cases e;exact(zMY N (⟨a0_0,a0_1,a0_2,a0_3⟩:Host) a2 a3 a4 a5 a6).trans hN};{have e:=heq 4 3 (by simp);simp only[zu,j6,AV.cvs] at e;cases e;exact(zMZ N (⟨a0_0,a0_1,a0_2,a0_3⟩:Host) a2 a3 a4 a5 a6).trans hN}};{cases h}
def z3V:ze7:=[(254,([true,true,true,true,false,false,false,false,false,false],(some (1,1,[[0],[1],[2],[4],[7]])),zq2))]++zZd
theorem zh3:zdW z3V:=zo7 zNh (by
 intro x hx;simp only[qF,qP,or_false]at hx;rcases hx with rfl
 .exact zJC)
def gOf (h:Host)(m g:Int):Guest:=ix (ix h.Mons m mZ).Guests g gZ
def zj2 (h:Host)(m g:Int)(x:Guest):Host:={h with Mons:=up h.Mons m {ix h.Mons m mZ with Guests:=up (ix h.Mons m mZ).Guests g x}}
def zlG (h:Host)(m g:Int)(x:Guest)(w:Bool):Host×Int×Bool:=lookOf h h.Buffer m g (zbg (address x)) (zb9 w) false
def ziH (L:Host×Int×Bool)(m g:Int)(x:Guest)(w:Bool):Host :=
 bif L.2.2 then (cond w (zj2 {L.1 with Memory:=zbI L.1.Memory L.2.1 (zc4 (address x)) x.A} m g (zb8 x)) (zj2 L.1 m g (loaded x (cellAt L.1.Memory L.2.1 (zc4 (address x))))))
 else zj2 L.1 m g (stopped x (zqc (zbg (address x)) w))
def owned (h:Host)(m:Int):Host:=bif ilt (ix h.Mons m mZ).Own 1000000000 then {h with Mons:=up h.Mons m {ix h.Mons m mZ with Own:=zK .i64 (ix h.Mons m mZ).Own 1}} else h
def zm4 (h:Host)(m n:Int):Host:=bif ilt (ln (ix h.Mons m mZ).Outs) 40 then {h with Mons:=up h.Mons m {ix h.Mons m mZ with Outs:=ap (ix h.Mons m mZ).Outs [n]}} else h
def zfS (h:Host)(m:Int)(x:Guest)(w:Int):Host:=bif (cond (ine w 6) (ieq (zyE (ix h.Mons m mZ).Traps x.Ctl.Traps (zxF w)) 2) false) then owned h m else h
def zfR (h:Host)(m:Int)(x:Guest)(w:Int):Host:=bif (cond (zjz x.Ctl.Traps w) (ieq w 5) false) then zm4 h m (zcn x.Prog x.Pc).X else h
def zvo (h:Host)(m g:Int)(x:Guest)(w:Int):Host:=zj2 (zfR (zfS h m x w) m x w) m g (ziI x x.Ctl.Traps w)
def zTT (h:Host)(m g:Int)(x:Guest)(w:Int):Host×Bool :=
 bif ieq w 0 then (h,false) else (bif ieq w 1 then (zj2 h m g (interrupted x),true) else (bif ieq w 2 then (zj2 h m g (plainly x),true) else
  (cond (cond (ieq w 3) true (ieq w 4)) (ziH (zlG h m g x (ieq w 4)) m g x (ieq w 4),true) (zvo h m g x w,true))))
def zbB (h:Host)(m g:Int):Host×Bool:=bif zbW h m g then zTT h m g (gOf h m g) (zba (gOf h m g)) else (h,false)
def zfg (x:Host×Bool):List AV:=[.agg (zbj x.1),.one (.b x.2)]
theorem zn9 {h:Host}{m g:Int}(hs:SmH h)(hm:hasB m (ln h.Mons)=true)(hg:hasB g (ln (ix h.Mons m mZ).Guests)=true):SmG (gOf h m g):=(hs.2.1.2 _ (zbC hm _)).2.2.2.1.2 _ (zbC hg _)
theorem zY1 {h:Host}{m g:Int}{x:Guest}(hs:Shape h)(hm:hasB m (ln h.Mons)=true)(hx:SmG x):Shape (zj2 h m g x):=by obtain⟨g1,g2⟩:=zcu hs hm;exact zhA hs ⟨g1.1,g1.2.1,g1.2.2.1,zDI g1.2.2.2.1 hx,g1.2.2.2.2⟩ ⟨g2.1,g2.2.1,g2.2.2.1,by simpa using g2.2.2.2⟩
theorem zJ6 {h:Host}{m:Int}(hm:hasB m (ln h.Mons)=true)(x:Mon):ix (up h.Mons m x) m mZ=x:=by obtain⟨k,rfl,hk⟩:=zds (n:=h.Mons.length) hm;exact zdz hk _ _
@[simp] abbrev zd8 (h:Host)(m g:Int):Bool:=pc (zb2 h)
@[simp] abbrev zCI (h:Host)(m g:Int):Host:=(zbB h m g).1
@[simp] abbrev zCJ (h:Host)(m g:Int):Bool:=(zbB h m g).2
theorem z5p {α:Type}{l:List α}{x:α}(h:ilt (ln l) 40=true):few (ln (ap l [x]))=true:=by have:=qE h;simp only[ln] at this;exact zf1 (by simp[ap];omega)
theorem zW2 {h:Host}{m:Int}{x:Guest}{w:Int}(hh:(cond (zjz x.Ctl.Traps w) (ieq w 5) false)=false):zfR h m x w=h:=by unfold zfR;rw[hh];rfl
theorem zOT {h:Host}{m:Int}{x:Guest}{w:Int}(hh:ilt (ln (ix h.Mons m mZ).Outs) 40=false):zfR h m x w=h:=by unfold zfR zm4;rw[hh];cases (cond (zjz x.Ctl.Traps w) (ieq w 5) false)<;>rfl
theorem zT3 {h:Host}{m:Int}{x:Guest}{w:Int}(h1:zjz x.Ctl.Traps w=true)(h2:ieq w 5=true)(hh:ilt (ln (ix h.Mons m mZ).Outs) 40=true):zfR h m x w={h with Mons:=up h.Mons m {ix h.Mons m mZ with Outs:=ap (ix h.Mons m mZ).Outs [(zcn x.Prog x.Pc).X]}}:=by unfold zfR zm4;rw[h1,h2,hh];rfl
theorem z1A {h:Host}{m:Int}{x:Guest}{w:Int}(h1:zjz x.Ctl.Traps w=false):zfR h m x w=h:=zW2 (by rw[h1];rfl)
theorem zKY {h:Host}{m:Int}{x:Guest}{w:Int}(h1:ieq w 5=false):zfR h m x w=h:=zW2 (by rw[h1];cases zjz x.Ctl.Traps w<;>rfl)
theorem z0k (a:Int):(cond (ieq a a) true false)=true:=by rw[zys];rfl
theorem zk6 {h:Host}{m g:Int}(hh:zbW h m g=false):zbB h m g=(h,false):=by unfold zbB;rw[hh];rfl
theorem ziG {h:Host}{m g:Int}(hh:zbW h m g=true):zbB h m g=zTT h m g (gOf h m g) (zba (gOf h m g)):=by unfold zbB;rw[hh];rfl
theorem zk9 {a b:Bool}(h:(cond a b false)=true):a=true/\b=true:=by cases a;{cases h};{exact⟨rfl,h⟩}
theorem zhC {a b:Bool}(ha:a=true)(hb:b=true):(cond a b false)=true:=by rw[ha];exact hb
theorem zW5 {h:Host}{m:Int}{x:Guest}{w:Int}(h6:ine w 6=true)(h0:ieq (zyE (ix h.Mons m mZ).Traps x.Ctl.Traps (zxF w)) 2=true)(h9:ilt (ix h.Mons m mZ).Own 1000000000=true):zfS h m x w={h with Mons:=up h.Mons m {ix h.Mons m mZ with Own:=zK .i64 (ix h.Mons m mZ).Own 1}}:=by unfold zfS owned;rw[h6,h0,h9];rfl
theorem zW3 {h:Host}{m:Int}{x:Guest}{w:Int}(h0:ieq (zyE (ix h.Mons m mZ).Traps x.Ctl.Traps (zxF w)) 2=false):zfS h m x w=h:=by unfold zfS;rw[h0];cases ine w 6<;>rfl
theorem zW4 {h:Host}{m:Int}{x:Guest}{w:Int}(h9:ilt (ix h.Mons m mZ).Own 1000000000=false):zfS h m x w=h:=by unfold zfS owned;rw[h9];cases (cond (ine w 6) (ieq (zyE (ix h.Mons m mZ).Traps x.Ctl.Traps (zxF w)) 2) false)<;>rfl
theorem z7P {h:Host}{m:Int}{x:Guest}:zfS h m x 6=h:=rfl
theorem zmm {h h':Host}{m g:Int}{x:Guest}{w:Int}(e:zfS h m x w=h'):zvo h m g x w=zj2 (zfR h' m x w) m g (ziI x x.Ctl.Traps w):=by unfold zvo;rw[e]
theorem z3X (x:Guest):ieq (zba x) 0=true\/ieq (zba x) 1=true\/ieq (zba x) 2=true\/ieq (zba x) 3=true\/ieq (zba x) 4=true\/ieq (zba x) 5=true\/ieq (zba x) 6=true\/ieq (zba x) 7=true:=by cases h0:ieq (zba x) 0;{cases h1:ieq (zba x) 1;{cases h2:ieq (zba x) 2;{cases h3:ieq (zba x) 3;{cases h4:ieq (zba x) 4;{cases h5:ieq (zba x) 5;{cases h6:ieq (zba x) 6;{exact .inr (.inr (.inr (.inr (.inr (.inr (.inr (z9x x h0 h1 h2 h3 h4 h5 h6)))))))};{exact .inr (.inr (.inr (.inr (.inr (.inr (.inl rfl))))))}};{exact .inr (.inr (.inr (.inr (.inr (.inl rfl)))))}};{exact .inr (.inr (.inr (.inr (.inl rfl))))}};{exact .inr (.inr (.inr (.inl rfl)))}};{exact .inr (.inr (.inl rfl))}};{exact .inr (.inl rfl)}};{exact .inl rfl}
abbrev zAf (x:Guest):Bool:=bif zee x then ieq (zba x) 0 else false
def znf:List AV->Option (Bool×List AV)
 |[.agg [.s .ins c,.i .i64 d,.i .i64 e,.s .slot f,.s .slot g,.i .i64 h,.i .i64 j,.b k,.i .i64 l,.i .i64 m,.i .i64 n,.b o,.i .i64 p,.b q,.s .int r]]=>some ((zAf (⟨c,d,e,f,g,⟨h,j,k⟩,l,⟨m,n,o,p⟩,q,r⟩:Guest)),[.one (.i .i64 0)])
 |_=>none
theorem zD1:vL 234 znf:=by refine⟨zch.1,fun w avs xs rs hrep h=>?_⟩;unfold znf at h;split at h;{obtain⟨hc,rfl⟩:=zdL h;obtain⟨h1,h2⟩:=zk9 hc;exact zch.2 w _ xs _ hrep (congr (congrArg (fun c v=>some (c,[AV.one (CV.i .i64 v)])) h1) (qE h2))};{cases h}
def z6w:zZ:=[(234,znf)]++zlE
theorem zXu:zL z6w:=zi zD1 zhl
@[simp] abbrev zuR (h:Host)(m g:Int):Bool:=bif zd8 h m g then ieq (zba (gOf h m g)) 0 else false
@[simp] abbrev zuP (h:Host)(m g:Int):Host:=(zbB h m g).1
@[simp] abbrev zuQ (h:Host)(m g:Int):Bool:=(zbB h m g).2
def zEp:Run:=rF3 dH dI dI fun b c d=>(zuR b c d,[aH (zuP b c d),aB (zuQ b c d)])
def ztB (N:Nat)(a0:Host)(a1 a2:Int):OA:=
 let y1:=(zn a0);let y0:=(ix y1.Mons a1 zh).Guests; (oN (zbP a0) (oN (zgk y1 a1 a2) (cond (nB (zh0 y1 a1 a2)) (some [(aH y1),(aB false)]) (oN (inb a1 (ln y1.Mons)) (oN (inb a2 (ln y0)) (oN (zAf (ix y0 a2 zD)) (some [(aH y1),(aB false)])))))))
abbrev zAg (x:Guest):Bool:=bif zee x then ieq (zba x) 1 else false
def zng:List AV->Option (Bool×List AV)
 |[.agg [.s .ins c,.i .i64 d,.i .i64 e,.s .slot f,.s .slot g,.i .i64 h,.i .i64 j,.b k,.i .i64 l,.i .i64 m,.i .i64 n,.b o,.i .i64 p,.b q,.s .int r]]=>some ((zAg (⟨c,d,e,f,g,⟨h,j,k⟩,l,⟨m,n,o,p⟩,q,r⟩:Guest)),[.one (.i .i64 1)])
 |_=>none
theorem zD2:vL 234 zng:=by refine⟨zch.1,fun w avs xs rs hrep h=>?_⟩;unfold zng at h;split at h;{obtain⟨hc,rfl⟩:=zdL h;obtain⟨h1,h2⟩:=zk9 hc;exact zch.2 w _ xs _ hrep (congr (congrArg (fun c v=>some (c,[AV.one (CV.i .i64 v)])) h1) (qE h2))};{cases h}
def z6x:zZ:=[(234,zng)]++zlE
theorem zXv:zL z6x:=zi zD2 zhl
@[simp] abbrev zuU (h:Host)(m g:Int):Bool:=bif zd8 h m g then ieq (zba (gOf h m g)) 1 else false
@[simp] abbrev zuS (h:Host)(m g:Int):Host:=(zbB h m g).1
@[simp] abbrev zuT (h:Host)(m g:Int):Bool:=(zbB h m g).2
def zEq:Run:=rF3 dH dI dI fun b c d=>(zuU b c d,[aH (zuS b c d),aB (zuT b c d)])
def ztC (N:Nat)(a0:Host)(a1 a2:Int):OA:=
 let y2:=(zn a0);let y0:=(ix y2.Mons a1 zh);let y1:=(ix y0.Guests a2 zD); (oN (zbP a0) (oN (zgk y2 a1 a2) (cond (nB (zh0 y2 a1 a2)) (some [(aH y2),(aB false)]) (oN (inb a1 (ln y2.Mons)) (oN (inb a2 (ln y0.Guests)) (oN (zAg y1) (oN (inb a1 (ln y2.Mons)) (oN (znA y1) (oN (inb a2 (ln y0.Guests)) (share (up y2.Mons a1 ({y0 with Guests:=(up y0.Guests a2 (ziR y1))}:Mon)) (fun x4=>(some [(aH ({y2 with Mons:=x4}:Host)),(aB true)]))))))))))))
abbrev zAh (x:Guest):Bool:=bif zee x then ieq (zba x) 2 else false
def znh:List AV->Option (Bool×List AV)
 |[.agg [.s .ins c,.i .i64 d,.i .i64 e,.s .slot f,.s .slot g,.i .i64 h,.i .i64 j,.b k,.i .i64 l,.i .i64 m,.i .i64 n,.b o,.i .i64 p,.b q,.s .int r]]=>some ((zAh (⟨c,d,e,f,g,⟨h,j,k⟩,l,⟨m,n,o,p⟩,q,r⟩:Guest)),[.one (.i .i64 2)])
 |_=>none
theorem zD3:vL 234 znh:=by refine⟨zch.1,fun w avs xs rs hrep h=>?_⟩;unfold znh at h;split at h;{obtain⟨hc,rfl⟩:=zdL h;obtain⟨h1,h2⟩:=zk9 hc;exact zch.2 w _ xs _ hrep (congr (congrArg (fun c v=>some (c,[AV.one (CV.i .i64 v)])) h1) (qE h2))};{cases h}
def z6y:zZ:=[(234,znh)]++zlE
theorem zXw:zL z6y:=zi zD3 zhl
@[simp] abbrev zuX (h:Host)(m g:Int):Bool:=bif zd8 h m g then ieq (zba (gOf h m g)) 2 else false
@[simp] abbrev zuV (h:Host)(m g:Int):Host:=(zbB h m g).1
@[simp] abbrev zuW (h:Host)(m g:Int):Bool:=(zbB h m g).2
def zEr:Run:=rF3 dH dI dI fun b c d=>(zuX b c d,[aH (zuV b c d),aB (zuW b c d)])
def ztD (N:Nat)(a0:Host)(a1 a2:Int):OA:=
 let y2:=(zn a0);let y0:=(ix y2.Mons a1 zh);let y1:=(ix y0.Guests a2 zD); (oN (zbP a0) (oN (zgk y2 a1 a2) (cond (nB (zh0 y2 a1 a2)) (some [(aH y2),(aB false)]) (oN (inb a1 (ln y2.Mons)) (oN (inb a2 (ln y0.Guests)) (oN (zAh y1) (oN (inb a1 (ln y2.Mons)) (oN (zv5 y1) (oN (inb a2 (ln y0.Guests)) (share (up y2.Mons a1 ({y0 with Guests:=(up y0.Guests a2 (zqw y1))}:Mon)) (fun x4=>(some [(aH ({y2 with Mons:=x4}:Host)),(aB true)]))))))))))))
abbrev zAi (x:Guest):Bool:=bif zee x then ieq (zba x) 3 else false
def zni:List AV->Option (Bool×List AV)
 |[.agg [.s .ins c,.i .i64 d,.i .i64 e,.s .slot f,.s .slot g,.i .i64 h,.i .i64 j,.b k,.i .i64 l,.i .i64 m,.i .i64 n,.b o,.i .i64 p,.b q,.s .int r]]=>some ((zAi (⟨c,d,e,f,g,⟨h,j,k⟩,l,⟨m,n,o,p⟩,q,r⟩:Guest)),[.one (.i .i64 3)])
 |_=>none
theorem zD4:vL 234 zni:=by refine⟨zch.1,fun w avs xs rs hrep h=>?_⟩;unfold zni at h;split at h;{obtain⟨hc,rfl⟩:=zdL h;obtain⟨h1,h2⟩:=zk9 hc;exact zch.2 w _ xs _ hrep (congr (congrArg (fun c v=>some (c,[AV.one (CV.i .i64 v)])) h1) (qE h2))};{cases h}
def z6z:zZ:=[(234,zni)]++zlE
theorem zXx:zL z6z:=zi zD4 zhl
@[simp] abbrev zu0 (h:Host)(m g:Int):Bool:=bif zd8 h m g then ieq (zba (gOf h m g)) 3 else false
@[simp] abbrev zuY (h:Host)(m g:Int):Host:=(zbB h m g).1
@[simp] abbrev zuZ (h:Host)(m g:Int):Bool:=(zbB h m g).2
def zEs:Run:=rF3 dH dI dI fun b c d=>(zu0 b c d,[aH (zuY b c d),aB (zuZ b c d)])
def ztE (N:Nat)(a0:Host)(a1 a2:Int):OA:=
 let y6:=(zn a0);let y9:=(ix y6.Mons a1 zh).Guests;let y1:=(ix y9 a2 zD);let y7:=(zh7 y1);let y8:=(zcM y7);let y4:=(zjm y6 y6.Buffer a1 a2 y8 (zeT false) false);let y0:=(zeD y6 y6.Buffer a1 a2 y8 (zeT false) false);let y3:=(ix y0.Mons a1 zh);let y5:=(ix y3.Guests a2 zD);let y2:=({y1 with Prog:=y5.Prog,Written:=y5.Written,Live:=y5.Live,Seen:=y5.Seen}:Guest); (oN (zbP a0) (oN (zgk y6 a1 a2) (cond (nB (zh0 y6 a1 a2)) (some [(aH y6),(aB false)]) (oN (inb a1 (ln y6.Mons)) (oN (inb a2 (ln y9)) (oN (zAi y1) (oN (zpv y1) (oN (zfH y7) (oN (zrP false) (oN (zjn y6 y6.Buffer a1 a2 y8 (zeT false) false) (cond (nB (zgj y6 y6.Buffer a1 a2 y8 (zeT false) false)) (oN (inb a1 (ln y0.Mons)) (oN (zfH y7) (oN (ziP y8 false) (oN (zdO y2 (zex y8 false)) (oN (inb a2 (ln y3.Guests)) (share (up y0.Mons a1 ({y3 with Guests:=(up y3.Guests a2 (zdr y2 (zex y8 false)))}:Mon)) (fun x4=>(some [(aH ({y0 with Mons:=x4}:Host)),(aB true)])))))))) (oN (inb a1 (ln y0.Mons)) (oN (zhO y7) (oN (zrN y0.Memory y4 (zdU y7)) (oN (zyP y2 (zmd y0.Memory y4 (zdU y7))) (oN (inb a2 (ln y3.Guests)) (share (up y0.Mons a1 ({y3 with Guests:=(up y3.Guests a2 (ztj y2 (zmd y0.Memory y4 (zdU y7))))}:Mon)) (fun x4=>(some [(aH ({y0 with Mons:=x4}:Host)),(aB true)])))))))))))))))))))
abbrev zAj (x:Guest):Bool:=bif zee x then ieq (zba x) 4 else false
def znj:List AV->Option (Bool×List AV)
 |[.agg [.s .ins c,.i .i64 d,.i .i64 e,.s .slot f,.s .slot g,.i .i64 h,.i .i64 j,.b k,.i .i64 l,.i .i64 m,.i .i64 n,.b o,.i .i64 p,.b q,.s .int r]]=>some ((zAj (⟨c,d,e,f,g,⟨h,j,k⟩,l,⟨m,n,o,p⟩,q,r⟩:Guest)),[.one (.i .i64 4)])
 |_=>none
theorem zD5:vL 234 znj:=by refine⟨zch.1,fun w avs xs rs hrep h=>?_⟩;unfold znj at h;split at h;{obtain⟨hc,rfl⟩:=zdL h;obtain⟨h1,h2⟩:=zk9 hc;exact zch.2 w _ xs _ hrep (congr (congrArg (fun c v=>some (c,[AV.one (CV.i .i64 v)])) h1) (qE h2))};{cases h}
def z6A:zZ:=[(234,znj)]++zlE
theorem zXy:zL z6A:=zi zD5 zhl
@[simp] abbrev zu4 (h:Host)(m g:Int):Bool:=bif zd8 h m g then ieq (zba (gOf h m g)) 4 else false
@[simp] abbrev zu1 (h:Host)(m g:Int):Host:=(zbB h m g).1
@[simp] abbrev zu3 (h:Host)(m g:Int):Bool:=(zbB h m g).2
def zEt:Run:=rF3 dH dI dI fun b c d=>(zu4 b c d,[aH (zu1 b c d),aB (zu3 b c d)])
def ztF (N:Nat)(a0:Host)(a1 a2:Int):OA:=
 let y4:=(zn a0);let y8:=(ix y4.Mons a1 zh).Guests;let y1:=(ix y8 a2 zD);let y9:=(zh7 y1);let y5:=(zcM y9);let y7:=(zjm y4 y4.Buffer a1 a2 y5 (zeT true) false);let y0:=(zeD y4 y4.Buffer a1 a2 y5 (zeT true) false);let y3:=(ix y0.Mons a1 zh);let y6:=(ix y3.Guests a2 zD);let y2:=({y1 with Prog:=y6.Prog,Written:=y6.Written,Live:=y6.Live,Seen:=y6.Seen}:Guest); (oN (zbP a0) (oN (zgk y4 a1 a2) (cond (nB (zh0 y4 a1 a2)) (some [(aH y4),(aB false)]) (oN (inb a1 (ln y4.Mons)) (oN (inb a2 (ln y8)) (oN (zAj y1) (oN (zpv y1) (oN (zfH y9) (oN (zrP true) (oN (zjn y4 y4.Buffer a1 a2 y5 (zeT true) false) (cond (nB (zgj y4 y4.Buffer a1 a2 y5 (zeT true) false)) (oN (inb a1 (ln y0.Mons)) (oN (zfH y9) (oN (ziP y5 true) (oN (zdO y2 (zex y5 true)) (oN (inb a2 (ln y3.Guests)) (share (up y0.Mons a1 ({y3 with Guests:=(up y3.Guests a2 (zdr y2 (zex y5 true)))}:Mon)) (fun x4=>(some [(aH ({y0 with Mons:=x4}:Host)),(aB true)])))))))) (oN (zhO y9) (oN (zhU y0.Memory y7 (zdU y9) y1.A) (oN (inb a1 (ln y0.Mons)) (oN (zyW y2) (oN (inb a2 (ln y3.Guests)) (share (up y0.Mons a1 ({y3 with Guests:=(up y3.Guests a2 (ztm y2))}:Mon)) (fun x4=>(some [(aH ({y0 with Memory:=(zix y0.Memory y7 (zdU y9) y1.A),Mons:=x4}:Host)),(aB true)])))))))))))))))))))
abbrev zAk (x:Guest):Bool:=bif zee x then ieq (zba x) 5 else false
def znk:List AV->Option (Bool×List AV)
 |[.agg [.s .ins c,.i .i64 d,.i .i64 e,.s .slot f,.s .slot g,.i .i64 h,.i .i64 j,.b k,.i .i64 l,.i .i64 m,.i .i64 n,.b o,.i .i64 p,.b q,.s .int r]]=>some ((zAk (⟨c,d,e,f,g,⟨h,j,k⟩,l,⟨m,n,o,p⟩,q,r⟩:Guest)),[.one (.i .i64 5)])
 |_=>none
theorem zD6:vL 234 znk:=by refine⟨zch.1,fun w avs xs rs hrep h=>?_⟩;unfold znk at h;split at h;{obtain⟨hc,rfl⟩:=zdL h;obtain⟨h1,h2⟩:=zk9 hc;exact zch.2 w _ xs _ hrep (congr (congrArg (fun c v=>some (c,[AV.one (CV.i .i64 v)])) h1) (qE h2))};{cases h}
def z6B:zZ:=[(234,znk)]++zlE
theorem zXz:zL z6B:=zi zD6 zhl
@[simp] abbrev zu7 (h:Host)(m g:Int):Bool:=bif zd8 h m g then ieq (zba (gOf h m g)) 5 else false
@[simp] abbrev zu5 (h:Host)(m g:Int):Host:=(zbB h m g).1
@[simp] abbrev zu6 (h:Host)(m g:Int):Bool:=(zbB h m g).2
def zEu:Run:=rF3 dH dI dI fun b c d=>(zu7 b c d,[aH (zu5 b c d),aB (zu6 b c d)])
def ztG (N:Nat)(a0:Host)(a1 a2:Int):OA:=
 let y8:=(zn a0);let y4:=(inb a1 (ln y8.Mons));let y2:=(ix y8.Mons a1 zh);let y10:=(inb a2 (ln y2.Guests));let y0:=(ix y2.Guests a2 zD);let y9:=(ap y2.Outs [(zfm y0.Prog y0.Pc).X]);let y16:=(up y8.Mons a1 ({y2 with Outs:=y9}:Mon));let y7:=y0.Ctl.Traps;let y5:=(up y8.Mons a1 ({y2 with Guests:=(up y2.Guests a2 (zcf y0 y7 5))}:Mon)); (oN (zbP a0) (oN (zgk y8 a1 a2) (cond (nB (zh0 y8 a1 a2)) (some [(aH y8),(aB false)]) (oN y4 (oN y10 (oN (zAk y0) (oN y4 (oN (zpN y2.Traps y7 1) (cond (ieq (zmA y2.Traps y7 1) 2) (oN y4 (cond (ilt y2.Own 1000000000) (oN y4 (oN y4 (share (up y8.Mons a1 ({y2 with Own:=(zK .i64 y2.Own 1)}:Mon)) (fun x4=>let y12:=(inb a1 (ln x4));let y3:=(ix x4 a1 zh);let y6:=(ix y3.Guests a2 zD);let y17:=(ap y3.Outs [(zfm y6.Prog y0.Pc).X]);let y1:=({y0 with Prog:=y6.Prog,Written:=y6.Written,Live:=y6.Live,Seen:=y6.Seen}:Guest);let y11:=(up x4 a1 ({y3 with Guests:=(up y3.Guests a2 (zcf y1 y7 5))}:Mon)); (oN (zdB y1 y7 5) (cond (zdb y1 y7 5) (oN y12 (cond (ilt (ln y3.Outs) 40) (oN y12 (oN (ze4 y6.Prog y0.Pc) (oN (few (ln y17)) (oN y12 (oN (cond (ieq a1 a1) true false) (share (up x4 a1 ({y3 with Outs:=y17}:Mon)) (fun x5=>let y13:=(ix x5 a1 zh); (oN (inb a1 (ln x5)) (oN (inb a2 (ln y13.Guests)) (share (up x5 a1 ({y13 with Guests:=(up y13.Guests a2 (zcf y1 y7 5))}:Mon)) (fun x6=>(some [(aH ({y8 with Mons:=x6}:Host)),(aB true)])))))))))))) (oN y12 (oN (inb a2 (ln y3.Guests)) (share y11 (fun x5=>(some [(aH ({y8 with Mons:=x5}:Host)),(aB true)]))))))) (oN y12 (oN (inb a2 (ln y3.Guests)) (share y11 (fun x5=>(some [(aH ({y8 with Mons:=x5}:Host)),(aB true)]))))))))))) (oN (zdB y0 y7 5) (cond (zdb y0 y7 5) (oN y4 (cond (ilt (ln y2.Outs) 40) (oN y4 (oN (ze4 y0.Prog y0.Pc) (oN (few (ln y9)) (oN y4 (oN (cond (ieq a1 a1) true false) (share y16 (fun x4=>let y14:=(ix x4 a1 zh); (oN (inb a1 (ln x4)) (oN (inb a2 (ln y14.Guests)) (share (up x4 a1 ({y14 with Guests:=(up y14.Guests a2 (zcf y0 y7 5))}:Mon)) (fun x5=>(some [(aH ({y8 with Mons:=x5}:Host)),(aB true)])))))))))))) (oN y4 (oN y10 (share y5 (fun x4=>(some [(aH ({y8 with Mons:=x4}:Host)),(aB true)]))))))) (oN y4 (oN y10 (share y5 (fun x4=>(some [(aH ({y8 with Mons:=x4}:Host)),(aB true)]))))))))) (oN (zdB y0 y7 5) (cond (zdb y0 y7 5) (oN y4 (cond (ilt (ln y2.Outs) 40) (oN y4 (oN (ze4 y0.Prog y0.Pc) (oN (few (ln y9)) (oN y4 (oN (cond (ieq a1 a1) true false) (share y16 (fun x4=>let y15:=(ix x4 a1 zh); (oN (inb a1 (ln x4)) (oN (inb a2 (ln y15.Guests)) (share (up x4 a1 ({y15 with Guests:=(up y15.Guests a2 (zcf y0 y7 5))}:Mon)) (fun x5=>(some [(aH ({y8 with Mons:=x5}:Host)),(aB true)])))))))))))) (oN y4 (oN y10 (share y5 (fun x4=>(some [(aH ({y8 with Mons:=x4}:Host)),(aB true)]))))))) (oN y4 (oN y10 (share y5 (fun x4=>(some [(aH ({y8 with Mons:=x4}:Host)),(aB true)]))))))))))))))))
abbrev zAl (x:Guest):Bool:=bif zee x then ieq (zba x) 6 else false
def znl:List AV->Option (Bool×List AV)
 |[.agg [.s .ins c,.i .i64 d,.i .i64 e,.s .slot f,.s .slot g,.i .i64 h,.i .i64 j,.b k,.i .i64 l,.i .i64 m,.i .i64 n,.b o,.i .i64 p,.b q,.s .int r]]=>some ((zAl (⟨c,d,e,f,g,⟨h,j,k⟩,l,⟨m,n,o,p⟩,q,r⟩:Guest)),[.one (.i .i64 6)])
 |_=>none
theorem zD7:vL 234 znl:=by refine⟨zch.1,fun w avs xs rs hrep h=>?_⟩;unfold znl at h;split at h;{obtain⟨hc,rfl⟩:=zdL h;obtain⟨h1,h2⟩:=zk9 hc;exact zch.2 w _ xs _ hrep (congr (congrArg (fun c v=>some (c,[AV.one (CV.i .i64 v)])) h1) (qE h2))};{cases h}
def z6C:zZ:=[(234,znl)]++zlE
theorem zXA:zL z6C:=zi zD7 zhl
@[simp] abbrev zva (h:Host)(m g:Int):Bool:=bif zd8 h m g then ieq (zba (gOf h m g)) 6 else false
@[simp] abbrev zu8 (h:Host)(m g:Int):Host:=(zbB h m g).1
@[simp] abbrev zu9 (h:Host)(m g:Int):Bool:=(zbB h m g).2
def zEv:Run:=rF3 dH dI dI fun b c d=>(zva b c d,[aH (zu8 b c d),aB (zu9 b c d)])
def ztH (N:Nat)(a0:Host)(a1 a2:Int):OA:=
 let y3:=(zn a0);let y4:=(inb a1 (ln y3.Mons));let y0:=(ix y3.Mons a1 zh);let y5:=(inb a2 (ln y0.Guests));let y1:=(ix y0.Guests a2 zD);let y2:=(up y3.Mons a1 ({y0 with Guests:=(up y0.Guests a2 (zcf y1 y1.Ctl.Traps 6))}:Mon)); (oN (zbP a0) (oN (zgk y3 a1 a2) (cond (nB (zh0 y3 a1 a2)) (some [(aH y3),(aB false)]) (oN y4 (oN y5 (oN (zAl y1) (oN (zdB y1 y1.Ctl.Traps 6) (cond (zdb y1 y1.Ctl.Traps 6) (oN y4 (oN y5 (share y2 (fun x4=>(some [(aH ({y3 with Mons:=x4}:Host)),(aB true)]))))) (oN y4 (oN y5 (share y2 (fun x4=>(some [(aH ({y3 with Mons:=x4}:Host)),(aB true)])))))))))))))
abbrev zAm (x:Guest):Bool:=bif zee x then ieq (zba x) 7 else false
def znm:List AV->Option (Bool×List AV)
 |[.agg [.s .ins c,.i .i64 d,.i .i64 e,.s .slot f,.s .slot g,.i .i64 h,.i .i64 j,.b k,.i .i64 l,.i .i64 m,.i .i64 n,.b o,.i .i64 p,.b q,.s .int r]]=>some ((zAm (⟨c,d,e,f,g,⟨h,j,k⟩,l,⟨m,n,o,p⟩,q,r⟩:Guest)),[.one (.i .i64 7)])
 |_=>none
theorem zD8:vL 234 znm:=by refine⟨zch.1,fun w avs xs rs hrep h=>?_⟩;unfold znm at h;split at h;{obtain⟨hc,rfl⟩:=zdL h;obtain⟨h1,h2⟩:=zk9 hc;exact zch.2 w _ xs _ hrep (congr (congrArg (fun c v=>some (c,[AV.one (CV.i .i64 v)])) h1) (qE h2))};{cases h}
def z6D:zZ:=[(234,znm)]++zlE
theorem zXB:zL z6D:=zi zD8 zhl
@[simp] abbrev zvd (h:Host)(m g:Int):Bool:=bif zd8 h m g then ieq (zba (gOf h m g)) 7 else false
@[simp] abbrev zvb (h:Host)(m g:Int):Host:=(zbB h m g).1
@[simp] abbrev zvc (h:Host)(m g:Int):Bool:=(zbB h m g).2
def zEw:Run:=rF3 dH dI dI fun b c d=>(zvd b c d,[aH (zvb b c d),aB (zvc b c d)])
def ztI (N:Nat)(a0:Host)(a1 a2:Int):OA:=
 let y9:=(zn a0);let y4:=(inb a1 (ln y9.Mons));let y2:=(ix y9.Mons a1 zh);let y8:=(inb a2 (ln y2.Guests));let y0:=(ix y2.Guests a2 zD);let y6:=y0.Ctl.Traps;let y3:=(up y9.Mons a1 ({y2 with Guests:=(up y2.Guests a2 (zcf y0 y6 7))}:Mon)); (oN (zbP a0) (oN (zgk y9 a1 a2) (cond (nB (zh0 y9 a1 a2)) (some [(aH y9),(aB false)]) (oN y4 (oN y8 (oN (zAm y0) (oN y4 (oN (zpN y2.Traps y6 2) (cond (ieq (zmA y2.Traps y6 2) 2) (oN y4 (cond (ilt y2.Own 1000000000) (oN y4 (oN y4 (share (up y9.Mons a1 ({y2 with Own:=(zK .i64 y2.Own 1)}:Mon)) (fun x4=>let y5:=(ix x4 a1 zh);let y7:=(ix y5.Guests a2 zD);let y1:=({y0 with Prog:=y7.Prog,Written:=y7.Written,Live:=y7.Live,Seen:=y7.Seen}:Guest);let y10:=(up x4 a1 ({y5 with Guests:=(up y5.Guests a2 (zcf y1 y6 7))}:Mon)); (oN (zdB y1 y6 7) (cond (zdb y1 y6 7) (oN (inb a1 (ln x4)) (oN (inb a2 (ln y5.Guests)) (share y10 (fun x5=>(some [(aH ({y9 with Mons:=x5}:Host)),(aB true)]))))) (oN (inb a1 (ln x4)) (oN (inb a2 (ln y5.Guests)) (share y10 (fun x5=>(some [(aH ({y9 with Mons:=x5}:Host)),(aB true)]))))))))))) (oN (zdB y0 y6 7) (cond (zdb y0 y6 7) (oN y4 (oN y8 (share y3 (fun x4=>(some [(aH ({y9 with Mons:=x4}:Host)),(aB true)]))))) (oN y4 (oN y8 (share y3 (fun x4=>(some [(aH ({y9 with Mons:=x4}:Host)),(aB true)]))))))))) (oN (zdB y0 y6 7) (cond (zdb y0 y6 7) (oN y4 (oN y8 (share y3 (fun x4=>(some [(aH ({y9 with Mons:=x4}:Host)),(aB true)]))))) (oN y4 (oN y8 (share y3 (fun x4=>(some [(aH ({y9 with Mons:=x4}:Host)),(aB true)]))))))))))))))))
theorem zEf (a0:Host)(a1 a2:Int)(hc:zuR a0 a1 a2=true):∃N,ztB N a0 a1 a2=some [aH (zuP a0 a1 a2),aB (zuQ a0 a1 a2)]:=by
 obtain⟨hc,hw⟩:=zk9 hc;have hs:=(zbb a0).1 (zQ.1 hc);refine⟨0,?_⟩;show _=some (zfg (zbB a0 a1 a2));unfold ztB oN nB;conv=>zeta
 refine must (zbN ((zbb _).2 hs)) (must (zbN ((zbb _).2 hs)) (brN (fun hh=>?_) (fun hh=>?_)));{rw [zk6 hh];rfl};obtain⟨g1,g2,g3⟩:=zdj hh;have hx:=zn9 hs g2 g3;have hk:zba (gOf a0 a1 a2)=0:=qE hw;rw[ziG hh,hk];refine must (zC g2) (must (zC g3) (must (zhC rfl hw) ?_));rfl
theorem zoc:vL 156 zEp:=kF3 zXu zJ zcl zh3 (zy []) zEf
theorem zEg (a0:Host)(a1 a2:Int)(hc:zuU a0 a1 a2=true):∃N,ztC N a0 a1 a2=some [aH (zuS a0 a1 a2),aB (zuT a0 a1 a2)]:=by
 obtain⟨hc,hw⟩:=zk9 hc;have hs:=(zbb a0).1 (zQ.1 hc);refine⟨0,?_⟩;show _=some (zfg (zbB a0 a1 a2));unfold ztC oN nB;conv=>zeta
 refine must (zbN ((zbb _).2 hs)) (must (zbN ((zbb _).2 hs)) (brN (fun hh=>?_) (fun hh=>?_)));{rw [zk6 hh];rfl};obtain⟨g1,g2,g3⟩:=zdj hh;have hx:=zn9 hs g2 g3;have hk:zba (gOf a0 a1 a2)=1:=qE hw;rw[ziG hh,hk];refine must (zC g2) (must (zC g3) (must (zhC rfl hw) ?_));show _=some (zfg (zj2 a0 a1 a2 (interrupted (gOf a0 a1 a2)),true));exact must (zC g2) (must (zbN hx) (must (zC g3) rfl))
theorem zAt:vL 156 zEq:=kF3 zXv zJ zcl zh3 (zy []) zEg
theorem zEh (a0:Host)(a1 a2:Int)(hc:zuX a0 a1 a2=true):∃N,ztD N a0 a1 a2=some [aH (zuV a0 a1 a2),aB (zuW a0 a1 a2)]:=by
 obtain⟨hc,hw⟩:=zk9 hc;have hs:=(zbb a0).1 (zQ.1 hc);refine⟨0,?_⟩;show _=some (zfg (zbB a0 a1 a2));unfold ztD oN nB;conv=>zeta
 refine must (zbN ((zbb _).2 hs)) (must (zbN ((zbb _).2 hs)) (brN (fun hh=>?_) (fun hh=>?_)));{rw [zk6 hh];rfl};obtain⟨g1,g2,g3⟩:=zdj hh;have hx:=zn9 hs g2 g3;have hk:zba (gOf a0 a1 a2)=2:=qE hw;rw[ziG hh,hk];refine must (zC g2) (must (zC g3) (must (zhC rfl hw) ?_));show _=some (zfg (zj2 a0 a1 a2 (plainly (gOf a0 a1 a2)),true));exact must (zC g2) (must (zbN hx) (must (zC g3) rfl))
theorem zAu:vL 156 zEr:=kF3 zXw zJ zcl zh3 (zy []) zEh
theorem zEi (a0:Host)(a1 a2:Int)(hc:zu0 a0 a1 a2=true):∃N,ztE N a0 a1 a2=some [aH (zuY a0 a1 a2),aB (zuZ a0 a1 a2)]:=by
 obtain⟨hc,hw⟩:=zk9 hc;have hs:=(zbb a0).1 (zQ.1 hc);refine⟨0,?_⟩;show _=some (zfg (zbB a0 a1 a2));unfold ztE oN nB;conv=>zeta
 refine must (zbN ((zbb _).2 hs)) (must (zbN ((zbb _).2 hs)) (brN (fun hh=>?_) (fun hh=>?_)));{rw [zk6 hh];rfl};obtain⟨g1,g2,g3⟩:=zdj hh;have hx:=zn9 hs g2 g3;have hk:zba (gOf a0 a1 a2)=3:=qE hw;rw[ziG hh,hk];refine must (zC g2) (must (zC g3) (must (zhC rfl hw) ?_));show _=some (zfg (ziH (zlG a0 a1 a2 (gOf a0 a1 a2) false) a1 a2 (gOf a0 a1 a2) false,true));have k:=zwN (b:=a0.Buffer) (page:=zbg (address (gOf a0 a1 a2))) (need:=zb9 false) (io:=false) hs hh;have F:=zDw k g2 g3;have e3:(ix (ix (zeD (zn a0) (zn a0).Buffer a1 a2 (zcM (zh7 (ix (ix (zn a0).Mons a1 zh).Guests a2 zD))) (zeT false) false).Mons a1 zh).Guests a2 zD)=(ix (ix (zn a0).Mons a1 zh).Guests a2 zD):=congrArg (fun l=>ix l a2 gZ) (zI0 k.gs a1);rw[e3];unfold ziH;refine must rfl (must rfl (must rfl (must (zbN ((zbb _).2 hs)) (brN (fun h=>?_) (fun h=>?_)))));{rw [show (zlG a0 a1 a2 (gOf a0 a1 a2) false).2.2=false from h];exact must (zC F.hm) (must rfl (must rfl (must (zbN hx) (must (zC F.hg) rfl))))};{rw [show (zlG a0 a1 a2 (gOf a0 a1 a2) false).2.2=true from h];exact must (zC F.hm) (must rfl (must rfl (must (zbN hx) (must (zC F.hg) rfl))))}
theorem zAv:vL 156 zEs:=kF3 zXx zJ zcl zh3 (zy []) zEi
theorem zEj (a0:Host)(a1 a2:Int)(hc:zu4 a0 a1 a2=true):∃N,ztF N a0 a1 a2=some [aH (zu1 a0 a1 a2),aB (zu3 a0 a1 a2)]:=by
 obtain⟨hc,hw⟩:=zk9 hc;have hs:=(zbb a0).1 (zQ.1 hc);refine⟨0,?_⟩;show _=some (zfg (zbB a0 a1 a2));unfold ztF oN nB;conv=>zeta
 refine must (zbN ((zbb _).2 hs)) (must (zbN ((zbb _).2 hs)) (brN (fun hh=>?_) (fun hh=>?_)));{rw [zk6 hh];rfl};obtain⟨g1,g2,g3⟩:=zdj hh;have hx:=zn9 hs g2 g3;have hk:zba (gOf a0 a1 a2)=4:=qE hw;rw[ziG hh,hk];refine must (zC g2) (must (zC g3) (must (zhC rfl hw) ?_));show _=some (zfg (ziH (zlG a0 a1 a2 (gOf a0 a1 a2) true) a1 a2 (gOf a0 a1 a2) true,true));have k:=zwN (b:=a0.Buffer) (page:=zbg (address (gOf a0 a1 a2))) (need:=zb9 true) (io:=false) hs hh;have F:=zDw k g2 g3;have e3:(ix (ix (zeD (zn a0) (zn a0).Buffer a1 a2 (zcM (zh7 (ix (ix (zn a0).Mons a1 zh).Guests a2 zD))) (zeT true) false).Mons a1 zh).Guests a2 zD)=(ix (ix (zn a0).Mons a1 zh).Guests a2 zD):=congrArg (fun l=>ix l a2 gZ) (zI0 k.gs a1);rw[e3];unfold ziH;refine must rfl (must rfl (must rfl (must (zbN ((zbb _).2 hs)) (brN (fun h=>?_) (fun h=>?_)))));{rw [show (zlG a0 a1 a2 (gOf a0 a1 a2) true).2.2=false from h];exact must (zC F.hm) (must rfl (must rfl (must (zbN hx) (must (zC F.hg) rfl))))};{rw [show (zlG a0 a1 a2 (gOf a0 a1 a2) true).2.2=true from h];exact must rfl (must (zbN k.shape.1.1) (must (zC F.hm) (must (zbN hx) (must (zC F.hg) rfl))))}
theorem zAw:vL 156 zEt:=kF3 zXy zJ zcl zh3 (zy []) zEj
theorem z5q {a0:Host}{a1 a2:Int}(hx:SmG (gOf a0 a1 a2))(g2:hasB a1 (ln a0.Mons)=true)(g3:hasB a2 (ln (ix a0.Mons a1 mZ).Guests)=true) :
 (cond (zdB (ix (ix (zn a0).Mons a1 zh).Guests a2 zD) (ix (ix (zn a0).Mons a1 zh).Guests a2 zD).Ctl.Traps 5) (cond (zdb (ix (ix (zn a0).Mons a1 zh).Guests a2 zD) (ix (ix (zn a0).Mons a1 zh).Guests a2 zD).Ctl.Traps 5) (cond (inb a1 (ln (zn a0).Mons)) (cond (ilt (ln (ix (zn a0).Mons a1 zh).Outs) 40) (cond (inb a1 (ln (zn a0).Mons)) (cond (ze4 (ix (ix (zn a0).Mons a1 zh).Guests a2 zD).Prog (ix (ix (zn a0).Mons a1 zh).Guests a2 zD).Pc) (cond (few (ln (ap (ix (zn a0).Mons a1 zh).Outs [(zfm (ix (ix (zn a0).Mons a1 zh).Guests a2 zD).Prog (ix (ix (zn a0).Mons a1 zh).Guests a2 zD).Pc).X]))) (cond (inb a1 (ln (zn a0).Mons)) (cond (cond (ieq a1 a1) true false) (share (up (zn a0).Mons a1 ({ (ix (zn a0).Mons a1 zh) with Outs:=(ap (ix (zn a0).Mons a1 zh).Outs [(zfm (ix (ix (zn a0).Mons a1 zh).Guests a2 zD).Prog (ix (ix (zn a0).Mons a1 zh).Guests a2 zD).Pc).X])}:Mon)) (fun x4=>(cond (inb a1 (ln x4)) (cond (inb a2 (ln (ix x4 a1 zh).Guests)) (share (up x4 a1 ({ (ix x4 a1 zh) with Guests:=(up (ix x4 a1 zh).Guests a2 (zcf (ix (ix (zn a0).Mons a1 zh).Guests a2 zD) (ix (ix (zn a0).Mons a1 zh).Guests a2 zD).Ctl.Traps 5))}:Mon)) (fun x5=>(some [(.agg (zbj ({ (zn a0) with Mons:=x5}:Host))),(.one (.b true))]))) none) none))) none) none) none) none) none) (cond (inb a1 (ln (zn a0).Mons)) (cond (inb a2 (ln (ix (zn a0).Mons a1 zh).Guests)) (share (up (zn a0).Mons a1 ({ (ix (zn a0).Mons a1 zh) with Guests:=(up (ix (zn a0).Mons a1 zh).Guests a2 (zcf (ix (ix (zn a0).Mons a1 zh).Guests a2 zD) (ix (ix (zn a0).Mons a1 zh).Guests a2 zD).Ctl.Traps 5))}:Mon)) (fun x4=>(some [(.agg (zbj ({ (zn a0) with Mons:=x4}:Host))),(.one (.b true))]))) none) none)) none) (cond (inb a1 (ln (zn a0).Mons)) (cond (inb a2 (ln (ix (zn a0).Mons a1 zh).Guests)) (share (up (zn a0).Mons a1 ({ (ix (zn a0).Mons a1 zh) with Guests:=(up (ix (zn a0).Mons a1 zh).Guests a2 (zcf (ix (ix (zn a0).Mons a1 zh).Guests a2 zD) (ix (ix (zn a0).Mons a1 zh).Guests a2 zD).Ctl.Traps 5))}:Mon)) (fun x4=>(some [(.agg (zbj ({ (zn a0) with Mons:=x4}:Host))),(.one (.b true))]))) none) none)) none)=some (zfg (zj2 (zfR a0 a1 (gOf a0 a1 a2) 5) a1 a2 (ziI (gOf a0 a1 a2) (gOf a0 a1 a2).Ctl.Traps 5),true)):=by
 refine must (zbN hx) (br (fun h1=>must (zC g2) (br (fun h3=>?_) (fun h3=>?_))) (fun h1=>?_))
 .rw [zT3 (h:=a0) (m:=a1) (x:=gOf a0 a1 a2) (w:=5) h1 rfl h3];refine must (zC g2) (must rfl (must (z5p h3) (must (zC g2) (must (z0k _) (shr (must (zC (zd7 g2)) (must ?_ rfl)))))));rw[zJ6 g2];exact zC g3
 .rw [zOT (h:=a0) (m:=a1) (x:=gOf a0 a1 a2) (w:=5) h3];exact must (zC g2) (must (zC g3) rfl)
 .rw [z1A (h:=a0) (m:=a1) (x:=gOf a0 a1 a2) (w:=5) h1];exact must (zC g2) (must (zC g3) rfl)
theorem z9d {a0:Host}{x4:List Mon}{a1 a2:Int}(hx:SmG (gOf a0 a1 a2))(g2:hasB a1 (ln x4)=true)(g3:hasB a2 (ln (ix x4 a1 mZ).Guests)=true)(e:(ix (ix x4 a1 zh).Guests a2 zD)=gOf a0 a1 a2) :
 (cond (zdB ({ (ix (ix (zn a0).Mons a1 zh).Guests a2 zD) with Prog:=(ix (ix x4 a1 zh).Guests a2 zD).Prog,Written:=(ix (ix x4 a1 zh).Guests a2 zD).Written,Live:=(ix (ix x4 a1 zh).Guests a2 zD).Live,Seen:=(ix (ix x4 a1 zh).Guests a2 zD).Seen}:Guest) (ix (ix (zn a0).Mons a1 zh).Guests a2 zD).Ctl.Traps 5) (cond (zdb ({ (ix (ix (zn a0).Mons a1 zh).Guests a2 zD) with Prog:=(ix (ix x4 a1 zh).Guests a2 zD).Prog,Written:=(ix (ix x4 a1 zh).Guests a2 zD).Written,Live:=(ix (ix x4 a1 zh).Guests a2 zD).Live,Seen:=(ix (ix x4 a1 zh).Guests a2 zD).Seen}:Guest) (ix (ix (zn a0).Mons a1 zh).Guests a2 zD).Ctl.Traps 5) (cond (inb a1 (ln x4)) (cond (ilt (ln (ix x4 a1 zh).Outs) 40) (cond (inb a1 (ln x4)) (cond (ze4 (ix (ix x4 a1 zh).Guests a2 zD).Prog (ix (ix (zn a0).Mons a1 zh).Guests a2 zD).Pc) (cond (few (ln (ap (ix x4 a1 zh).Outs [(zfm (ix (ix x4 a1 zh).Guests a2 zD).Prog (ix (ix (zn a0).Mons a1 zh).Guests a2 zD).Pc).X]))) (cond (inb a1 (ln x4)) (cond (cond (ieq a1 a1) true false) (share (up x4 a1 ({ (ix x4 a1 zh) with Outs:=(ap (ix x4 a1 zh).Outs [(zfm (ix (ix x4 a1 zh).Guests a2 zD).Prog (ix (ix (zn a0).Mons a1 zh).Guests a2 zD).Pc).X])}:Mon)) (fun x5=>(cond (inb a1 (ln x5)) (cond (inb a2 (ln (ix x5 a1 zh).Guests)) (share (up x5 a1 ({ (ix x5 a1 zh) with Guests:=(up (ix x5 a1 zh).Guests a2 (zcf ({ (ix (ix (zn a0).Mons a1 zh).Guests a2 zD) with Prog:=(ix (ix x4 a1 zh).Guests a2 zD).Prog,Written:=(ix (ix x4 a1 zh).Guests a2 zD).Written,Live:=(ix (ix x4 a1 zh).Guests a2 zD).Live,Seen:=(ix (ix x4 a1 zh).Guests a2 zD).Seen}:Guest) (ix (ix (zn a0).Mons a1 zh).Guests a2 zD).Ctl.Traps 5))}:Mon)) (fun x6=>(some [(.agg (zbj ({ (zn a0) with Mons:=x6}:Host))),(.one (.b true))]))) none) none))) none) none) none) none) none) (cond (inb a1 (ln x4)) (cond (inb a2 (ln (ix x4 a1 zh).Guests)) (share (up x4 a1 ({ (ix x4 a1 zh) with Guests:=(up (ix x4 a1 zh).Guests a2 (zcf ({ (ix (ix (zn a0).Mons a1 zh).Guests a2 zD) with Prog:=(ix (ix x4 a1 zh).Guests a2 zD).Prog,Written:=(ix (ix x4 a1 zh).Guests a2 zD).Written,Live:=(ix (ix x4 a1 zh).Guests a2 zD).Live,Seen:=(ix (ix x4 a1 zh).Guests a2 zD).Seen}:Guest) (ix (ix (zn a0).Mons a1 zh).Guests a2 zD).Ctl.Traps 5))}:Mon)) (fun x5=>(some [(.agg (zbj ({ (zn a0) with Mons:=x5}:Host))),(.one (.b true))]))) none) none)) none) (cond (inb a1 (ln x4)) (cond (inb a2 (ln (ix x4 a1 zh).Guests)) (share (up x4 a1 ({ (ix x4 a1 zh) with Guests:=(up (ix x4 a1 zh).Guests a2 (zcf ({ (ix (ix (zn a0).Mons a1 zh).Guests a2 zD) with Prog:=(ix (ix x4 a1 zh).Guests a2 zD).Prog,Written:=(ix (ix x4 a1 zh).Guests a2 zD).Written,Live:=(ix (ix x4 a1 zh).Guests a2 zD).Live,Seen:=(ix (ix x4 a1 zh).Guests a2 zD).Seen}:Guest) (ix (ix (zn a0).Mons a1 zh).Guests a2 zD).Ctl.Traps 5))}:Mon)) (fun x5=>(some [(.agg (zbj ({ (zn a0) with Mons:=x5}:Host))),(.one (.b true))]))) none) none)) none)=some (zfg (zj2 (zfR {a0 with Mons:=x4} a1 (gOf a0 a1 a2) 5) a1 a2 (ziI (gOf a0 a1 a2) (gOf a0 a1 a2).Ctl.Traps 5),true)):=by
 rw[e];refine must (zbN hx) (br (fun h1=>must (zC g2) (br (fun h3=>?_) (fun h3=>?_))) (fun h1=>?_))
 .rw [zT3 (h:={a0 with Mons:=x4}) (m:=a1) (x:=gOf a0 a1 a2) (w:=5) h1 rfl h3];refine must (zC g2) (must rfl (must (z5p h3) (must (zC g2) (must (z0k _) (shr (must (zC (zd7 (h:={a0 with Mons:=x4}) g2)) (must ?_ rfl)))))));rw[zJ6 (h:={a0 with Mons:=x4}) g2];exact zC g3
 .rw [zOT (h:={a0 with Mons:=x4}) (m:=a1) (x:=gOf a0 a1 a2) (w:=5) h3];exact must (zC g2) (must (zC g3) rfl)
 .rw [z1A (h:={a0 with Mons:=x4}) (m:=a1) (x:=gOf a0 a1 a2) (w:=5) h1];exact must (zC g2) (must (zC g3) rfl)
theorem zEk (a0:Host)(a1 a2:Int)(hc:zu7 a0 a1 a2=true):∃N,ztG N a0 a1 a2=some [aH (zu5 a0 a1 a2),aB (zu6 a0 a1 a2)]:=by
 obtain⟨hc,hw⟩:=zk9 hc;have hs:=(zbb a0).1 (zQ.1 hc);refine⟨0,?_⟩;show _=some (zfg (zbB a0 a1 a2));unfold ztG oN nB;conv=>zeta
 refine must (zbN ((zbb _).2 hs)) (must (zbN ((zbb _).2 hs)) (brN (fun hh=>?_) (fun hh=>?_)));{rw [zk6 hh];rfl};obtain⟨g1,g2,g3⟩:=zdj hh;have hx:=zn9 hs g2 g3;have hk:zba (gOf a0 a1 a2)=5:=qE hw;rw[ziG hh,hk];refine must (zC g2) (must (zC g3) (must (zhC rfl hw) ?_));show _=some (zfg (zvo a0 a1 a2 (gOf a0 a1 a2) 5,true));refine must (zC g2) (must rfl (br (fun h0=>must (zC g2) (br (fun h9=>must (zC g2) (must (zC g2) (shr ?_))) (fun h9=>?_))) (fun h0=>?_)));{rw [zmm (zW5 (h:=a0) (m:=a1) (x:=gOf a0 a1 a2) (w:=5) rfl h0 h9)];have eM:=zJ6 g2 {ix a0.Mons a1 mZ with Own:=zK .i64 (ix a0.Mons a1 mZ).Own 1};refine z9d hx (zd7 g2) ?_ ?_;{show hasB a2 (ln (ix (up a0.Mons a1 _) a1 mZ).Guests)=true;rw[eM];exact g3};{show ix (ix (up a0.Mons a1 _) a1 mZ).Guests a2 gZ=_;rw[eM];rfl}};{rw [zmm (zW4 (h:=a0) (m:=a1) (x:=gOf a0 a1 a2) (w:=5) h9)];exact z5q hx g2 g3};{rw [zmm (zW3 (h:=a0) (m:=a1) (x:=gOf a0 a1 a2) (w:=5) h0)];exact z5q hx g2 g3}
theorem zAx:vL 156 zEu:=kF3 zXz zJ zcl zh3 (zy []) zEk
theorem zEl (a0:Host)(a1 a2:Int)(hc:zva a0 a1 a2=true):∃N,ztH N a0 a1 a2=some [aH (zu8 a0 a1 a2),aB (zu9 a0 a1 a2)]:=by
 obtain⟨hc,hw⟩:=zk9 hc;have hs:=(zbb a0).1 (zQ.1 hc);refine⟨0,?_⟩;show _=some (zfg (zbB a0 a1 a2));unfold ztH oN nB;conv=>zeta
 refine must (zbN ((zbb _).2 hs)) (must (zbN ((zbb _).2 hs)) (brN (fun hh=>?_) (fun hh=>?_)));{rw [zk6 hh];rfl};obtain⟨g1,g2,g3⟩:=zdj hh;have hx:=zn9 hs g2 g3;have hk:zba (gOf a0 a1 a2)=6:=qE hw;rw[ziG hh,hk];refine must (zC g2) (must (zC g3) (must (zhC rfl hw) ?_));show _=some (zfg (zvo a0 a1 a2 (gOf a0 a1 a2) 6,true));rw[zmm (z7P (h:=a0) (m:=a1) (x:=gOf a0 a1 a2)),zKY (w:=6) rfl];exact must (zbN hx) (br (fun h1=>must (zC g2) (must (zC g3) rfl)) (fun h1=>must (zC g2) (must (zC g3) rfl)))
theorem zAy:vL 156 zEv:=kF3 zXA zJ zcl zh3 (zy []) zEl
theorem z5r {a0:Host}{a1 a2:Int}(hx:SmG (gOf a0 a1 a2))(g2:hasB a1 (ln a0.Mons)=true)(g3:hasB a2 (ln (ix a0.Mons a1 mZ).Guests)=true) :
 (cond (zdB (ix (ix (zn a0).Mons a1 zh).Guests a2 zD) (ix (ix (zn a0).Mons a1 zh).Guests a2 zD).Ctl.Traps 7) (cond (zdb (ix (ix (zn a0).Mons a1 zh).Guests a2 zD) (ix (ix (zn a0).Mons a1 zh).Guests a2 zD).Ctl.Traps 7) (cond (inb a1 (ln (zn a0).Mons)) (cond (inb a2 (ln (ix (zn a0).Mons a1 zh).Guests)) (share (up (zn a0).Mons a1 ({ (ix (zn a0).Mons a1 zh) with Guests:=(up (ix (zn a0).Mons a1 zh).Guests a2 (zcf (ix (ix (zn a0).Mons a1 zh).Guests a2 zD) (ix (ix (zn a0).Mons a1 zh).Guests a2 zD).Ctl.Traps 7))}:Mon)) (fun x4=>(some [(.agg (zbj ({ (zn a0) with Mons:=x4}:Host))),(.one (.b true))]))) none) none) (cond (inb a1 (ln (zn a0).Mons)) (cond (inb a2 (ln (ix (zn a0).Mons a1 zh).Guests)) (share (up (zn a0).Mons a1 ({ (ix (zn a0).Mons a1 zh) with Guests:=(up (ix (zn a0).Mons a1 zh).Guests a2 (zcf (ix (ix (zn a0).Mons a1 zh).Guests a2 zD) (ix (ix (zn a0).Mons a1 zh).Guests a2 zD).Ctl.Traps 7))}:Mon)) (fun x4=>(some [(.agg (zbj ({ (zn a0) with Mons:=x4}:Host))),(.one (.b true))]))) none) none)) none)=some (zfg (zj2 a0 a1 a2 (ziI (gOf a0 a1 a2) (gOf a0 a1 a2).Ctl.Traps 7),true)):=
 must (zbN hx) (br (fun h1=>must (zC g2) (must (zC g3) rfl)) (fun h1=>must (zC g2) (must (zC g3) rfl)))
theorem z9e {a0:Host}{x4:List Mon}{a1 a2:Int}(hx:SmG (gOf a0 a1 a2))(g2:hasB a1 (ln x4)=true)(g3:hasB a2 (ln (ix x4 a1 mZ).Guests)=true)(e:(ix (ix x4 a1 zh).Guests a2 zD)=gOf a0 a1 a2) :
 (cond (zdB ({ (ix (ix (zn a0).Mons a1 zh).Guests a2 zD) with Prog:=(ix (ix x4 a1 zh).Guests a2 zD).Prog,Written:=(ix (ix x4 a1 zh).Guests a2 zD).Written,Live:=(ix (ix x4 a1 zh).Guests a2 zD).Live,Seen:=(ix (ix x4 a1 zh).Guests a2 zD).Seen}:Guest) (ix (ix (zn a0).Mons a1 zh).Guests a2 zD).Ctl.Traps 7) (cond (zdb ({ (ix (ix (zn a0).Mons a1 zh).Guests a2 zD) with Prog:=(ix (ix x4 a1 zh).Guests a2 zD).Prog,Written:=(ix (ix x4 a1 zh).Guests a2 zD).Written,Live:=(ix (ix x4 a1 zh).Guests a2 zD).Live,Seen:=(ix (ix x4 a1 zh).Guests a2 zD).Seen}:Guest) (ix (ix (zn a0).Mons a1 zh).Guests a2 zD).Ctl.Traps 7) (cond (inb a1 (ln x4)) (cond (inb a2 (ln (ix x4 a1 zh).Guests)) (share (up x4 a1 ({ (ix x4 a1 zh) with Guests:=(up (ix x4 a1 zh).Guests a2 (zcf ({ (ix (ix (zn a0).Mons a1 zh).Guests a2 zD) with Prog:=(ix (ix x4 a1 zh).Guests a2 zD).Prog,Written:=(ix (ix x4 a1 zh).Guests a2 zD).Written,Live:=(ix (ix x4 a1 zh).Guests a2 zD).Live,Seen:=(ix (ix x4 a1 zh).Guests a2 zD).Seen}:Guest) (ix (ix (zn a0).Mons a1 zh).Guests a2 zD).Ctl.Traps 7))}:Mon)) (fun x5=>(some [(.agg (zbj ({ (zn a0) with Mons:=x5}:Host))),(.one (.b true))]))) none) none) (cond (inb a1 (ln x4)) (cond (inb a2 (ln (ix x4 a1 zh).Guests)) (share (up x4 a1 ({ (ix x4 a1 zh) with Guests:=(up (ix x4 a1 zh).Guests a2 (zcf ({ (ix (ix (zn a0).Mons a1 zh).Guests a2 zD) with Prog:=(ix (ix x4 a1 zh).Guests a2 zD).Prog,Written:=(ix (ix x4 a1 zh).Guests a2 zD).Written,Live:=(ix (ix x4 a1 zh).Guests a2 zD).Live,Seen:=(ix (ix x4 a1 zh).Guests a2 zD).Seen}:Guest) (ix (ix (zn a0).Mons a1 zh).Guests a2 zD).Ctl.Traps 7))}:Mon)) (fun x5=>(some [(.agg (zbj ({ (zn a0) with Mons:=x5}:Host))),(.one (.b true))]))) none) none)) none)=some (zfg (zj2 {a0 with Mons:=x4} a1 a2 (ziI (gOf a0 a1 a2) (gOf a0 a1 a2).Ctl.Traps 7),true)):=by
 rw[e];exact must (zbN hx) (br (fun h1=>must (zC g2) (must (zC g3) rfl)) (fun h1=>must (zC g2) (must (zC g3) rfl)))
theorem zEm (a0:Host)(a1 a2:Int)(hc:zvd a0 a1 a2=true):∃N,ztI N a0 a1 a2=some [aH (zvb a0 a1 a2),aB (zvc a0 a1 a2)]:=by
 obtain⟨hc,hw⟩:=zk9 hc;have hs:=(zbb a0).1 (zQ.1 hc);refine⟨0,?_⟩;show _=some (zfg (zbB a0 a1 a2));unfold ztI oN nB;conv=>zeta
 refine must (zbN ((zbb _).2 hs)) (must (zbN ((zbb _).2 hs)) (brN (fun hh=>?_) (fun hh=>?_)));{rw [zk6 hh];rfl};obtain⟨g1,g2,g3⟩:=zdj hh;have hx:=zn9 hs g2 g3;have hk:zba (gOf a0 a1 a2)=7:=qE hw;rw[ziG hh,hk];refine must (zC g2) (must (zC g3) (must (zhC rfl hw) ?_));show _=some (zfg (zvo a0 a1 a2 (gOf a0 a1 a2) 7,true));refine must (zC g2) (must rfl (br (fun h0=>must (zC g2) (br (fun h9=>must (zC g2) (must (zC g2) (shr ?_))) (fun h9=>?_))) (fun h0=>?_)));{rw [zmm (zW5 (h:=a0) (m:=a1) (x:=gOf a0 a1 a2) (w:=7) rfl h0 h9),zKY (w:=7) rfl];have eM:=zJ6 g2 {ix a0.Mons a1 mZ with Own:=zK .i64 (ix a0.Mons a1 mZ).Own 1};refine z9e hx (zd7 g2) ?_ ?_;{show hasB a2 (ln (ix (up a0.Mons a1 _) a1 mZ).Guests)=true;rw[eM];exact g3};{show ix (ix (up a0.Mons a1 _) a1 mZ).Guests a2 gZ=_;rw[eM];rfl}};{rw [zmm (zW4 (h:=a0) (m:=a1) (x:=gOf a0 a1 a2) (w:=7) h9),zKY (w:=7) rfl];exact z5r hx g2 g3};{rw [zmm (zW3 (h:=a0) (m:=a1) (x:=gOf a0 a1 a2) (w:=7) h0),zKY (w:=7) rfl];exact z5r hx g2 g3}
theorem zAz:vL 156 zEw:=kF3 zXB zJ zcl zh3 (zy []) zEm
def zoN:List AV->Option (Bool×List AV)
 |[.agg [.s (.sl .int) b,.s .mon c,.s .entry d,.s .entry e],.one (.i .i64 f),.one (.i .i64 g)]=>some ((zd8 (⟨b,c,d,e⟩:Host) f g),[aH (zCI (⟨b,c,d,e⟩:Host) f g),aB (zCJ (⟨b,c,d,e⟩:Host) f g)])
 |_=>none
theorem zGN:vL 156 zoN:=by refine⟨zoc.1,fun w avs xs rs hrep h=>?_⟩;unfold zoN at h;split at h;{rename_i a0_0 a0_1 a0_2 a0_3 a1 a2;obtain⟨hc,rfl⟩:=zdL h;rcases z3X (gOf (⟨a0_0,a0_1,a0_2,a0_3⟩:Host) a1 a2) with e|e|e|e|e|e|e|e;{exact zoc.2 w _ xs _ hrep (congrArg (fun c=>some (c,zfg (zbB (⟨a0_0,a0_1,a0_2,a0_3⟩:Host) a1 a2))) (zhC hc e))};{exact zAt.2 w _ xs _ hrep (congrArg (fun c=>some (c,zfg (zbB (⟨a0_0,a0_1,a0_2,a0_3⟩:Host) a1 a2))) (zhC hc e))};{exact zAu.2 w _ xs _ hrep (congrArg (fun c=>some (c,zfg (zbB (⟨a0_0,a0_1,a0_2,a0_3⟩:Host) a1 a2))) (zhC hc e))};{exact zAv.2 w _ xs _ hrep (congrArg (fun c=>some (c,zfg (zbB (⟨a0_0,a0_1,a0_2,a0_3⟩:Host) a1 a2))) (zhC hc e))};{exact zAw.2 w _ xs _ hrep (congrArg (fun c=>some (c,zfg (zbB (⟨a0_0,a0_1,a0_2,a0_3⟩:Host) a1 a2))) (zhC hc e))};{exact zAx.2 w _ xs _ hrep (congrArg (fun c=>some (c,zfg (zbB (⟨a0_0,a0_1,a0_2,a0_3⟩:Host) a1 a2))) (zhC hc e))};{exact zAy.2 w _ xs _ hrep (congrArg (fun c=>some (c,zfg (zbB (⟨a0_0,a0_1,a0_2,a0_3⟩:Host) a1 a2))) (zhC hc e))};{exact zAz.2 w _ xs _ hrep (congrArg (fun c=>some (c,zfg (zbB (⟨a0_0,a0_1,a0_2,a0_3⟩:Host) a1 a2))) (zhC hc e))}};{cases h}
def z5g:zZ:=[(156,zoN)]++zlE
theorem z2v:zL z5g:=zi zGN zhl
def z5h:zZ:=z5g
theorem z2w:zL z5h:=z2v
def brought (n a b:Int):Int:=bif ilt n a then a else (cond (ilt b a) a (zMh n b))
@[simp] abbrev zpz (_ _ _:Int):Bool:=true
@[simp] abbrev zqq (n a b:Int):Int:=brought n a b
def zqV:Run:=rF3 dI dI dI fun b c d=>(zpz b c d,[aI (zqq b c d)])
def zEH (N:Nat)(a0 a1 a2:Int):OA:=
 (cond (ilt a2 a1) (some [(aI a1)]) (cond (ilt a0 a1) (some [(aI a1)]) (cond (igt a0 a2) (some [(aI a2)]) (some [(aI a0)]))))
theorem zPw (a0 a1 a2:Int)(hc:zpz a0 a1 a2=true):∃N,zEH N a0 a1 a2=some [aI (zqq a0 a1 a2)]:=by refine⟨0,?_⟩;unfold zEH;unfold zqq brought zMh;cases h1:ilt a2 a1<;>cases h2:ilt a0 a1<;>cases h3:igt a0 a2<;>simp [igt] at * <;> omega
theorem zt8:vL 143 zqV:=kF3 zsu zJ zG zx (zy []) zPw
structure RI (a:List Bare) (i:Nat) (l:List Bare):Prop where
 len:l.length=a.length
 sm:zXe l
 eq:∀k,i<=k->l[k]?=a[k]?
theorem RI.up {a l:List Bare}{i:Nat}(h:RI a i l)(x:Bare)(hx:SmB x):RI a (i+1) (up l (i:Int) x):=
 ⟨by rw[zf3];exact h.len,z7G h.sm hx,fun k hk=>by rw[z8y (by omega)];exact h.eq k (by omega)⟩
structure RJ (l:List Bare) (i:Nat) (l':List Bare):Prop where
 len:l'.length=l.length
 sm:SmB (ix l' (i:Int) zUu)
 up:∀x,E.up l' (i:Int) x=E.up l (i:Int) x
theorem RJ.next {l l':List Bare}{i:Nat}(h:RJ l i l')(hi:i<l.length)(x:Bare)(hx:SmB x):RJ l i (E.up l' (i:Int) x):=
 ⟨by rw[zf3];exact h.len,by rw[zdz (by rw[h.len];exact hi)];exact hx,fun y=>by rw[zvp];exact h.up y⟩
def zZW:zZ:=z5h
theorem zZX:zL zZW:=z2w
theorem zTM {h:Host}{m:Int}(hs:SmH h)(hm:hasB m (ln h.Mons)=true):SmB (zI h m):=by
 have g1:=hs.2.1.2 _ (zbC hm mZ);have hP:∀(mm:List (List Int)) (q:Int),SmM mm->(zck mm q).length<=1048576:=fun mm q h=>zTO h;have hpg:∀p:Int,(zcX h m p).length<=1048576:=by intro p;unfold zcX;cases hasB m (ln h.Mons);{exact(by decide:zzd.length<=1048576)};{cases hasB p 8;{exact(by decide:zzd.length<=1048576)};{simp only [cT];cases ine (zbz (ix h.Mons m zh).Outer p).Page (-1);{exact hP _ _ g1.2.1};{exact hP _ _ hs.1}}}
 have hN:∀(n i:Nat),∀x∈zcA h m n i,x.length<=1048576:=by
  intro n
  induction n with
  |zero=>intro i x hx;cases hx
  |succ n ih=>intro i x hx;rcases qF.1 hx with rfl|hx;{exact hpg _};{exact ih (i+1) x hx}
 unfold zI;rw[hm];exact⟨⟨by show (zcA h m 8 0).length<=1048576;rw[zyH];decide,hN 8 0⟩,g1.2.2.2.1,g1.2.2.2.2.1⟩
def z5i:zZ:=zZW
theorem z2x:zL z5i:=zZX
def z5j:zZ:=[(143,zqV)]++z5i
theorem z2y:zL z5j:=zi zt8 z2x
def cnt (l:List Mon):List Nat:=l.map fun x=>x.Guests.length
theorem z8d {l l':List Mon}(h:zdI l'=zdI l):cnt l'=cnt l:=by have e:∀l:List Mon,cnt l=(zdI l).map List.length:=fun l=>(by simp[cnt,zdI]);rw[e,e,h]
theorem zRa {l:List Mon}{m:Int}{x:Mon}(hm:hasB m (ln l)=true)(hx:x.Guests.length=(ix l m mZ).Guests.length):cnt (up l m x)=cnt l:=by obtain⟨k,rfl,hk⟩:=zds (n:=l.length) hm;unfold cnt up;rw[List.map_set,kD,hx,zbA hk];have:=@u3 _ (l.map fun x=>x.Guests.length) k (by simpa using hk);simpa using this
theorem z6n {l l':List Mon}(h:cnt l'=cnt l):l'.length=l.length:=by have:=congrArg List.length h;simpa [cnt] using this
theorem z8e {l l':List Mon}(h:cnt l'=cnt l)(m:Int):(ix l' m mZ).Guests.length=(ix l m mZ).Guests.length:=by have h2:(cnt l')[m.toNat]?=(cnt l)[m.toNat]?:=(by rw[h]);unfold cnt at h2;rw[qO,qO]at h2;unfold ix;simp only[j7];cases h3:l'[m.toNat]? <;> cases h4:l[m.toNat]? <;> rw [h3,h4]at h2<;>simp at h2 ⊢;exact h2
theorem z7n (h:Host)(m p:Int):(zdc h m p).Memory=h.Memory:=(zfD (zeb h m p) m p noSlot).2
theorem z7m (h:Host):(zcY h).Memory=h.Memory:=by unfold zcY;cases ieq (ln (zb3 h)) 0;{rfl};{exact z7n _ _ _}
theorem z7l (m:List (List Int))(p:Int)(c:List Int):(zgI m p c).length=m.length:=by unfold zgI;cases hasB p (ln m);{rfl};{cases zct c;{rfl};{simp}}
theorem z7j (m:List (List Int))(p c v:Int):(zbI m p c v).length=m.length:=by unfold zbI;cases zhb m p c;{rfl};{cases win v 0 99;{rfl};{simp}}
theorem zYj (h:Host)(m p:Int):(fetched h m p).Memory.length=h.Memory.length:=by unfold fetched zen;rw[(zfD _ _ _ _).2];unfold landing;rw[z7l,z7m]
theorem zSV (h:Host)(m p n:Int):(ziq h m p n).Memory=h.Memory:=by unfold ziq;cases ieq (wand .i64 n 2) 0;{unfold opened;cases ieq (wand .i64 (ix (ix (zbF h m p).Mons m mZ).Outer p sZ).Rights 2) 0;{rfl};{exact(zfD _ _ _ _).2}};{rfl}
theorem z0D (h:Host)(m p n:Int):(mended h m p n).Memory.length=h.Memory.length:=by unfold mended;cases ieq (ix (ix h.Mons m mZ).Outer p sZ).Page (-1);{exact congrArg List.length (zSV _ _ _ _)};{exact(congrArg List.length (zSV _ _ _ _)).trans (zYj _ _ _)}
theorem z0E (h:Host)(m g p:Int)(io:Bool):(zuv h m g p io).Memory=h.Memory:=by cases io<;>rfl
theorem z3d (h:Host)(b:List Entry)(m g page need q:Int)(io:Bool):(zg9 h b m g page need q io).1.Memory.length=h.Memory.length:=by unfold zg9;cases zgS b m g page need;{cases zev h m g page need;{exact congrArg List.length (z0E _ _ _ _ _)};{exact(congrArg List.length (z0E _ _ _ _ _)).trans (z0D h m q need)}};{rfl}
theorem z7k (h:Host)(b:List Entry)(m g page need:Int)(io:Bool):(lookOf h b m g page need io).1.Memory.length=h.Memory.length:=by unfold lookOf;cases zb5 h m g page need;{rfl};{simp only [cT];rw[z3d];cases ieq need 2<;>rfl}
structure Keep (h r:Host):Prop where
 shape:Shape r
 cnt:cnt r.Mons=cnt h.Mons
 mem:r.Memory.length=h.Memory.length
theorem Keep.has {h r:Host}(k:Keep h r){m:Int}(hm:hasB m (ln h.Mons)=true):hasB m (ln r.Mons)=true:=by rw[ln,z6n k.cnt];exact hm
theorem Keep.hg {h r:Host}(k:Keep h r){m g:Int}(hg:hasB g (ln (ix h.Mons m mZ).Guests)=true):hasB g (ln (ix r.Mons m mZ).Guests)=true:=by rw[ln,z8e k.cnt];exact hg
theorem Keep.trans {a b c:Host}(h:Keep a b)(k:Keep b c):Keep a c:=⟨k.shape,k.cnt.trans h.cnt,k.mem.trans h.mem⟩
theorem Keep.rfl' {h:Host}(hs:Shape h):Keep h h:=⟨hs,rfl,rfl⟩
theorem zmt {h:Host}{m g:Int}{x:Guest}(hs:Shape h)(hm:hasB m (ln h.Mons)=true)(hx:SmG x):Keep h (zj2 h m g x):=⟨zY1 hs hm hx,zRa hm (by simp),rfl⟩
theorem zBJ {h:Host}{b:List Entry}{m g page need:Int}{io:Bool}(hs:SmH h)(hh:zbW h m g=true):Keep h (lookOf h b m g page need io).1:=by have k:=zwN (b:=b) (page:=page) (need:=need) (io:=io) hs hh;exact⟨k.shape,z8d k.gs,z7k _ _ _ _ _ _ _⟩
theorem z0o {h:Host}{p c v:Int}(hs:Shape h):Keep h {h with Memory:=zbI h.Memory p c v}:=⟨zOP hs (zy9 hs.1.1),rfl,z7j _ _ _ _⟩
theorem zX5 {h:Host}{m:Int}(hs:Shape h)(hm:hasB m (ln h.Mons)=true):Keep h (owned h m):=by obtain⟨g1,g2⟩:=zcu hs hm;unfold owned;cases ilt (ix h.Mons m mZ).Own 1000000000;{exact Keep.rfl' hs};{exact⟨zhA hs g1 g2,zRa hm rfl,rfl⟩}
theorem zX4 {h:Host}{m n:Int}(hs:Shape h)(hm:hasB m (ln h.Mons)=true):Keep h (zm4 h m n):=by obtain⟨g1,g2⟩:=zcu hs hm;unfold zm4;cases h3:ilt (ln (ix h.Mons m mZ).Outs) 40;{exact Keep.rfl' hs};{have h4:=qE h3;simp only[ln]at h4;refine⟨zhA hs ⟨g1.1,g1.2.1,g1.2.2.1,g1.2.2.2.1,?_,g1.2.2.2.2.2⟩ g2,zRa hm rfl,rfl⟩;simp[ap];omega}
theorem z0q {h:Host}{m g:Int}{x:Guest}{w:Int}(hs:Shape h)(hm:hasB m (ln h.Mons)=true)(hx:SmG x):Keep h (zvo h m g x w):=by have k1:Keep h (zfS h m x w):=(by unfold zfS;cases (cond (ine w 6) (ieq (zyE (ix h.Mons m mZ).Traps x.Ctl.Traps (zxF w)) 2) false);{exact Keep.rfl' hs};{exact zX5 hs hm});have k2:Keep (zfS h m x w) (zfR (zfS h m x w) m x w):=(by unfold zfR;cases (cond (zjz x.Ctl.Traps w) (ieq w 5) false);{exact Keep.rfl' k1.shape};{exact zX4 k1.shape (k1.has hm)});have k3:=k1.trans k2;exact k3.trans (zmt k3.shape (k3.has hm) (zCW _ _ hx))
theorem z0p {h:Host}{m g:Int}(hs:SmH h)(hh:zbW h m g=true):Keep h (zbB h m g).1:=by obtain⟨g1,g2,g3⟩:=zdj hh;have hx:=zn9 hs g2 g3;have hS:=(zeI hs g1).1;rw[ziG hh];unfold zTT;cases ieq (zba (gOf h m g)) 0;{cases ieq (zba (gOf h m g)) 1;{cases ieq (zba (gOf h m g)) 2;{cases (cond (ieq (zba (gOf h m g)) 3) true (ieq (zba (gOf h m g)) 4));{exact z0q hS g2 hx};{have k:=zBJ (b:=h.Buffer) (page:=zbg (address (gOf h m g))) (need:=zb9 (ieq (zba (gOf h m g)) 4)) (io:=false) hs hh;show Keep h (ziH (zlG h m g (gOf h m g) (ieq (zba (gOf h m g)) 4)) m g (gOf h m g) (ieq (zba (gOf h m g)) 4));unfold ziH;cases (zlG h m g (gOf h m g) (ieq (zba (gOf h m g)) 4)).2.2;{exact k.trans (zmt k.shape (k.has g2) hx)};{cases ieq (zba (gOf h m g)) 4;{have k:=zBJ (b:=h.Buffer) (page:=zbg (address (gOf h m g))) (need:=zb9 false) (io:=false) hs hh;exact k.trans (zmt k.shape (k.has g2) (zKM _ hx))};{have k:=zBJ (b:=h.Buffer) (page:=zbg (address (gOf h m g))) (need:=zb9 true) (io:=false) hs hh;have k2:=z0o (p:=(zlG h m g (gOf h m g) true).2.1) (c:=zc4 (address (gOf h m g))) (v:=(gOf h m g).A) k.shape;have k3:=k.trans k2;exact k3.trans (zmt k3.shape (k3.has g2) (zkk hx))}}}};{exact zmt hS g2 (zFW hx)}};{exact zmt hS g2 (zWV hx)}};{exact Keep.rfl' hS}
structure Same (h r:Host):Prop where
 sm:SmH r
 cnt:cnt r.Mons=cnt h.Mons
 mem:r.Memory.length=h.Memory.length
 st:r=h\/Shape r
theorem Same.rfl' {h:Host}(hs:SmH h):Same h h:=⟨hs,rfl,rfl,.inl rfl⟩
theorem Same.trans {a b c:Host}(h:Same a b)(k:Same b c):Same a c:=⟨k.sm,k.cnt.trans h.cnt,k.mem.trans h.mem,by
 rcases k.st with e|e
 .rw [e];exact h.st
 .exact .inr e⟩
theorem z1e {h:Host}(m g:Int)(hs:SmH h):Same h (zbB h m g).1:=by cases hh:zbW h m g;{rw [zk6 hh];exact Same.rfl' hs};{have k:=z0p hs hh;exact⟨k.shape.1,k.cnt,k.mem,.inr k.shape⟩}
def z5k:zZ:=[(143,zqV)]++zXt
theorem zsw:zL z5k:=zi zt8 zsu
theorem zQ5 {a b:Bool}(h:(a=true)↔(b=true)):a=b:=by cases a<;>cases b<;>simp_all
@[simp] theorem z8V (x:Int):win x 0 3=hasB x 4:=zQ5 (by rw[zfp];unfold hasB;rw[decide_eq_true_iff];omega)
@[simp] theorem z1G (x:Int):win x 0 7=hasB x 8:=zQ5 (by rw[zfp];unfold hasB;rw[decide_eq_true_iff];omega)
def zdN (t:List Slot)(p:Int)(s:Slot):List Slot:=bif hasB p (ln t) then up t p s else t
@[simp] theorem z8W (t:List Slot)(p:Int)(s:Slot):(zdN t p s).length=t.length:=by unfold zdN;cases hasB p (ln t)<;>simp
@[simp] abbrev znH (t:List Slot)(p:Int)(s:Slot):Bool:=pc (t.length<=1048576)
@[simp] abbrev zkX (t:List Slot)(p:Int)(s:Slot):List Slot:=zdN t p s
def zxp:Run:=rF3 (dS .slot) dI (dT .slot) fun b c d=>(znH b c d,[aS .slot (zkX b c d)])
def zAZ (N:Nat)(a0:lS)(a1:Int)(a2:Slot):OA:=
 (oN (few (ln (ap [] a0))) (oN (zN a1 0 (wsub .i64 (ln a0) 1)) (cond (zS a1 0 (wsub .i64 (ln a0) 1)) (oN (inb a1 (ln (ap [] a0))) (share (up (ap [] a0) a1 a2) (fun x4=>(some [(aS .slot x4)])))) (some [(aS .slot (ap [] a0))]))))
theorem zMJ (a0:List Slot)(a1:Int)(a2:Slot)(hc:znH a0 a1 a2=true):∃N,zAZ N a0 a1 a2=some [aS .slot (zkX a0 a1 a2)]:=by have hs:=zQ.1 hc;refine⟨0,?_⟩;unfold zAZ oN;refine mu (must rfl (br (fun _=>mu (shr ?_)) (fun _=>?_)));all_goals first|rfl|(simp only [*,zkX,zdN,cT,cF]<;>rfl)|simp_all[Ty.cells,zkX,zdN]
theorem zGU:vL 300 zxp:=kF3 zsw zJ zG zx (zy []) zMJ
def zfF (p n:Int):Bool:=bif zde p then win n 0 7 else false
def zrK (p n:Int):Int:=bif zfF p n then wor .i64 p (zob .i64 1 n) else p
theorem cv7 {n:Int}(h:hasB n 8=true):wcv .u64 n=n/\ile 0 n=true:=by have:=qE h;exact⟨zW9 (by omega) (by omega),qL (by omega)⟩
@[simp] abbrev zji (p n:Int):Bool:=true
@[simp] abbrev zgf (p n:Int):Int:=zrK p n
@[simp] abbrev zls (p n:Int):Bool:=zfF p n
def zz0:Run:=rF2 dI dI fun b c=>(zji b c,[aI (zgf b c),aB (zls b c)])
def zEW (N:Nat)(a0 a1:Int):OA:=
 (oN (zeW a0) (cond (nB (zeV a0)) (some [(aI a0),(aB false)]) (oN (zN a1 0 7) (cond (nB (zS a1 0 7)) (some [(aI a0),(aB false)]) (oN (ile 0 (wcv .u64 a1)) (some [(aI (wor .i64 a0 (zob .i64 1 (wcv .u64 a1)))),(aB true)]))))))
theorem zPM (a0 a1:Int)(hc:zji a0 a1=true):∃N,zEW N a0 a1=some [aI (zgf a0 a1),aB (zls a0 a1)]:=by have hw:=@cv7 a1;refine⟨0,?_⟩;unfold zEW oN nB;refine must rfl (brN (fun _=>?_) (fun _=>must rfl (brN (fun _=>?_) (fun _=>mu ?_))));all_goals first|rfl|(simp only [*,zgf,zls,zrK,zfF,cT,cF]<;>rfl)|simp_all[Ty.cells,zgf,zls,zrK,zfF]
theorem zJh:vL 302 zz0:=kF2 zsw zJ zG zx (zy []) zPM
def posts (c:Ctl)(n:Int):Bool:=bif zid c then (cond (win n 0 7) (ieq (wand .i64 (zC7 .i64 c.Post n) 1) 1) false) else false
@[simp] abbrev zCN (c:Ctl)(n:Int):Bool:=true
@[simp] abbrev zxv (c:Ctl)(n:Int):Bool:=posts c n
def zFH:Run:=rF2 dC dI fun b c=>(zCN b c,[aB (zxv b c)])
def zNN (N:Nat)(a0:Ctl)(a1:Int):OA:=
 (oN (zqr a0) (cond (zoT a0) (oN (zN a1 0 7) (cond (zS a1 0 7) (oN (ile 0 (wcv .u64 a1)) (some [(aB (ieq (wand .i64 (zC7 .i64 a0.Post (wcv .u64 a1)) 1) 1))])) oF)) oF))
theorem zVf (a0:Ctl)(a1:Int)(hc:zCN a0 a1=true):∃N,zNN N a0 a1=some [aB (zxv a0 a1)]:=by have hw:=@cv7 a1;refine⟨0,?_⟩;unfold zNN oN;refine must rfl (br (fun _=>must rfl (br (fun _=>mu ?_) (fun _=>?_))) (fun _=>?_));all_goals first|rfl|(simp only [*,zxv,posts,cT,cF]<;>rfl)|simp_all[Ty.cells,zxv,posts]
theorem zPd:vL 323 zFH:=kF2 zsw zJ zG zx (zy []) zVf
def zcb (b:Bare)(g:Int):Bool:=bif zb7 b then hasB g (ln b.Guests) else false
theorem zdn {b:Bare}{g:Int}:(zcb b g=true)↔zb7 b=true/\hasB g (ln b.Guests)=true:=by unfold zcb;cases zb7 b<;>simp
@[simp] abbrev zh8 (b:Bare)(g:Int):Bool:=pc (SmB b)
@[simp] abbrev zjl (b:Bare)(g:Int):Bool:=zcb b g
def zFL:Run:=rF2 (dT .bare) dI fun b c=>(zh8 b c,[aB (zjl b c)])
def zNR (N:Nat)(a0:Bare)(a1:Int):OA:=
 (oN (zno a0) (cond (zej a0) (oN (zN a1 0 (wsub .i64 (ln a0.Guests) 1)) (some [(aB (zS a1 0 (wsub .i64 (ln a0.Guests) 1)))])) oF))
theorem zVj (a0:Bare)(a1:Int)(hc:zh8 a0 a1=true):∃N,zNR N a0 a1=some [aB (zjl a0 a1)]:=by have hs:=zQ.1 hc;have hl:a0.Guests.length<=1048576:=hs.2.1.1;refine⟨0,?_⟩;unfold zNR oN;refine must rfl (br (fun _=>must rfl ?_) (fun _=>?_));all_goals first|rfl|(simp only [*,zjl,zcb,cT,cF]<;>rfl)|simp_all[Ty.cells,zjl,zcb]
theorem zPi:vL 299 zFL:=kF2 zsw zJ zG zx (zy []) zVj
def z5l:zZ:=[(300,zxp),(302,zz0),(323,zFH),(299,zFL)]++z5k
theorem zjI:zL z5l:=zi zGU (zi zJh (zi zPd (zi zPi zsw)))
theorem z3W {α:Type}{l:List α}{i:Int}{d:α}(h:hasB i (ln l)=true):up l i (ix l i d)=l:=by obtain⟨k,rfl,hk⟩:=zds (n:=l.length) h;unfold up;rw[zbA hk,kD];exact u3 hk
theorem zsB {b:Bare}{g:Int}(h:hasB g (ln b.Guests)=true):gAt b g=ix b.Guests g zD:=by unfold gAt;rw[h];rfl
theorem z1g {b:Bare}{g:Int}(h:hasB g (ln b.Guests)=true):zdV b g (gAt b g)=b:=by unfold zdV;rw[zsB h,z3W h]
def chg (b:Bare)(g:Int)(c:Bool)(x:Guest):Bare:=bif (cond (zcb b g) c false) then zdV b g x else b
def zbZ (b:Bare)(g:Int)(c:Bool):Bool:=bif zcb b g then c else false
def zrf (p:Int)(s:Slot):Bool:=bif hasB p 4 then zdX s 8 else false
def zy6 (x:Guest)(p:Int)(s:Slot):Guest:={x with Written:=zdN x.Written p s}
def zdx (x:Guest)(p:Int):Guest:={x with Live:=zdN x.Live p (zbz x.Written p)}
def zjW:GExit:=⟨0,0,false,0⟩
def zqF (x:Guest)(v:Int):Bool:=bif win v 0 99 then (cond (ieq x.Exit.Kind 2) true (ieq x.Exit.Kind 3)) else false
def zvC (x:Guest)(v:Int):Guest:=zb8 (stopped (cond (ieq x.Exit.Kind 2) {x with A:=v} x) zjW)
def zvO (x:Guest):Bool:=bif ieq x.Exit.Kind 1 then true else ieq x.Exit.Kind 4
def zvP (x:Guest):Guest:=bif ieq x.Exit.Kind 1 then stopped x zjW else held (stopped x zjW)
def zl7 (x:Guest)(n:Int):Guest:={x with Pending:=zrK x.Pending n}
def zGh (x:Guest)(c:Ctl):Guest:={x with Ctl:=c}
theorem z7d {x:Guest}{n:Int}(h:zfF x.Pending n=false):zl7 x n=x:=by unfold zl7 zrK;rw[h];rfl
theorem z3H {x:Guest}(p:Int)(s:Slot)(h:SmG x):SmG (zy6 x p s):=⟨h.1,by simpa [zy6] using h.2.1,h.2.2.1,h.2.2.2⟩
theorem zKL {x:Guest}(p:Int)(h:SmG x):SmG (zdx x p):=⟨h.1,h.2.1,by simpa [zdx] using h.2.2.1,h.2.2.2⟩
theorem z3F {x:Guest}(v:Int)(h:SmG x):SmG (zvC x v):=by unfold zvC;cases ieq x.Exit.Kind 2<;>exact zkk h
theorem z3G {x:Guest}(h:SmG x):SmG (zvP x):=by unfold zvP;cases ieq x.Exit.Kind 1;{exact zTN (g:=stopped x zjW) h};{exact h}
theorem zo5 {b:Bare}{g:Int}{c:Bool}{x:Guest}(h:SmB b)(hx:SmG x):SmB (chg b g c x):=by unfold chg;cases (cond (zcb b g) c false);{exact h};{exact zmk h hx}
@[simp] abbrev zpy (b:Bare)(g p:Int)(s:Slot):Bool:=pc (SmB b)
@[simp] abbrev zhr (b:Bare)(g p:Int)(s:Slot):Bare:=chg b g (zrf p s) (zy6 (gAt b g) p s)
@[simp] abbrev zjh (b:Bare)(g p:Int)(s:Slot):Bool:=zbZ b g (zrf p s)
def zqU:Run:=rF4 (dT .bare) dI dI (dT .slot) fun b c d e=>(zpy b c d e,[aT .bare (zhr b c d e),aB (zjh b c d e)])
def zEG (N:Nat)(a0:Bare)(a1 a2:Int)(a3:Slot):OA:=
 let y0:=(zcm a0);let y1:=(ix y0.Guests a1 zD); (oN (zeA a0) (oN (zh8 y0 a1) (cond (nB (zjl y0 a1)) (some [(aT .bare y0),(aB false)]) (oN (zN a2 0 3) (cond (nB (zS a2 0 3)) (some [(aT .bare y0),(aB false)]) (oN (zrS a3 8) (cond (nB (zo0 a3 8)) (some [(aT .bare y0),(aB false)]) (oN (inb a1 (ln y0.Guests)) (oN (znH y1.Written a2 a3) (oN (inb a1 (ln y0.Guests)) (share (up y0.Guests a1 ({y1 with Written:=(zkX y1.Written a2 a3)}:Guest)) (fun x5=>(some [(aT .bare ({y0 with Guests:=x5}:Bare)),(aB true)])))))))))))))
theorem zPv (a0:Bare)(a1 a2:Int)(a3:Slot)(hc:zpy a0 a1 a2 a3=true):∃N,zEG N a0 a1 a2 a3=some [aT .bare (zhr a0 a1 a2 a3),aB (zjh a0 a1 a2 a3)]:=by
 have hs:=zQ.1 hc;have hx:=zi1 a1 hs;have hz:zcb a0 a1=true->hasB a1 (ln a0.Guests)=true:=fun h=>(zdn.1 h).2;have hz2:zcb a0 a1=true->gAt a0 a1=ix a0.Guests a1 zD:=fun h=>zsB (zdn.1 h).2;have hw:=hx.2.1;refine⟨0,?_⟩;unfold zEG oN nB;conv=>zeta
 refine mu (mu (brN (fun _=>?_) (fun _=>must rfl (brN (fun _=>?_) (fun _=>must rfl (brN (fun _=>?_) (fun _=>mu (mu (mu (shr ?_))))))))));all_goals first|rfl|(simp only [*,zhr,zjh,chg,zbZ,zrf,zy6,zdV,cT,cF]<;>rfl)|simp_all[Ty.cells,zhr,zjh,chg,zbZ,zrf,zy6,zdV]
theorem zt7:vL 240 zqU:=kF4 zjI zJ zG zx (zy []) zPv
@[simp] abbrev zq4 (b:Bare)(g p:Int):Bool:=pc (SmB b)
@[simp] abbrev zed (b:Bare)(g p:Int):Bare:=chg b g (hasB p 4) (zdx (gAt b g) p)
@[simp] abbrev zgU (b:Bare)(g p:Int):Bool:=zbZ b g (hasB p 4)
def znc:Run:=rF3 (dT .bare) dI dI fun b c d=>(zq4 b c d,[aT .bare (zed b c d),aB (zgU b c d)])
def zzi (N:Nat)(a0:Bare)(a1 a2:Int):OA:=
 let y1:=(zcm a0);let y2:=(inb a1 (ln y1.Guests));let y0:=(ix y1.Guests a1 zD); (oN (zeA a0) (oN (zh8 y1 a1) (cond (nB (zjl y1 a1)) (some [(aT .bare y1),(aB false)]) (oN (zN a2 0 3) (cond (nB (zS a2 0 3)) (some [(aT .bare y1),(aB false)]) (oN y2 (oN y2 (oN (znE y0.Written a2) (oN (znH y0.Live a2 (ziw y0.Written a2)) (oN y2 (share (up y1.Guests a1 ({y0 with Live:=(zkX y0.Live a2 (ziw y0.Written a2))}:Guest)) (fun x4=>(some [(aT .bare ({y1 with Guests:=x4}:Bare)),(aB true)])))))))))))))
theorem zJR (a0:Bare)(a1 a2:Int)(hc:zq4 a0 a1 a2=true):∃N,zzi N a0 a1 a2=some [aT .bare (zed a0 a1 a2),aB (zgU a0 a1 a2)]:=by
 have hs:=zQ.1 hc;have hx:=zi1 a1 hs;have hz:zcb a0 a1=true->hasB a1 (ln a0.Guests)=true:=fun h=>(zdn.1 h).2;have hz2:zcb a0 a1=true->gAt a0 a1=ix a0.Guests a1 zD:=fun h=>zsB (zdn.1 h).2;have hw:=hx.2.2.1;refine⟨0,?_⟩;unfold zzi oN nB;conv=>zeta
 refine mu (mu (brN (fun _=>?_) (fun _=>must rfl (brN (fun _=>?_) (fun _=>mu (mu (must rfl (mu (mu (shr ?_))))))))));all_goals first|rfl|(simp only [*,zed,zgU,chg,zbZ,zdx,zdV,cT,cF]<;>rfl)|simp_all[Ty.cells,zed,zgU,chg,zbZ,zdx,zdV]
theorem zrl:vL 243 znc:=kF3 zjI zJ zG zx (zy []) zJR
@[simp] abbrev zkH (b:Bare)(g v:Int):Bool:=pc (SmB b)
@[simp] abbrev zfi (b:Bare)(g v:Int):Bare:=chg b g (zqF (gAt b g) v) (zvC (gAt b g) v)
@[simp] abbrev zgu (b:Bare)(g v:Int):Bool:=zbZ b g (zqF (gAt b g) v)
def zma:Run:=rF3 (dT .bare) dI dI fun b c d=>(zkH b c d,[aT .bare (zfi b c d),aB (zgu b c d)])
def zwn (N:Nat)(a0:Bare)(a1 a2:Int):OA:=
 let y2:=(zcm a0);let y4:=(inb a1 (ln y2.Guests));let y1:=(⟨0,0,false,0⟩:GExit);let y0:=(ix y2.Guests a1 zD);let y3:=({y0 with A:=a2}:Guest); (oN (zeA a0) (oN (zh8 y2 a1) (cond (nB (zjl y2 a1)) (some [(aT .bare y2),(aB false)]) (oN (zN a2 0 99) (cond (nB (zS a2 0 99)) (some [(aT .bare y2),(aB false)]) (oN y4 (cond (ieq y0.Exit.Kind 2) (oN (zdO y3 y1) (oN (zdK (zdr y3 y1)) (oN y4 (share (up y2.Guests a1 (zfO (zdr y3 y1))) (fun x4=>(some [(aT .bare ({y2 with Guests:=x4}:Bare)),(aB true)])))))) (cond (ieq y0.Exit.Kind 3) (oN (zdO y0 y1) (oN (zdK (zdr y0 y1)) (oN y4 (share (up y2.Guests a1 (zfO (zdr y0 y1))) (fun x4=>(some [(aT .bare ({y2 with Guests:=x4}:Bare)),(aB true)])))))) (some [(aT .bare y2),(aB false)])))))))))
theorem zHd (a0:Bare)(a1 a2:Int)(hc:zkH a0 a1 a2=true):∃N,zwn N a0 a1 a2=some [aT .bare (zfi a0 a1 a2),aB (zgu a0 a1 a2)]:=by
 have hs:=zQ.1 hc;have hx:=zi1 a1 hs;have hz:zcb a0 a1=true->hasB a1 (ln a0.Guests)=true:=fun h=>(zdn.1 h).2;have hz2:zcb a0 a1=true->gAt a0 a1=ix a0.Guests a1 zD:=fun h=>zsB (zdn.1 h).2;have ho:_/\_/\_/\_:=hx;refine⟨0,?_⟩;unfold zwn oN nB;conv=>zeta
 refine mu (mu (brN (fun _=>?_) (fun _=>must rfl (brN (fun _=>?_) (fun _=>mu (br (fun _=>mu (mu (mu (shr ?_)))) (fun _=>br (fun _=>mu (mu (mu (shr ?_)))) (fun _=>?_))))))));all_goals first|rfl|(simp only [*,zfi,zgu,chg,zbZ,zqF,zvC,zjW,zdV,SmG,stopped,cT,cF]<;>rfl)|simp_all[Ty.cells,zfi,zgu,chg,zbZ,zqF,zvC,zjW,zdV,SmG,stopped]
theorem zqg:vL 246 zma:=kF3 zjI zJ zG zx (zy []) zHd
@[simp] abbrev zkJ (b:Bare)(g:Int):Bool:=pc (SmB b)
@[simp] abbrev zfk (b:Bare)(g:Int):Bare:=chg b g (zvO (gAt b g)) (zvP (gAt b g))
@[simp] abbrev zgw (b:Bare)(g:Int):Bool:=zbZ b g (zvO (gAt b g))
def zmc:Run:=rF2 (dT .bare) dI fun b c=>(zkJ b c,[aT .bare (zfk b c),aB (zgw b c)])
def zwp (N:Nat)(a0:Bare)(a1:Int):OA:=
 let y2:=(zcm a0);let y3:=(inb a1 (ln y2.Guests));let y1:=(⟨0,0,false,0⟩:GExit);let y0:=(ix y2.Guests a1 zD); (oN (zeA a0) (oN (zh8 y2 a1) (cond (nB (zjl y2 a1)) (some [(aT .bare y2),(aB false)]) (oN y3 (cond (ieq y0.Exit.Kind 1) (oN (zdO y0 y1) (oN y3 (share (up y2.Guests a1 (zdr y0 y1)) (fun x3=>(some [(aT .bare ({y2 with Guests:=x3}:Bare)),(aB true)]))))) (cond (ieq y0.Exit.Kind 4) (oN (zdO y0 y1) (oN (zme (zdr y0 y1)) (oN y3 (share (up y2.Guests a1 (zxt (zdr y0 y1))) (fun x3=>(some [(aT .bare ({y2 with Guests:=x3}:Bare)),(aB true)])))))) (some [(aT .bare y2),(aB false)])))))))
theorem zHf (a0:Bare)(a1:Int)(hc:zkJ a0 a1=true):∃N,zwp N a0 a1=some [aT .bare (zfk a0 a1),aB (zgw a0 a1)]:=by
 have hs:=zQ.1 hc;have hx:=zi1 a1 hs;have hz:zcb a0 a1=true->hasB a1 (ln a0.Guests)=true:=fun h=>(zdn.1 h).2;have hz2:zcb a0 a1=true->gAt a0 a1=ix a0.Guests a1 zD:=fun h=>zsB (zdn.1 h).2;have ho:_/\_/\_/\_:=hx;refine⟨0,?_⟩;unfold zwp oN nB;conv=>zeta
 refine mu (mu (brN (fun _=>?_) (fun _=>mu (br (fun _=>mu (mu (shr ?_))) (fun _=>br (fun _=>mu (mu (mu (shr ?_)))) (fun _=>?_))))));all_goals first|rfl|(simp only [*,zfk,zgw,chg,zbZ,zvO,zvP,zjW,zdV,SmG,stopped,cT,cF]<;>rfl)|simp_all[Ty.cells,zfk,zgw,chg,zbZ,zvO,zvP,zjW,zdV,SmG,stopped]
theorem zqi:vL 247 zmc:=kF2 zjI zJ zG zx (zy []) zHf
theorem z8a {b:Bare}{g:Int}{c:Bool}{x:Guest}(h:zcb b g=false):chg b g c x=b:=by unfold chg;rw[h];rfl
theorem z6l {b:Bare}{g n:Int}(h:zcb b g=true):chg b g (zfF (gAt b g).Pending n) (zl7 (gAt b g) n)=zdV b g (zl7 (gAt b g) n):=by unfold chg;rw[h];cases hp:zfF (gAt b g).Pending n;{rw [z7d hp,z1g (zdn.1 h).2];rfl};{rfl}
@[simp] abbrev zkI (b:Bare)(g n:Int):Bool:=pc (SmB b)
@[simp] abbrev zfj (b:Bare)(g n:Int):Bare:=chg b g (zfF (gAt b g).Pending n) (zl7 (gAt b g) n)
@[simp] abbrev zgv (b:Bare)(g n:Int):Bool:=zbZ b g (zfF (gAt b g).Pending n)
def zmb:Run:=rF3 (dT .bare) dI dI fun b c d=>(zkI b c d,[aT .bare (zfj b c d),aB (zgv b c d)])
def zwo (N:Nat)(a0:Bare)(a1 a2:Int):OA:=
 let y1:=(zcm a0);let y0:=(ix y1.Guests a1 zD); (oN (zeA a0) (oN (zh8 y1 a1) (cond (nB (zjl y1 a1)) (some [(aT .bare y1),(aB false)]) (oN (inb a1 (ln y1.Guests)) (oN (zji y0.Pending a2) (oN (inb a1 (ln y1.Guests)) (share (up y1.Guests a1 ({y0 with Pending:=(zgf y0.Pending a2)}:Guest)) (fun x4=>(some [(aT .bare ({y1 with Guests:=x4}:Bare)),(aB (zls y0.Pending a2))])))))))))
theorem zHe (a0:Bare)(a1 a2:Int)(hc:zkI a0 a1 a2=true):∃N,zwo N a0 a1 a2=some [aT .bare (zfj a0 a1 a2),aB (zgv a0 a1 a2)]:=by
 have hs:=zQ.1 hc;have hz:zcb a0 a1=true->hasB a1 (ln a0.Guests)=true:=fun h=>(zdn.1 h).2;have hz2:zcb a0 a1=true->gAt a0 a1=ix a0.Guests a1 zD:=fun h=>zsB (zdn.1 h).2;have hj:=@z6l a0 a1 a2;have hj0:=@z8a a0 a1 (zfF (gAt a0 a1).Pending a2) (zl7 (gAt a0 a1) a2);refine⟨0,?_⟩;unfold zwo oN nB;conv=>zeta
 refine mu (mu (brN (fun _=>?_) (fun _=>mu (must rfl (mu (shr ?_))))));all_goals first|rfl|(simp only [*,zfj,zgv,zbZ,zdV,zl7,cT,cF]<;>rfl)|simp_all[Ty.cells,zfj,zgv,zbZ,zdV,zl7]
theorem zqh:vL 248 zmb:=kF3 zjI zJ zG zx (zy []) zHe
@[simp] abbrev zpx (b:Bare)(g:Int)(c:Ctl):Bool:=pc (SmB b)
@[simp] abbrev zhq (b:Bare)(g:Int)(c:Ctl):Bare:=chg b g (zid c) (zGh (gAt b g) c)
@[simp] abbrev zjg (b:Bare)(g:Int)(c:Ctl):Bool:=zbZ b g (zid c)
def zqT:Run:=rF3 (dT .bare) dI dC fun b c d=>(zpx b c d,[aT .bare (zhq b c d),aB (zjg b c d)])
def zEF (N:Nat)(a0:Bare)(a1:Int)(a2:Ctl):OA:=
 let y0:=(zcm a0); (oN (zeA a0) (oN (zh8 y0 a1) (cond (nB (zjl y0 a1)) (some [(aT .bare y0),(aB false)]) (oN (zqr a2) (cond (nB (zoT a2)) (some [(aT .bare y0),(aB false)]) (oN (inb a1 (ln y0.Guests)) (share (up y0.Guests a1 ({ (ix y0.Guests a1 zD) with Ctl:=a2}:Guest)) (fun x4=>(some [(aT .bare ({y0 with Guests:=x4}:Bare)),(aB true)])))))))))
theorem zPu (a0:Bare)(a1:Int)(a2:Ctl)(hc:zpx a0 a1 a2=true):∃N,zEF N a0 a1 a2=some [aT .bare (zhq a0 a1 a2),aB (zjg a0 a1 a2)]:=by
 have hs:=zQ.1 hc;have hz:zcb a0 a1=true->hasB a1 (ln a0.Guests)=true:=fun h=>(zdn.1 h).2;have hz2:zcb a0 a1=true->gAt a0 a1=ix a0.Guests a1 zD:=fun h=>zsB (zdn.1 h).2;refine⟨0,?_⟩;unfold zEF oN nB;conv=>zeta
 refine mu (mu (brN (fun _=>?_) (fun _=>must rfl (brN (fun _=>?_) (fun _=>mu (shr ?_))))));all_goals first|rfl|(simp only [*,zhq,zjg,chg,zbZ,zGh,zdV,cT,cF]<;>rfl)|simp_all[Ty.cells,zhq,zjg,chg,zbZ,zGh,zdV]
theorem zt6:vL 249 zqT:=kF3 zjI zJ zG zx (zy []) zPu
def z5R (p c v:Int):Bool:=bif hasB p 8 then (cond (hasB c 4) (win v 0 99) false) else false
def zwU (b:Bare)(p c v:Int):Bool:=bif zb7 b then z5R p c v else false
def zQD (b:Bare)(p c v:Int):Bare:=bif zwU b p c v then {b with Memory:=zbI b.Memory p c v} else b
def zk8 (b:Bare):Bare:=bif zb7 b then {b with Pending:=zi8 b.Pending} else b
def zqE (b:Bare):Int:=bif zb7 b then zsO b.Pending else -1
def zkp (b:Bare):Bool:=bif zb7 b then !ilt (zdy b.Pending) 0 else false
def zmU (b:Bare)(g a n:Int):Bool:=bif zcb b g then (cond (win a 0 15) (ze0 (gAt b g).Live (zbg a) n) false) else false
def zDg (b:Bare)(g a n:Int):Int:=zcx (gAt b g).Live (zbg a) n
def zx9 (b:Bare)(g a v:Int):Bool:=bif zmU b g a 2 then win v 0 99 else false
def zXG (b:Bare)(g a v:Int):Bare:=bif zx9 b g a v then {b with Memory:=zbI b.Memory (zDg b g a 2) (zc4 a) v} else b
def zQH (b:Bare)(g a:Int):Int:=bif zmU b g a 1 then cellAt b.Memory (zDg b g a 1) (zc4 a) else 0
@[simp] abbrev zpw (b:Bare):Bool:=pc (SmB b)
@[simp] abbrev zhp (b:Bare):Bare:=zk8 b
@[simp] abbrev zje (b:Bare):Int:=zqE b
@[simp] abbrev zjf (b:Bare):Bool:=zkp b
def zqS:Run:=rF1 (dT .bare) fun b=>(zpw b,[aT .bare (zhp b),aI (zje b),aB (zjf b)])
def zEE (N:Nat)(a0:Bare):OA:=
 let y0:=(zcm a0); (oN (zeA a0) (oN (zno y0) (cond (nB (zej y0)) (some [(aT .bare y0),(aI (-1)),(aB false)]) (oN (zpQ y0.Pending) (some [(aT .bare ({y0 with Pending:=(zjj y0.Pending)}:Bare)),(aI (zjk y0.Pending)),(aB (zlu y0.Pending))])))))
theorem zPt (a0:Bare)(hc:zpw a0=true):∃N,zEE N a0=some [aT .bare (zhp a0),aI (zje a0),aB (zjf a0)]:=by
 have hs:=zQ.1 hc;refine⟨0,?_⟩;unfold zEE oN nB;conv=>zeta
 refine mu (must rfl (brN (fun _=>?_) (fun _=>must rfl ?_)));all_goals first|rfl|(simp only [*,zhp,zje,zjf,zk8,zqE,zkp,zi8,zsO,cT,cF]<;>rfl)|simp_all[Ty.cells,zhp,zje,zjf,zk8,zqE,zkp,zi8,zsO]
theorem zt5:vL 253 zqS:=kF1 zjI zJ zG zx (zy []) zPt
def z5m:zZ:=z5l
theorem zRs:zL z5m:=zjI
def zdJ (l:List Guest)(n:Int):List Int:=idxs (fun (x:Guest)=>posts x.Ctl n) l 0
theorem zRZ {α:Type}(p:α->Bool):∀(l:List α) (i:Nat),∀k∈idxs p l i,(i:Int)<=k/\k<(i:Int)+l.length
 |[],_,k,hk=>by cases hk
 |x::l,i,k,hk=>by have hr:=zRZ p l (i+1);simp only[qV];unfold idxs at hk;cases hp:p x;{rw [hp]at hk;have:=hr k hk;omega};{rw [hp]at hk;rcases qF.1 hk with rfl|hk;{omega};{have:=hr k hk;omega}}
@[simp] abbrev ztk (b:Bare)(n:Int):Bool:=pc (SmB b)
@[simp] abbrev zkU (b:Bare)(n:Int):List Int:=zdJ b.Guests n
def zxj:Run:=rF2 (dT .bare) dI fun b c=>(ztk b c,[aS .int (zkU b c)])
def zAT (N:Nat)(a0:Bare)(a1:Int):OA:=
 (iter (σ:=(Int×(Int×(Int×((List Int)×(lM×(lG×((List Int)×Unit)))))))) N (fun r3 s4=>let y0:=s4.2.2.2.2.2.1;let y1:=(ix y0 s4.2.1 zD).Ctl; (cond (ilt s4.2.1 (ln y0)) (oN (inb s4.2.1 (ln y0)) (oN (zCN y1 s4.1) (cond (zxv y1 s4.1) (oN (few (ln (ap s4.2.2.2.1 [s4.2.1]))) (r3 (s4.1,((zK .i64 s4.2.1 1),(s4.2.2.1,((ap s4.2.2.2.1 [s4.2.1]),(s4.2.2.2.2.1,(y0,(s4.2.2.2.2.2.2.1,()))))))))) (r3 (s4.1,((zK .i64 s4.2.1 1),(s4.2.2.1,(s4.2.2.2.1,(s4.2.2.2.2.1,(y0,(s4.2.2.2.2.2.2.1,()))))))))))) (some [(aS .int s4.2.2.2.1)]))) (a1,(0,(a0.Pending,([],(a0.Memory,(a0.Guests,(a0.Outs,()))))))))
def zNn:FuncId->Nat->Option Tmpl:=zy [(305,0,{n:=28,tm:=[(1,ti),(2,.lp 0 0),(5,.sl 0 []),(6,ti)],lo:=[(0,[.sl 1 [],.sl 2 [],.sl 3 [],ti])],ro:=[(0,.int,true),(1,(.sl .int),false),(2,.guest,false),(3,.int,false)]})]
theorem zMB (a0:Bare)(a1:Int)(hc:ztk a0 a1=true):∃N,zAT N a0 a1=some [aS .int (zkU a0 a1)]:=by
 have hs:=zQ.1 hc;have hl:=zcC hs.2.1.1;refine zcG fun N hNN=>?_;unfold zAT oN;conv=>zeta
 refine(zbn a0.Guests (fun i (t:(List Int))=>(a1,(i:Int),a0.Pending,t,a0.Memory,a0.Guests,a0.Outs,())) _ (fun i (x:Guest) (t:List Int) κ=>bif posts x.Ctl a1 then (cond (few (ln (ap t [(i:Int)]))) (κ (ap t [(i:Int)])) none) else κ t) (fun (t:(List Int))=>(some [(.one (.s .int t))])) (fun i hi t rec=>?_) (fun t rec=>?_) _ ([]) (hNN hl.1)).trans ?_;{simp only [zbS hi,zbq hi,zbA hi,zbk hi hl.1,cT]};{simp only [zbJ,cF]};exact zhm (fun (x:Guest)=>posts x.Ctl a1) _ a0.Guests 0 [] (by simpa using hl.2)
theorem zGO:vL 305 zxj:=kF2 zRs zJ zG zx zNn zMB
def z5n:zZ:=[(305,zxj)]++z5m
theorem zRt:zL z5n:=zi zGO zRs
def zDB (n:Int)(l:List Guest)(k:Int):List Guest:=up l k (zl7 (ix l k zD) n)
def zkE (n:Int)(ks:List Int)(l:List Guest):List Guest:=ks.foldl (zDB n) l
theorem zBW (n:Int)(l:List Guest)(k:Int):(zDB n l k).length=l.length:=zf3 _ _ _
theorem zY5 {n:Int}{l:List Guest}{k:Int}(hk:hasB k (ln l)=true)(h:zk7 l):zk7 (zDB n l k):=zDI h (z1q h hk _)
theorem zCX {n:Int}:∀(ks:List Int) {l:List Guest},(∀k∈ks,hasB k (ln l)=true)->zk7 l->zk7 (zkE n ks l)/\(zkE n ks l).length=l.length
 |[],_,_,h=>⟨h,rfl⟩
 |k::ks,l,hk,h=>by have h1:=zY5 (n:=n) (hk k (by simp)) h;obtain⟨g1,g2⟩:=zCX (n:=n) ks (l:=zDB n l k) (fun j hj=>by rw[ln,zBW];exact hk j (by simp[hj])) h1;exact⟨g1,g2.trans (zBW _ _ _)⟩
theorem zRM {ρ:Type}(n:Int)(K:List Guest->Option ρ):∀(ks:List Int) (i:Nat) (l:List Guest),(∀k∈ks,hasB k (ln l)=true)->
 goL (fun _ k (t:List Guest) κ=>bif inb k (ln t) then (cond (inb k (ln t)) (κ (up t k (zl7 (ix t k zD) n))) none) else none) K ks i l=K (zkE n ks l)
 |[],_,_,_=>rfl
 |k::ks,i,l,h=>by have hk:inb k (ln l)=true:=h k (by simp);simp only[goL,hk,cT];exact zRM n K ks (i+1) (zDB n l k) (fun j hj=>by rw[ln,zBW];exact h j (by simp[hj]))
def zDC (b:Bare)(n:Int):Bare:=bif ieq (ln (zdJ b.Guests n)) 0 then {b with Pending:=zrK b.Pending n} else {b with Guests:=zkE n (zdJ b.Guests n) b.Guests}
def zeu (b:Bare)(n:Int):Bool:=bif zb7 b then hasB n 8 else false
def zis (b:Bare)(n:Int):Bare:=bif zeu b n then zDC b n else b
theorem zKn {b:Bare}{n:Int}:∀k∈zdJ b.Guests n,hasB k (ln b.Guests)=true:=fun k hk=>by have:=zRZ _ _ _ k hk;exact qL (by simp only[ln];omega)
theorem zYw {b:Bare}{n:Int}(h:ieq (ln (zdJ b.Guests n)) 0=true):zkE n (zdJ b.Guests n) b.Guests=b.Guests:=by have h1:((zdJ b.Guests n).length:Int)=0:=qE h;have:zdJ b.Guests n=[]:=uR.1 (by omega);rw[this];rfl
theorem zYv {b:Bare}{n:Int}:(cond (ieq (ln (zdJ b.Guests n)) 0) (some [AV.agg (Ty.cells .bare ⟨b.Memory,zkE n (zdJ b.Guests n) b.Guests,b.Outs,zrK b.Pending n⟩),AV.one (.b true)]) (some [AV.agg (Ty.cells .bare ⟨b.Memory,zkE n (zdJ b.Guests n) b.Guests,b.Outs,b.Pending⟩),AV.one (.b true)]))=some [AV.agg (Ty.cells .bare (zDC b n)),AV.one (.b true)]:=by unfold zDC;cases h:ieq (ln (zdJ b.Guests n)) 0;{rfl};{simp only [cT,zYw h]}
@[simp] abbrev znp (b:Bare)(n:Int):Bool:=pc (SmB b)
@[simp] abbrev zhP (b:Bare)(n:Int):Bare:=zis b n
@[simp] abbrev zj4 (b:Bare)(n:Int):Bool:=zeu b n
def zoL:Run:=rF2 (dT .bare) dI fun b c=>(znp b c,[aT .bare (zhP b c),aB (zj4 b c)])
def zAL (N:Nat)(a0:Bare)(a1:Int):OA:=
 let y2:=(zcm a0); (oN (zeA a0) (oN (zno y2) (cond (nB (zej y2)) (some [(aT .bare y2),(aB false)]) (oN (zN a1 0 7) (cond (nB (zS a1 0 7)) (some [(aT .bare y2),(aB false)]) (oN (ztk y2 a1) (iter (σ:=(Int×(Int×(Int×(Int×((List Int)×(lM×(lG×((List Int)×(lM×(lG×((List Int)×Unit)))))))))))) N (fun r3 s4=>let y5:=s4.2.2.2.2.2.2.2.1;let y3:=s4.2.2.2.2.1;let y1:=s4.2.2.2.2.2.2.1;let y0:=(ix y3 s4.2.1 0);let y4:=(ix y1 y0 zD); (cond (ilt s4.2.1 (ln y3)) (oN (inb s4.2.1 (ln y3)) (oN (inb s4.2.1 (ln y3)) (oN (inb y0 (ln y1)) (oN (zji y4.Pending s4.1) (oN (inb y0 (ln y1)) (r3 (s4.1,((zK .i64 s4.2.1 1),(s4.2.2.1,(s4.2.2.2.1,(y3,(s4.2.2.2.2.2.1,((up y1 y0 ({y4 with Pending:=(zgf y4.Pending s4.1)}:Guest)),(y5,(s4.2.2.2.2.2.2.2.2.1,(s4.2.2.2.2.2.2.2.2.2.1,(s4.2.2.2.2.2.2.2.2.2.2.1,()))))))))))))))))) (cond (ieq (ln y3) 0) (oN (zji s4.2.2.1 s4.1) (some [(aT .bare (⟨s4.2.2.2.2.2.1,y1,y5,(zgf s4.2.2.1 s4.1)⟩:Bare)),(aB true)])) (some [(aT .bare (⟨s4.2.2.2.2.2.1,y1,y5,s4.2.2.1⟩:Bare)),(aB true)])))) (a1,(0,(y2.Pending,(0,((zkU y2 a1),(y2.Memory,(y2.Guests,(y2.Outs,([],([],([],()))))))))))))))))))
def zNj:FuncId->Nat->Option Tmpl:=zy [(252,0,{n:=62,tm:=[(1,ti),(2,.lp 0 0),(4,.lp 1 0),(6,.sl 0 []),(7,ti)],lo:=[(0,[.sl 1 [],.sl 2 [],.sl 3 [],ti]),(1,[.sl 4 [],.sl 5 [],.sl 6 [],ti])],ro:=[(0,.int,true),(1,(.sl .int),true),(2,.guest,true),(3,.int,true),(4,(.sl .int),true),(5,.guest,true),(6,.int,true)]})]
theorem zMs (a0:Bare)(a1:Int)(hc:znp a0 a1=true):∃N,zAL N a0 a1=some [aT .bare (zhP a0 a1),aB (zj4 a0 a1)]:=by
 have hs:=zQ.1 hc;have hk:(zdJ a0.Guests a1).length<=big:=qT (zsM _ _ _) (zcC hs.2.1.1).1;refine zcG fun N hNN=>?_;unfold zAL zhP zj4 zis zeu oN nB;conv=>zeta
 refine must (zbf hs) (must rfl (brN (fun h1=>?_) (fun h1=>must rfl (brN (fun h2=>?_) (fun h2=>must (zbf hs) ?_)))));{simp only [show zb7 a0=false from h1,cF]};{simp only [show zb7 a0=true from h1,show hasB a1 8=false from by first|exact h2|exact(z1G a1).symm.trans h2,cT,cF]};simp only[show zb7 a0=true from h1,show hasB a1 8=true from by first|exact h2|exact(z1G a1).symm.trans h2,cT];refine(zbn (zkU (zcm a0) a1) (fun i (t:lG)=>(a1,(i:Int),(zcm a0).Pending,0,(zkU (zcm a0) a1),(zcm a0).Memory,t,(zcm a0).Outs,[],[],[],())) _ (fun _ k (t:List Guest) κ=>bif inb k (ln t) then (cond (inb k (ln t)) (κ (up t k (zl7 (ix t k zD) a1))) none) else none) (fun (t:lG)=>(cond (ieq (ln (zkU (zcm a0) a1)) 0) (cond (zji (zcm a0).Pending a1) (some [(.agg (Ty.cells .bare (⟨(zcm a0).Memory,t,(zcm a0).Outs,(zgf (zcm a0).Pending a1)⟩:Bare))),(.one (.b true))]) none) (some [(.agg (Ty.cells .bare (⟨(zcm a0).Memory,t,(zcm a0).Outs,(zcm a0).Pending⟩:Bare))),(.one (.b true))]))) (fun i hi t rec=>?_) (fun t rec=>?_) _ ((zcm a0).Guests) (hNN hk)).trans ?_;{simp only [zbS hi,zbq hi,zbA hi,zbk hi hk,cT];rfl};{simp only [zbJ,cF];rfl};exact(zRM a1 _ _ 0 _ zKn).trans zYv
theorem zsE:vL 252 zoL:=kF2 zRt zJ zG zx zNj zMs
def zZu:zZ:=[(240,zqU),(243,znc),(246,zma),(247,zmc),(248,zmb),(249,zqT),(253,zqS),(252,zoL)]++z5n
theorem zBd:zL zZu:=zi zt7 (zi zrl (zi zqg (zi zqi (zi zqh (zi zt6 (zi zt5 (zi zsE zRt)))))))
theorem z1y {n:Int}(h:(ieq n 4||ieq n 8)=true):n=4\/n=8:=by rcases kF _ _ ▸ h with h|h;{exact .inl (qE h)};{exact .inr (qE h)}
theorem z0B {n:Int}(h:(ieq n 8||ieq n 12)=true):n=8\/n=12:=by rcases kF _ _ ▸ h with h|h;{exact .inl (qE h)};{exact .inr (qE h)}
@[simp] abbrev zhT (n:Int):Bool:=ieq n 4||ieq n 8
@[simp] abbrev zf8 (n:Int):List Slot:=List.replicate n.toNat ⟨-1,0⟩
def zoP:Run:=rF1 dI fun b=>(zhT b,[aS .slot (zf8 b)])
def zQT (N:Nat)(a0:Int):OA:=
 (oN (zpz a0 0 24) (iter (σ:=(Int×(lS×Unit))) N (fun r2 s3=>(cond (igt s3.1 0) (oN zcp (oN (few (ln (ap s3.2.1 [zbt]))) (r2 ((wsub .i64 s3.1 1),((ap s3.2.1 [zbt]),()))))) (some [(aS .slot s3.2.1)]))) ((zqq a0 0 24),([],()))))
def zNo:FuncId->Nat->Option Tmpl:=zy [(144,0,{n:=17,tm:=[(3,.sl 0 []),(4,ti)],lo:=[],ro:=[(0,.slot,true)]})]
theorem zMF (a0:Int)(hc:zhT a0=true):∃N,zQT N a0=some [aS .slot (zf8 a0)]:=by refine⟨30,?_⟩;have h:a0=4\/a0=8:=z1y hc;rcases h with rfl|rfl<;>(change _=_;kernel_rfl)
theorem zsH:vL 144 zoP:=kF1 zBd zJ zG zx zNo zMF
@[simp] abbrev znB (n:Int):Bool:=ieq n 8||ieq n 12
@[simp] abbrev ziv (n:Int):List (List Int):=List.replicate n.toNat [0,0,0,0]
def zs9:Run:=rF1 dI fun b=>(znB b,[aS (.sl .int) (ziv b)])
def zXc (N:Nat)(a0:Int):OA:=
 (oN (zpz a0 0 24) (iter (σ:=(Int×(lM×Unit))) N (fun r2 s3=>(cond (igt s3.1 0) (oN (cond (few 4) (ieq 4 4) false) (oN (few (ln (ap s3.2.1 [(rp 4 0)]))) (r2 ((wsub .i64 s3.1 1),((ap s3.2.1 [(rp 4 0)]),()))))) (some [(aS (.sl .int) s3.2.1)]))) ((zqq a0 0 24),([],()))))
def zUc:FuncId->Nat->Option Tmpl:=zy [(84,0,{n:=17,tm:=[(3,.sl 0 []),(4,ti)],lo:=[],ro:=[(0,(.sl .int),true)]})]
theorem zSr (a0:Int)(hc:znB a0=true):∃N,zXc N a0=some [aS (.sl .int) (ziv a0)]:=by refine⟨30,?_⟩;have h:a0=8\/a0=12:=z0B hc;rcases h with rfl|rfl<;>(change _=_;kernel_rfl)
theorem zwJ:vL 84 zs9:=kF1 zBd zJ zG zx zUc zSr
def zZv:zZ:=[(144,zoP),(84,zs9)]++zZu
theorem zN4:zL zZv:=zi zsH (zi zwJ zBd)
def zkj:List Slot:=List.replicate 4 ⟨-1,0⟩
def zeh (p:List Ins):Guest:=⟨p,0,0,zkj,zkj,⟨0,0,false⟩,0,⟨0,0,false,0⟩,false,[]⟩
@[simp] abbrev zhR (p:List Ins):Bool:=pc (p.length<=1048576)
@[simp] abbrev zcj (p:List Ins):Guest:=zeh p
def zkG:Run:=rF1 (dS .ins) fun b=>(zhR b,[aT .guest (zcj b)])
def zAO (N:Nat)(a0:lI):OA:=
 (oN (few (ln (ap [] a0))) (oN (zhT 4) (oN (zhT 4) (some [(aT .guest (⟨(ap [] a0),0,0,(zf8 4),(zf8 4),⟨0,0,false⟩,0,⟨0,0,false,0⟩,false,[]⟩:Guest))]))))
theorem zMw (a0:List Ins)(hc:zhR a0=true):∃N,zAO N a0=some [aT .guest (zcj a0)]:=by have hs:=zQ.1 hc;refine⟨0,?_⟩;unfold zAO oN;refine mu (must rfl (must rfl ?_));first|rfl|(simp only [*,zcj,zeh,zkj,cT,cF]<;>rfl)|simp_all[Ty.cells,zcj,zeh,zkj]
theorem zl4:vL 145 zkG:=kF1 zN4 zJ zG zx (zy []) zMw
def z8m:zZ:=[(145,zkG)]++zZv
theorem zBe:zL z8m:=zi zl4 zN4
def zMW:List (List Int):=List.replicate 8 [0,0,0,0]
def z7W (ps:List (List Ins)):Prop:=ps.length<=1048576/\∀p∈ps,p.length<=1048576
theorem zOt {α β ρ:Type}(m:Nat)(f:α->β)(K:List β->Option ρ):∀(l:List α) (i:Nat) (acc:List β),acc.length+l.length<=2147483648->
 goL (fun (i:Nat) x acc k=>bif ilt (i:Int) (m:Int) then (cond (few (ln (ap acc [f x]))) (k (ap acc [f x])) none) else K acc) K l i acc=K (acc++(l.take (m-i)).map f)
 |[],i,acc,_=>by simp[goL]
 |x::l,i,acc,hn=>by simp only[qV]at hn;have hf:few (ln (ap acc [f x]))=true:=zf1 (by simp[ap];omega);by_cases h:i<m;{have hi:ilt (i:Int) (m:Int)=true:=qL (by omega);simp only[goL,hi,hf,cT];rw[zOt m f K l (i+1) (ap acc [f x]) (by simp[ap];omega)];rw[show m-i=m-(i+1)+1 by omega];simp[ap]};{have hi:ilt (i:Int) (m:Int)=false:=qS (by omega);simp only[goL,hi,cF];rw[show m-i=0 by omega];simp}
@[simp] abbrev zCD (a:GAct):Bool:=true
@[simp] abbrev zxs (a:GAct):Bool:=win a.Kind 1 17
def zFx:Run:=rF1 (dT .act) fun b=>(zCD b,[aB (zxs b)])
def zNB (N:Nat)(a0:GAct):OA:=
 (oN (zN a0.Kind 1 17) (some [(aB (zS a0.Kind 1 17))]))
theorem zU3 (a0:GAct)(hc:zCD a0=true):∃N,zNB N a0=some [aB (zxs a0)]:=by refine⟨0,?_⟩;unfold zNB oN;refine must rfl ?_;first|rfl|(simp only [*,zxs,cT,cF]<;>rfl)|simp_all[Ty.cells,zxs]
theorem zO3:vL 153 zFx:=kF1 zBe zJ zG zx (zy []) zU3
@[simp] abbrev zv2 (k:Int):Bool:=true
@[simp] abbrev zqs (k:Int):Bool:=win k 13 17
def zzV:Run:=rF1 dI fun b=>(zv2 b,[aB (zqs b)])
def zER (N:Nat)(a0:Int):OA:=
 (oN (zN a0 13 17) (some [(aB (zS a0 13 17))]))
theorem zPG (a0:Int)(hc:zv2 a0=true):∃N,zER N a0=some [aB (zqs a0)]:=by refine⟨0,?_⟩;unfold zER oN;refine must rfl ?_;first|rfl|(simp only [*,zqs,cT,cF]<;>rfl)|simp_all[Ty.cells,zqs]
theorem zJc:vL 154 zzV:=kF1 zBe zJ zG zx (zy []) zPG
@[simp] abbrev zCE (a:GAct):Bool:=true
@[simp] abbrev zoS (a:GAct):Ctl:=⟨a.X,a.Y,ieq a.Z 1⟩
def zFy:Run:=rF1 (dT .act) fun b=>(zCE b,[.agg (zmR (zoS b))])
def zNC (N:Nat)(a0:GAct):OA:=
 (some [(.agg [(.i .i64 a0.X),(.i .i64 a0.Y),(.b (ieq a0.Z 1))])])
theorem zU4 (a0:GAct)(hc:zCE a0=true):∃N,zNC N a0=some [.agg (zmR (zoS a0))]:=by refine⟨0,?_⟩;unfold zNC;first|rfl|(simp only [*,zoS,cT,cF]<;>rfl)|simp_all[Ty.cells,zoS]
theorem zO4:vL 163 zFy:=kF1 zBe zJ zG zx (zy []) zU4
def zRm:zZ:=[(240,zqU),(243,znc),(246,zma),(247,zmc),(248,zmb),(249,zqT),(253,zqS),(252,zoL),(84,zs9)]++z5j
theorem zBg:zL zRm:=zi zt7 (zi zrl (zi zqg (zi zqi (zi zqh (zi zt6 (zi zt5 (zi zsE (zi zwJ z2y))))))))
def zcR (x:Mon):Bare:=⟨zMW,x.Guests,x.Outs,x.Pending⟩
def ztN (x:Mon)(b:Bare):Mon:={x with Guests:=b.Guests,Pending:=b.Pending}
def zcZ (h:Host)(m:Int)(b:Bare):Host:={h with Mons:=up h.Mons m (ztN (ix h.Mons m mZ) b)}
@[simp] abbrev zea (x:Mon):Bool:=pc (ze8 x)
@[simp] abbrev zbK (x:Mon):Bare:=zcR x
def zAa:Run:=rF1 (dT .mon) fun b=>(zea b,[aT .bare (zbK b)])
def zE7 (N:Nat)(a0:Mon):OA:=
 (oN (znB 8) (oN (ze6 a0.Guests) (oN (few (ln (ap [] a0.Outs))) (some [(aT .bare (⟨(ziv 8),(zfy a0.Guests),(ap [] a0.Outs),a0.Pending⟩:Bare))]))))
theorem zP1 (a0:Mon)(hc:zea a0=true):∃N,zE7 N a0=some [aT .bare (zbK a0)]:=by have hs:=zQ.1 hc;refine⟨0,?_⟩;unfold zE7 oN;exact must rfl (must (zbf ((ztT _).2 hs.2.2.2.1)) (must (zwD hs.2.2.2.2.1) rfl))
theorem zJE:vL 241 zAa:=kF1 zBg zJ zcl zh3 (zy []) zP1
@[simp] abbrev zd9 (h:Host)(m:Int)(b:Bare):Bool:=pc (hasB m (ln h.Mons)=true/\zk7 b.Guests)
@[simp] abbrev zgl (h:Host)(m:Int)(b:Bare):Host:=zcZ h m b
theorem z8U {l:List Mon}{m:Int}(hm:hasB m (ln l)=true)(b:Bare):inb m (ln (up l m {ix l m mZ with Guests:=b.Guests}))=true/\
 up (up l m {ix l m mZ with Guests:=b.Guests}) m {ix (up l m {ix l m mZ with Guests:=b.Guests}) m mZ with Pending:=b.Pending}=up l m (ztN (ix l m mZ) b):=by
 obtain⟨k,rfl,hk⟩:=zds (n:=l.length) hm;refine⟨zC (by rw[ln,zf3];exact hm),?_⟩
 rw[zvp,zdz hk];rfl
def zq3:List AV->Option (Bool×List AV)
 |[.agg [.s (.sl .int) b,.s .mon c,.s .entry d,.s .entry e],.one (.i .i64 f),.agg [.s (.sl .int) g,.s .guest h,.s .int j,.i .i64 k]]=>some ((zd9 (⟨b,c,d,e⟩:Host) f (⟨g,h,j,k⟩:Bare)),[aH (zgl (⟨b,c,d,e⟩:Host) f (⟨g,h,j,k⟩:Bare))])
 |_=>none
def zvA (N:Nat)(a0:Host)(a1:Int)(a2:Bare):OA:=
 (oN (ze6 a2.Guests) (oN (inb a1 (ln a0.Mons)) (share (up a0.Mons a1 ({ (ix a0.Mons a1 zh) with Guests:=(zfy a2.Guests)}:Mon)) (fun x4=>(oN (inb a1 (ln x4)) (share (up x4 a1 ({ (ix x4 a1 zh) with Pending:=a2.Pending}:Mon)) (fun x5=>(some [(aH ({a0 with Mons:=x5}:Host))]))))))))
theorem zS0 (N:Nat)(a0:Host)(a1:Int)(a2:Bare):zXI (cQ zRm zoB zYu z3V) (zy []) N 12 242 [true,true,true,true,false,false,false,false,false] [aH a0,aI a1,aT .bare a2]=zvA N a0 a1 a2:=by kernel_rfl
theorem zP0 (a0:Host)(a1:Int)(a2:Bare)(hb:zcP big [aH a0,aI a1,aT .bare a2])(hc:zd9 a0 a1 a2=true):∃N,zvA N a0 a1 a2=some [aH (zgl a0 a1 a2)]:=by obtain⟨hm,hg⟩:=zQ.1 hc;obtain⟨h1,h2⟩:=z8U hm a2;refine⟨0,?_⟩;unfold zvA oN;refine must (zbf ((ztT _).2 hg)) (must (zC hm) (shr (must h1 (shr ?_))));have e:zfy a2.Guests=a2.Guests:=rfl;rw[e];show some [AV.agg (zbj {a0 with Mons:=_})]=some [AV.agg (zbj {a0 with Mons:=_})];rw[show zh=mZ from rfl,h2]
theorem zJD:zdG Tryz.prog 242 [true,true,true,true,false,false,false,false,false] none zq3:=by refine zLw (zfM zBg zJ zcl zh3) (zie (by kernel_rfl)) (by kernel_rfl) ?_;intro avs rs hl hr h;have hb:=zhF hr;unfold zq3 at h;split at h;{obtain⟨hc,rfl⟩:=zdL h;obtain⟨N,hN⟩:=zP0 _ _ _ (by exact hb) hc;exact⟨_,N,12,(zS0 N _ _ _ ).trans hN⟩};{cases h}
def zZA:zZ:=[(241,zAa)]++zRm
theorem zh5:zL zZA:=zi zJE zBg
def z9u:ze7:=[(242,([true,true,true,true,false,false,false,false,false],none,zq3))]++z3V
theorem zc6:zdW z9u:=zo7 zh3 (by
 intro x hx;simp only[qF,qP,or_false]at hx;rcases hx with rfl
 .exact zJD)
def z5Y (h:Host)(m:Int)(cB:Bool)(B:Bare)(o0 o1:Host->Ans):OA:=
 bif zbP h then (cond (zeZ h m) (cond (cond (zeY h m) false true) (some (o0 h)) (cond (inb m (ln h.Mons)) (cond (zea (ix h.Mons m mZ)) (cond cB (cond (zd9 h m B) (some (o1 (zcZ h m B))) none) none) none) none)) none) else none
theorem zcw {h:Host}{m:Int}:(zcF h m=true)↔zcc h=true/\hasB m (ln h.Mons)=true:=by unfold zcF;cases zcc h<;>simp
theorem zmn {h:Host}{m:Int}{cB:Bool}{B:Bare}{o0 o1:Host->Ans}(hs:SmH h)(hc:zcF h m=true->cB=true)(hB:zcF h m=true->SmB B):z5Y h m cB B o0 o1=some (cond (zcF h m) (o1 (zcZ h m B)) (o0 h)):=by unfold z5Y;refine must (zbf ((zbb h).2 hs)) (must rfl ?_);rw[show zeY h m=zcF h m from rfl];cases h0:zcF h m;{rfl};{have h2:=(zcw.1 h0).2;exact zdT rfl (must (zC h2) (must (zbf (hs.2.1.2 _ (zbC h2 _))) (must (hc h0) (must (zbf ⟨h2,(hB h0).2.1⟩) rfl))))}
structure SameB (b c:Bare):Prop where
 g:b.Guests=c.Guests
 p:b.Pending=c.Pending
 o:zb7 b=zb7 c
theorem SameB.at {b c:Bare}(h:SameB b c)(g:Int):gAt b g=gAt c g:=by unfold gAt;rw[h.g]
theorem SameB.has {b c:Bare}(h:SameB b c)(g:Int):zcb b g=zcb c g:=by unfold zcb;rw[h.g,h.o]
theorem back_eq {h:Host}{m:Int}{b c:Bare}(hg:b.Guests=c.Guests)(hp:b.Pending=c.Pending):zcZ h m b=zcZ h m c:=by unfold zcZ ztN;rw[hg,hp]
theorem zol {b c:Bare}(hS:SameB b c)(h:Host)(m g:Int)(k:Bool)(x:Guest):zcZ h m (chg b g k x)=zcZ h m (chg c g k x):=by unfold chg;rw[hS.has];cases (cond (zcb c g) k false);{exact back_eq hS.g hS.p};{exact back_eq (by simp only[cT,zdV,hS.g]) hS.p}
theorem zks {b c:Bare}(hS:SameB b c)(g:Int)(k:Bool):zbZ b g k=zbZ c g k:=by unfold zbZ;rw[hS.has]
theorem zh9 {h:Host}{m:Int}(h0:zcF h m=true)(hv:zb7 (zcR (ix h.Mons m mZ))=true):SameB (zcR (ix h.Mons m mZ)) (zI h m):=by obtain⟨h1,h2⟩:=zcw.1 h0;refine⟨?_,?_,hv.trans (zE9 h1 h2).symm⟩<;>unfold zI zcR<;>rw [h2]<;>rfl
theorem z7i:zkC zMW 8=true:=by decide
theorem zmI {h:Host}{m:Int}(h0:zcF h m=true):zb7 (zcR (ix h.Mons m mZ))=true:=by obtain⟨h1,h2⟩:=zcw.1 h0;have:=zE9 h1 h2;unfold zI at this;rw[h2,cT] at this;unfold zb7 at this ⊢;simp only[zcR,z7i] at *;simp_all
theorem zel {x:Mon}(h:ze8 x):SmB (zcR x):=⟨show SmM zMW from ⟨by decide,by decide⟩,h.2.2.2.1,h.2.2.2.2.1⟩
def zec (h:Host)(m:Int)(b:Bare):Host:=bif zcF h m then zcZ h m b else h
def zdF (h:Host)(m:Int)(ok:Bool):Bool:=bif zcF h m then ok else false
@[simp] abbrev zjb (b:Bare)(g p:Int)(s:Slot):Bare:=chg b g (zrf p s) (zy6 (gAt b g) p s)
@[simp] abbrev zlj (b:Bare)(g p:Int)(s:Slot):Bool:=zbZ b g (zrf p s)
@[simp] abbrev zgr (b:Bare)(g v:Int):Bare:=chg b g (zqF (gAt b g) v) (zvC (gAt b g) v)
@[simp] abbrev zhJ (b:Bare)(g v:Int):Bool:=zbZ b g (zqF (gAt b g) v)
@[simp] abbrev zgt (b:Bare)(g:Int):Bare:=chg b g (zvO (gAt b g)) (zvP (gAt b g))
@[simp] abbrev zhL (b:Bare)(g:Int):Bool:=zbZ b g (zvO (gAt b g))
@[simp] abbrev zgs (b:Bare)(g n:Int):Bare:=chg b g (zfF (gAt b g).Pending n) (zl7 (gAt b g) n)
@[simp] abbrev zhK (b:Bare)(g n:Int):Bool:=zbZ b g (zfF (gAt b g).Pending n)
@[simp] abbrev zja (b:Bare)(g:Int)(c:Ctl):Bare:=chg b g (zid c) (zGh (gAt b g) c)
@[simp] abbrev zli (b:Bare)(g:Int)(c:Ctl):Bool:=zbZ b g (zid c)
@[simp] abbrev zlh (b:Bare):Bare:=zk8 b
@[simp] abbrev zpp (b:Bare):Int:=zqE b
@[simp] abbrev zpq (b:Bare):Bool:=zkp b
@[simp] abbrev zjU (b:Bare)(n:Int):Bare:=zis b n
@[simp] abbrev zm1 (b:Bare)(n:Int):Bool:=zeu b n
@[simp] abbrev zVt (h:Host)(m:Int)(g p:Int)(s:Slot):Host:=zec h m (zjb (zI h m) g p s)
@[simp] abbrev zVu (h:Host)(m:Int)(g p:Int)(s:Slot):Bool:=zdF h m (zlj (zI h m) g p s)
@[simp] abbrev zMO (h:Host)(m:Int)(g v:Int):Host:=zec h m (zgr (zI h m) g v)
@[simp] abbrev zMP (h:Host)(m:Int)(g v:Int):Bool:=zdF h m (zhJ (zI h m) g v)
@[simp] abbrev zMS (h:Host)(m:Int)(g:Int):Host:=zec h m (zgt (zI h m) g)
@[simp] abbrev zMT (h:Host)(m:Int)(g:Int):Bool:=zdF h m (zhL (zI h m) g)
@[simp] abbrev zMQ (h:Host)(m:Int)(g n:Int):Host:=zec h m (zgs (zI h m) g n)
@[simp] abbrev zMR (h:Host)(m:Int)(g n:Int):Bool:=zdF h m (zhK (zI h m) g n)
@[simp] abbrev zVr (h:Host)(m:Int)(g:Int)(x:Ctl):Host:=zec h m (zja (zI h m) g x)
@[simp] abbrev zVs (h:Host)(m:Int)(g:Int)(x:Ctl):Bool:=zdF h m (zli (zI h m) g x)
@[simp] abbrev zSQ (h:Host)(m:Int)(n:Int):Host:=zec h m (zjU (zI h m) n)
@[simp] abbrev zSR (h:Host)(m:Int)(n:Int):Bool:=zdF h m (zm1 (zI h m) n)
@[simp] abbrev zVo (h:Host)(m:Int):Host:=zec h m (zlh (zI h m))
@[simp] abbrev zVp (h:Host)(m:Int):Int:=bif zcF h m then zpp (zI h m) else -1
@[simp] abbrev zVq (h:Host)(m:Int):Bool:=zdF h m (zpq (zI h m))
@[simp] abbrev zP2 (h:Host)(m g p:Int):Bool:=zdF h m (zbZ (zI h m) g (hasB p 4))
theorem z0Y {b c:Bare}(hS:SameB b c)(n:Int):(zis b n).Guests=(zis c n).Guests/\(zis b n).Pending=(zis c n).Pending/\zeu b n=zeu c n:=by have e:zeu b n=zeu c n:=(by unfold zeu;rw[hS.o]);unfold zis;rw[e];cases zeu c n;{exact⟨hS.g,hS.p,rfl⟩};{unfold zDC;rw[hS.g];cases ieq (ln (zdJ c.Guests n)) 0;{exact⟨by simp only[cT,cF],by simp only[cT,cF,hS.p],rfl⟩};{exact⟨by simp only[cT,hS.g],by simp only[cT,hS.p],rfl⟩}}
theorem z1J {b c:Bare}(hS:SameB b c):(zk8 b).Guests=(zk8 c).Guests/\(zk8 b).Pending=(zk8 c).Pending/\zqE b=zqE c/\zkp b=zkp c:=by unfold zk8 zqE zkp;rw[hS.o,hS.p];cases zb7 c;{exact⟨hS.g,hS.p,rfl,rfl⟩};{exact⟨hS.g,rfl,rfl,rfl⟩}
theorem z1p {b:Bare}{n:Int}(h:SmB b):SmB (zis b n):=by unfold zis;cases zeu b n;{exact h};{unfold zDC;cases ieq (ln (zdJ b.Guests n)) 0;{exact⟨h.1,(zCX _ zKn h.2.1).1,h.2.2⟩};{exact h}}
theorem z3E {b:Bare}(h:SmB b):SmB (zk8 b):=by unfold zk8;cases zb7 b;{exact h};{exact h}
theorem zr4 {H H':Host}{x y:Bool}(h1:H=H')(h2:x=y):some [AV.agg (zbj H),AV.one (.b x)]=some [AV.agg (zbj H'),AV.one (.b y)]:=by rw[h1,h2]
theorem z6o {H H':Host}{n k:Int}{x y:Bool}(h1:H=H')(h2:n=k)(h3:x=y):some [AV.agg (zbj H),AV.one (.i .i64 n),AV.one (.b x)]=some [AV.agg (zbj H'),AV.one (.i .i64 k),AV.one (.b y)]:=by rw[h1,h2,h3]
theorem zWT {b:Bare}(g p:Int)(s:Slot)(hb:SmB b):SmB (zjb b g p s):=zo5 hb (z3H _ _ (zi1 _ hb))
theorem z3A {b c:Bare}(hS:SameB b c)(h:Host)(m:Int)(g p:Int)(s:Slot):zcZ h m (zjb b g p s)=zcZ h m (zjb c g p s)/\zlj b g p s=zlj c g p s:=by have e:=hS.at g;simp only[zjb,zlj,e];exact⟨zol hS _ _ _ _ _,zks hS _ _⟩
@[simp] abbrev zv1 (h:Host)(m:Int)(g p:Int)(s:Slot):Bool:=pc (zb2 h)
@[simp] abbrev zpK (h:Host)(m:Int)(g p:Int)(s:Slot):Host:=zec h m (zjb (zI h m) g p s)
@[simp] abbrev zpL (h:Host)(m:Int)(g p:Int)(s:Slot):Bool:=zdF h m (zlj (zI h m) g p s)
def zzU:Run:=rF5 dH dI dI dI (dT .slot) fun b c d e f=>(zv1 b c d e f,[aH (zpK b c d e f),aB (zpL b c d e f)])
def zEQ (N:Nat)(a0:Host)(a1 a2 a3:Int)(a4:Slot):OA:=
 let y1:=(zn a0);let y0:=(ix y1.Mons a1 zh); (oN (zbP a0) (oN (zeZ y1 a1) (cond (nB (zeY y1 a1)) (some [(aH y1),(aB false)]) (oN (inb a1 (ln y1.Mons)) (oN (zea y0) (oN (zpy (zbK y0) a2 a3 a4) (oN (zd9 y1 a1 (zhr (zbK y0) a2 a3 a4)) (some [(aH (zgl y1 a1 (zhr (zbK y0) a2 a3 a4))),(aB (zjh (zbK y0) a2 a3 a4))]))))))))
theorem zPF (a0:Host)(a1 a2 a3:Int)(a4:Slot)(hc:zv1 a0 a1 a2 a3 a4=true):∃N,zEQ N a0 a1 a2 a3 a4=some [aH (zpK a0 a1 a2 a3 a4),aB (zpL a0 a1 a2 a3 a4)]:=by
 have hs:=(zbb a0).1 (zQ.1 hc);refine⟨0,?_⟩;have key:=zmn (h:=a0) (m:=a1) (cB:=zpy (zcR (ix a0.Mons a1 mZ)) a2 a3 a4) (B:=zhr (zcR (ix a0.Mons a1 mZ)) a2 a3 a4) (o0:=fun H=>[.agg (zbj H),.one (.b false)]) (o1:=fun H=>[.agg (zbj H),.one (.b (zjh (zcR (ix a0.Mons a1 mZ)) a2 a3 a4))]) hs
  (fun h0=>zbf (zel (hs.2.1.2 _ (zbC (zcw.1 h0).2 _)))) (fun h0=>zWT _ _ _ (zel (hs.2.1.2 _ (zbC (zcw.1 h0).2 _))))
 refine(show zEQ 0 a0 a1 a2 a3 a4=_ from key).trans ?_;unfold zpK zpL zec zdF;cases h0:zcF a0 a1;{rfl};{obtain⟨e1,e2⟩:=z3A (zh9 h0 (zmI h0)) a0 a1 a2 a3 a4;simp only[cT];exact zr4 e1 e2}
theorem zJb:vL 157 zzU:=kF5 zh5 zJ zcl zc6 (zy []) zPF
theorem zKI {b:Bare}(g v:Int)(hb:SmB b):SmB (zgr b g v):=zo5 hb (z3F _ (zi1 _ hb))
theorem zVS {b c:Bare}(hS:SameB b c)(h:Host)(m:Int)(g v:Int):zcZ h m (zgr b g v)=zcZ h m (zgr c g v)/\zhJ b g v=zhJ c g v:=by have e:=hS.at g;simp only[zgr,zhJ,e];exact⟨zol hS _ _ _ _ _,zks hS _ _⟩
@[simp] abbrev zoX (h:Host)(m:Int)(g v:Int):Bool:=pc (zb2 h)
@[simp] abbrev zkN (h:Host)(m:Int)(g v:Int):Host:=zec h m (zgr (zI h m) g v)
@[simp] abbrev zkO (h:Host)(m:Int)(g v:Int):Bool:=zdF h m (zhJ (zI h m) g v)
def zs6:Run:=rF4 dH dI dI dI fun b c d e=>(zoX b c d e,[aH (zkN b c d e),aB (zkO b c d e)])
def zwt (N:Nat)(a0:Host)(a1 a2 a3:Int):OA:=
 let y1:=(zn a0);let y0:=(ix y1.Mons a1 zh); (oN (zbP a0) (oN (zeZ y1 a1) (cond (nB (zeY y1 a1)) (some [(aH y1),(aB false)]) (oN (inb a1 (ln y1.Mons)) (oN (zea y0) (oN (zkH (zbK y0) a2 a3) (oN (zd9 y1 a1 (zfi (zbK y0) a2 a3)) (some [(aH (zgl y1 a1 (zfi (zbK y0) a2 a3))),(aB (zgu (zbK y0) a2 a3))]))))))))
theorem zHi (a0:Host)(a1 a2 a3:Int)(hc:zoX a0 a1 a2 a3=true):∃N,zwt N a0 a1 a2 a3=some [aH (zkN a0 a1 a2 a3),aB (zkO a0 a1 a2 a3)]:=by
 have hs:=(zbb a0).1 (zQ.1 hc);refine⟨0,?_⟩;have key:=zmn (h:=a0) (m:=a1) (cB:=zkH (zcR (ix a0.Mons a1 mZ)) a2 a3) (B:=zfi (zcR (ix a0.Mons a1 mZ)) a2 a3) (o0:=fun H=>[.agg (zbj H),.one (.b false)]) (o1:=fun H=>[.agg (zbj H),.one (.b (zgu (zcR (ix a0.Mons a1 mZ)) a2 a3))]) hs
  (fun h0=>zbf (zel (hs.2.1.2 _ (zbC (zcw.1 h0).2 _)))) (fun h0=>zKI _ _ (zel (hs.2.1.2 _ (zbC (zcw.1 h0).2 _))))
 refine(show zwt 0 a0 a1 a2 a3=_ from key).trans ?_;unfold zkN zkO zec zdF;cases h0:zcF a0 a1;{rfl};{obtain⟨e1,e2⟩:=zVS (zh9 h0 (zmI h0)) a0 a1 a2 a3;simp only[cT];exact zr4 e1 e2}
theorem zBy:vL 159 zs6:=kF4 zh5 zJ zcl zc6 (zy []) zHi
theorem zKK {b:Bare}(g:Int)(hb:SmB b):SmB (zgt b g):=zo5 hb (z3G (zi1 _ hb))
theorem zVU {b c:Bare}(hS:SameB b c)(h:Host)(m:Int)(g:Int):zcZ h m (zgt b g)=zcZ h m (zgt c g)/\zhL b g=zhL c g:=by have e:=hS.at g;simp only[zgt,zhL,e];exact⟨zol hS _ _ _ _ _,zks hS _ _⟩
@[simp] abbrev zoZ (h:Host)(m:Int)(g:Int):Bool:=pc (zb2 h)
@[simp] abbrev zkR (h:Host)(m:Int)(g:Int):Host:=zec h m (zgt (zI h m) g)
@[simp] abbrev zkS (h:Host)(m:Int)(g:Int):Bool:=zdF h m (zhL (zI h m) g)
def zs8:Run:=rF3 dH dI dI fun b c d=>(zoZ b c d,[aH (zkR b c d),aB (zkS b c d)])
def zwv (N:Nat)(a0:Host)(a1 a2:Int):OA:=
 let y1:=(zn a0);let y0:=(ix y1.Mons a1 zh); (oN (zbP a0) (oN (zeZ y1 a1) (cond (nB (zeY y1 a1)) (some [(aH y1),(aB false)]) (oN (inb a1 (ln y1.Mons)) (oN (zea y0) (oN (zkJ (zbK y0) a2) (oN (zd9 y1 a1 (zfk (zbK y0) a2)) (some [(aH (zgl y1 a1 (zfk (zbK y0) a2))),(aB (zgw (zbK y0) a2))]))))))))
theorem zHk (a0:Host)(a1 a2:Int)(hc:zoZ a0 a1 a2=true):∃N,zwv N a0 a1 a2=some [aH (zkR a0 a1 a2),aB (zkS a0 a1 a2)]:=by
 have hs:=(zbb a0).1 (zQ.1 hc);refine⟨0,?_⟩;have key:=zmn (h:=a0) (m:=a1) (cB:=zkJ (zcR (ix a0.Mons a1 mZ)) a2) (B:=zfk (zcR (ix a0.Mons a1 mZ)) a2) (o0:=fun H=>[.agg (zbj H),.one (.b false)]) (o1:=fun H=>[.agg (zbj H),.one (.b (zgw (zcR (ix a0.Mons a1 mZ)) a2))]) hs
  (fun h0=>zbf (zel (hs.2.1.2 _ (zbC (zcw.1 h0).2 _)))) (fun h0=>zKK _ (zel (hs.2.1.2 _ (zbC (zcw.1 h0).2 _))))
 refine(show zwv 0 a0 a1 a2=_ from key).trans ?_;unfold zkR zkS zec zdF;cases h0:zcF a0 a1;{rfl};{obtain⟨e1,e2⟩:=zVU (zh9 h0 (zmI h0)) a0 a1 a2;simp only[cT];exact zr4 e1 e2}
theorem zBA:vL 160 zs8:=kF3 zh5 zJ zcl zc6 (zy []) zHk
theorem zKJ {b:Bare}(g n:Int)(hb:SmB b):SmB (zgs b g n):=zo5 hb (zi1 (b:=b) _ hb)
theorem zVT {b c:Bare}(hS:SameB b c)(h:Host)(m:Int)(g n:Int):zcZ h m (zgs b g n)=zcZ h m (zgs c g n)/\zhK b g n=zhK c g n:=by have e:=hS.at g;simp only[zgs,zhK,e];exact⟨zol hS _ _ _ _ _,zks hS _ _⟩
@[simp] abbrev zoY (h:Host)(m:Int)(g n:Int):Bool:=pc (zb2 h)
@[simp] abbrev zkP (h:Host)(m:Int)(g n:Int):Host:=zec h m (zgs (zI h m) g n)
@[simp] abbrev zkQ (h:Host)(m:Int)(g n:Int):Bool:=zdF h m (zhK (zI h m) g n)
def zs7:Run:=rF4 dH dI dI dI fun b c d e=>(zoY b c d e,[aH (zkP b c d e),aB (zkQ b c d e)])
def zwu (N:Nat)(a0:Host)(a1 a2 a3:Int):OA:=
 let y1:=(zn a0);let y0:=(ix y1.Mons a1 zh); (oN (zbP a0) (oN (zeZ y1 a1) (cond (nB (zeY y1 a1)) (some [(aH y1),(aB false)]) (oN (inb a1 (ln y1.Mons)) (oN (zea y0) (oN (zkI (zbK y0) a2 a3) (oN (zd9 y1 a1 (zfj (zbK y0) a2 a3)) (some [(aH (zgl y1 a1 (zfj (zbK y0) a2 a3))),(aB (zgv (zbK y0) a2 a3))]))))))))
theorem zHj (a0:Host)(a1 a2 a3:Int)(hc:zoY a0 a1 a2 a3=true):∃N,zwu N a0 a1 a2 a3=some [aH (zkP a0 a1 a2 a3),aB (zkQ a0 a1 a2 a3)]:=by
 have hs:=(zbb a0).1 (zQ.1 hc);refine⟨0,?_⟩;have key:=zmn (h:=a0) (m:=a1) (cB:=zkI (zcR (ix a0.Mons a1 mZ)) a2 a3) (B:=zfj (zcR (ix a0.Mons a1 mZ)) a2 a3) (o0:=fun H=>[.agg (zbj H),.one (.b false)]) (o1:=fun H=>[.agg (zbj H),.one (.b (zgv (zcR (ix a0.Mons a1 mZ)) a2 a3))]) hs
  (fun h0=>zbf (zel (hs.2.1.2 _ (zbC (zcw.1 h0).2 _)))) (fun h0=>zKJ _ _ (zel (hs.2.1.2 _ (zbC (zcw.1 h0).2 _))))
 refine(show zwu 0 a0 a1 a2 a3=_ from key).trans ?_;unfold zkP zkQ zec zdF;cases h0:zcF a0 a1;{rfl};{obtain⟨e1,e2⟩:=zVT (zh9 h0 (zmI h0)) a0 a1 a2 a3;simp only[cT];exact zr4 e1 e2}
theorem zBz:vL 161 zs7:=kF4 zh5 zJ zcl zc6 (zy []) zHj
theorem zWS {b:Bare}(g:Int)(x:Ctl)(hb:SmB b):SmB (zja b g x):=zo5 hb (zi1 (b:=b) _ hb)
theorem z3z {b c:Bare}(hS:SameB b c)(h:Host)(m:Int)(g:Int)(x:Ctl):zcZ h m (zja b g x)=zcZ h m (zja c g x)/\zli b g x=zli c g x:=by have e:=hS.at g;simp only[zja,zli,e];exact⟨zol hS _ _ _ _ _,zks hS _ _⟩
@[simp] abbrev zvY (h:Host)(m:Int)(g:Int)(x:Ctl):Bool:=pc (zb2 h)
@[simp] abbrev zpG (h:Host)(m:Int)(g:Int)(x:Ctl):Host:=zec h m (zja (zI h m) g x)
@[simp] abbrev zpH (h:Host)(m:Int)(g:Int)(x:Ctl):Bool:=zdF h m (zli (zI h m) g x)
def zzR:Run:=rF4 dH dI dI dC fun b c d e=>(zvY b c d e,[aH (zpG b c d e),aB (zpH b c d e)])
def zEN (N:Nat)(a0:Host)(a1 a2:Int)(a3:Ctl):OA:=
 let y1:=(zn a0);let y0:=(ix y1.Mons a1 zh); (oN (zbP a0) (oN (zeZ y1 a1) (cond (nB (zeY y1 a1)) (some [(aH y1),(aB false)]) (oN (inb a1 (ln y1.Mons)) (oN (zea y0) (oN (zpx (zbK y0) a2 a3) (oN (zd9 y1 a1 (zhq (zbK y0) a2 a3)) (some [(aH (zgl y1 a1 (zhq (zbK y0) a2 a3))),(aB (zjg (zbK y0) a2 a3))]))))))))
theorem zPC (a0:Host)(a1 a2:Int)(a3:Ctl)(hc:zvY a0 a1 a2 a3=true):∃N,zEN N a0 a1 a2 a3=some [aH (zpG a0 a1 a2 a3),aB (zpH a0 a1 a2 a3)]:=by
 have hs:=(zbb a0).1 (zQ.1 hc);refine⟨0,?_⟩;have key:=zmn (h:=a0) (m:=a1) (cB:=zpx (zcR (ix a0.Mons a1 mZ)) a2 a3) (B:=zhq (zcR (ix a0.Mons a1 mZ)) a2 a3) (o0:=fun H=>[.agg (zbj H),.one (.b false)]) (o1:=fun H=>[.agg (zbj H),.one (.b (zjg (zcR (ix a0.Mons a1 mZ)) a2 a3))]) hs
  (fun h0=>zbf (zel (hs.2.1.2 _ (zbC (zcw.1 h0).2 _)))) (fun h0=>zWS _ _ (zel (hs.2.1.2 _ (zbC (zcw.1 h0).2 _))))
 refine(show zEN 0 a0 a1 a2 a3=_ from key).trans ?_;unfold zpG zpH zec zdF;cases h0:zcF a0 a1;{rfl};{obtain⟨e1,e2⟩:=z3z (zh9 h0 (zmI h0)) a0 a1 a2 a3;simp only[cT];exact zr4 e1 e2}
theorem zI8:vL 162 zzR:=kF4 zh5 zJ zcl zc6 (zy []) zPC
theorem zTL {b:Bare}(n:Int)(hb:SmB b):SmB (zjU b n):=z1p hb
theorem z1d {b c:Bare}(hS:SameB b c)(h:Host)(m n:Int):zcZ h m (zjU b n)=zcZ h m (zjU c n)/\zm1 b n=zm1 c n:=by obtain⟨e1,e2,e3⟩:=z0Y hS n;exact⟨back_eq e1 e2,e3⟩
@[simp] abbrev zth (h:Host)(m:Int)(n:Int):Bool:=pc (zb2 h)
@[simp] abbrev znv (h:Host)(m:Int)(n:Int):Host:=zec h m (zjU (zI h m) n)
@[simp] abbrev znw (h:Host)(m:Int)(n:Int):Bool:=zdF h m (zm1 (zI h m) n)
def zxh:Run:=rF3 dH dI dI fun b c d=>(zth b c d,[aH (znv b c d),aB (znw b c d)])
def zAR (N:Nat)(a0:Host)(a1 a2:Int):OA:=
 let y1:=(zn a0);let y0:=(ix y1.Mons a1 zh); (oN (zbP a0) (oN (zeZ y1 a1) (cond (nB (zeY y1 a1)) (some [(aH y1),(aB false)]) (oN (inb a1 (ln y1.Mons)) (oN (zea y0) (oN (znp (zbK y0) a2) (oN (zd9 y1 a1 (zhP (zbK y0) a2)) (some [(aH (zgl y1 a1 (zhP (zbK y0) a2))),(aB (zj4 (zbK y0) a2))]))))))))
theorem zMz (a0:Host)(a1 a2:Int)(hc:zth a0 a1 a2=true):∃N,zAR N a0 a1 a2=some [aH (znv a0 a1 a2),aB (znw a0 a1 a2)]:=by
 have hs:=(zbb a0).1 (zQ.1 hc);refine⟨0,?_⟩;have key:=zmn (h:=a0) (m:=a1) (cB:=znp (zcR (ix a0.Mons a1 mZ)) a2) (B:=zhP (zcR (ix a0.Mons a1 mZ)) a2) (o0:=fun H=>[.agg (zbj H),.one (.b false)]) (o1:=fun H=>[.agg (zbj H),.one (.b (zj4 (zcR (ix a0.Mons a1 mZ)) a2))]) hs
  (fun h0=>zbf (zel (hs.2.1.2 _ (zbC (zcw.1 h0).2 _)))) (fun h0=>zTL _ (zel (hs.2.1.2 _ (zbC (zcw.1 h0).2 _))))
 refine(show zAR 0 a0 a1 a2=_ from key).trans ?_;unfold znv znw zec zdF;cases h0:zcF a0 a1;{rfl};{obtain⟨e1,e2⟩:=z1d (zh9 h0 (zmI h0)) a0 a1 a2;simp only[cT];exact zr4 e1 e2}
theorem zGL:vL 165 zxh:=kF3 zh5 zJ zcl zc6 (zy []) zMz
theorem zWR {b:Bare}(hb:SmB b):SmB (zlh b):=z3E hb
theorem z3y {b c:Bare}(hS:SameB b c)(h:Host)(m:Int):zcZ h m (zlh b)=zcZ h m (zlh c)/\zpp b=zpp c/\zpq b=zpq c:=by obtain⟨e1,e2,e3,e4⟩:=z1J hS;exact⟨back_eq e1 e2,e3,e4⟩
@[simp] abbrev zvX (h:Host)(m:Int):Bool:=pc (zb2 h)
@[simp] abbrev zpC (h:Host)(m:Int):Host:=zec h m (zlh (zI h m))
@[simp] abbrev zpD (h:Host)(m:Int):Int:=bif zcF h m then zpp (zI h m) else -1
@[simp] abbrev zpE (h:Host)(m:Int):Bool:=zdF h m (zpq (zI h m))
def zzQ:Run:=rF2 dH dI fun b c=>(zvX b c,[aH (zpC b c),aI (zpD b c),aB (zpE b c)])
def zEL (N:Nat)(a0:Host)(a1:Int):OA:=
 let y1:=(zn a0);let y0:=(ix y1.Mons a1 zh); (oN (zbP a0) (oN (zeZ y1 a1) (cond (nB (zeY y1 a1)) (some [(aH y1),(aI (-1)),(aB false)]) (oN (inb a1 (ln y1.Mons)) (oN (zea y0) (oN (zpw (zbK y0)) (oN (zd9 y1 a1 (zhp (zbK y0))) (some [(aH (zgl y1 a1 (zhp (zbK y0)))),(aI (zje (zbK y0))),(aB (zjf (zbK y0)))]))))))))
theorem zPA (a0:Host)(a1:Int)(hc:zvX a0 a1=true):∃N,zEL N a0 a1=some [aH (zpC a0 a1),aI (zpD a0 a1),aB (zpE a0 a1)]:=by
 have hs:=(zbb a0).1 (zQ.1 hc);refine⟨0,?_⟩;have key:=zmn (h:=a0) (m:=a1) (cB:=zpw (zcR (ix a0.Mons a1 mZ))) (B:=zhp (zcR (ix a0.Mons a1 mZ))) (o0:=fun H=>[.agg (zbj H),.one (.i .i64 (-1)),.one (.b false)]) (o1:=fun H=>[.agg (zbj H),.one (.i .i64 (zje (zcR (ix a0.Mons a1 mZ)))),.one (.b (zjf (zcR (ix a0.Mons a1 mZ))))]) hs
  (fun h0=>zbf (zel (hs.2.1.2 _ (zbC (zcw.1 h0).2 _)))) (fun h0=>zWR (zel (hs.2.1.2 _ (zbC (zcw.1 h0).2 _))))
 refine(show zEL 0 a0 a1=_ from key).trans ?_;unfold zpC zpD zpE zec zdF;cases h0:zcF a0 a1;{rfl};{obtain⟨e1,e2,e3⟩:=z3y (zh9 h0 (zmI h0)) a0 a1;simp only[cT];exact z6o e1 e2 e3}
theorem zI7:vL 166 zzQ:=kF2 zh5 zJ zcl zc6 (zy []) zPA
def zZB:zZ:=[(157,zzU),(159,zs6),(160,zs8),(161,zs7),(162,zzR),(165,zxh),(166,zzQ)]++zZA
theorem ztS:zL zZB:=zi zJb (zi zBy (zi zBA (zi zBz (zi zI8 (zi zGL (zi zI7 zh5))))))
def ziE (h:Host)(m t:Int):Host:=bif zcc h then (cond (hasB m (ln h.Mons)) (cond (win t 0 3) {h with Mons:=up h.Mons m {ix h.Mons m mZ with Traps:=t}} h) h) else h
def zy5 (h:Host)(m t:Int):Bool:=bif zcc h then (cond (hasB m (ln h.Mons)) (win t 0 3) false) else false
@[simp] abbrev ztl (h:Host)(m t:Int):Bool:=pc (zb2 h)
@[simp] abbrev znC (h:Host)(m t:Int):Host:=ziE h m t
@[simp] abbrev znD (h:Host)(m t:Int):Bool:=zy5 h m t
def zxl:Run:=rF3 dH dI dI fun b c d=>(ztl b c d,[aH (znC b c d),aB (znD b c d)])
def zAV (N:Nat)(a0:Host)(a1 a2:Int):OA:=
 let y0:=(zn a0); (oN (zbP a0) (oN (zeS y0) (cond (nB (zeR y0)) (some [(aH y0),(aB false)]) (oN (zN a1 0 (wsub .i64 (ln y0.Mons) 1)) (cond (nB (zS a1 0 (wsub .i64 (ln y0.Mons) 1))) (some [(aH y0),(aB false)]) (oN (zN a2 0 3) (cond (nB (zS a2 0 3)) (some [(aH y0),(aB false)]) (oN (inb a1 (ln y0.Mons)) (share (up y0.Mons a1 ({ (ix y0.Mons a1 zh) with Traps:=a2}:Mon)) (fun x4=>(some [(aH ({y0 with Mons:=x4}:Host)),(aB true)])))))))))))
theorem zME (a0:Host)(a1 a2:Int)(hc:ztl a0 a1 a2=true):∃N,zAV N a0 a1 a2=some [aH (znC a0 a1 a2),aB (znD a0 a1 a2)]:=by
 have hs:=(zbb a0).1 (zQ.1 hc);refine⟨0,?_⟩;unfold zAV znC znD ziE zy5 oN nB;conv=>zeta
 refine must hc (must rfl ?_);rw[show zeR (zn a0)=zcc a0 from rfl];cases hh:zcc a0;{rfl};{refine zdT rfl (must rfl ?_);rw[show zS a1 0 (wsub .i64 (ln (zn a0).Mons) 1)=hasB a1 (ln a0.Mons) from zNx hh a1];cases hm:hasB a1 (ln a0.Mons);{rfl};{refine zdT rfl (must rfl ?_);rw[show zS a2 0 3=win a2 0 3 from rfl];cases ht:win a2 0 3;{rfl};{exact zdT rfl (must (zC hm) rfl)}}}
theorem zGQ:vL 231 zxl:=kF3 ztS zJ zcl zc6 (zy []) zME
theorem zjd {h:Host}{m p:Int}:(zcr h m p=true)↔zcc h=true/\hasB m (ln h.Mons)=true/\hasB p 8=true:=by unfold zcr;cases zcc h<;>cases hasB m (ln h.Mons)<;>simp
def zju (h:Host)(m p:Int):Bool:=ieq (ix (ix h.Mons m mZ).Outer p sZ).Page (-1)
def zoE (h:Host)(m p:Int):Host:=bif zcr h m p then (cond (zju h m p) h (zdc h m p)) else h
def zBV (h:Host)(m p:Int):Bool:=bif zcr h m p then !zju h m p else false
def zsS (h:Host)(m p:Int):Host:=bif zcr h m p then (cond (zju h m p) (fetched h m p) h) else h
def zHp (h:Host)(m p:Int):Bool:=bif zcr h m p then zju h m p else false
@[simp] abbrev zv4 (h:Host)(m p:Int):Bool:=pc (zb2 h)
@[simp] abbrev zpO (h:Host)(m p:Int):Host:=zoE h m p
@[simp] abbrev zpP (h:Host)(m p:Int):Bool:=zBV h m p
@[simp] abbrev zyT (h:Host)(m p:Int):Bool:=pc (zb2 h)
@[simp] abbrev zrQ (h:Host)(m p:Int):Host:=zsS h m p
@[simp] abbrev zrR (h:Host)(m p:Int):Bool:=zHp h m p
theorem zKb {h:Host}(hs:SmH h)(hh:zcc h=true){m p:Int}(hm:hasB m (ln h.Mons)=true)(hp:hasB p 8=true) :
 (cond (ieq (ix (ix h.Mons m mZ).Outer p sZ).Page (-1)) (ieq (ix (ix h.Mons m mZ).Outer p sZ).Rights 0) false)=zju h m p:=by
 have hf:=(zrH (zgb hh _ (zbC hm mZ)) hp).no;unfold zc3 at hf;unfold zju;rw[<- hf];cases h1:ieq (ix (ix h.Mons m mZ).Outer p sZ).Page (-1)<;>simp [noSlot,h1]
theorem zOz {h:Host}(hs:SmH h)(hh:zcc h=true){m p:Int}(hm:hasB m (ln h.Mons)=true)(hp:hasB p 8=true):inb p (ln (ix h.Mons m mZ).Outer)=true :=
 zC (by rw[ln,((zeI hs hh).1.2 _ (zbC hm mZ)).1];exact hp)
def zzY:Run:=rF3 dH dI dI fun b c d=>(zv4 b c d,[aH (zpO b c d),aB (zpP b c d)])
def zEU (N:Nat)(a0:Host)(a1 a2:Int):OA:=
 let y1:=(zn a0);let y0:=(ix y1.Mons a1 zh).Outer; (oN (zbP a0) (oN (zmD y1 a1 a2) (cond (nB (zgZ y1 a1 a2)) (some [(aH y1),(aB false)]) (oN (inb a1 (ln y1.Mons)) (oN (inb a2 (ln y0)) (oN zcp (cond (cond (ieq (ix y0 a2 zbc).Page zbt.Page) (ieq (ix y0 a2 zbc).Rights zbt.Rights) false) (some [(aH y1),(aB false)]) (oN (zr0 y1 a1 a2) (some [(aH (zy4 y1 a1 a2)),(aB true)])))))))))
theorem zPK (a0:Host)(a1 a2:Int)(hc:zv4 a0 a1 a2=true):∃N,zEU N a0 a1 a2=some [aH (zpO a0 a1 a2),aB (zpP a0 a1 a2)]:=by
 have hs:=(zbb a0).1 (zQ.1 hc);refine⟨0,?_⟩;unfold zEU zpO zpP zoE zBV oN nB;conv=>zeta
 refine must hc (must rfl ?_);rw[show zgZ (zn a0) a1 a2=zcr a0 a1 a2 from rfl];cases h0:zcr a0 a1 a2;{rfl};{obtain⟨hh,hm,hp⟩:=zjd.1 h0;refine zdT rfl (must (zC hm) (must (zOz hs hh hm hp) (must rfl ?_)));rw[show (cond (ieq (ix (ix (zn a0).Mons a1 zh).Outer a2 zbc).Page zbt.Page) (ieq (ix (ix (zn a0).Mons a1 zh).Outer a2 zbc).Rights zbt.Rights) false)=zju a0 a1 a2 from zKb hs hh hm hp];cases h1:zju a0 a1 a2;{exact zdT rfl (must (zbf ⟨(zeI hs hh).1,hm,hp⟩) rfl)};{rfl}}
theorem zJf:vL 29 zzY:=kF3 ztS zJ zcl zc6 (zy []) zPK
def zCp:Run:=rF3 dH dI dI fun b c d=>(zyT b c d,[aH (zrQ b c d),aB (zrR b c d)])
def zIe (N:Nat)(a0:Host)(a1 a2:Int):OA:=
 let y1:=(zn a0);let y0:=(ix y1.Mons a1 zh).Outer; (oN (zbP a0) (oN (zmD y1 a1 a2) (cond (nB (zgZ y1 a1 a2)) (some [(aH y1),(aB false)]) (oN (inb a1 (ln y1.Mons)) (oN (inb a2 (ln y0)) (oN zcp (cond (nB (cond (ieq (ix y0 a2 zbc).Page zbt.Page) (ieq (ix y0 a2 zbc).Rights zbt.Rights) false)) (some [(aH y1),(aB false)]) (oN (zvh y1 a1 a2) (some [(aH (zxy y1 a1 a2)),(aB true)])))))))))
theorem zSw (a0:Host)(a1 a2:Int)(hc:zyT a0 a1 a2=true):∃N,zIe N a0 a1 a2=some [aH (zrQ a0 a1 a2),aB (zrR a0 a1 a2)]:=by
 have hs:=(zbb a0).1 (zQ.1 hc);refine⟨0,?_⟩;unfold zIe zrQ zrR zsS zHp oN nB;conv=>zeta
 refine must hc (must rfl ?_);rw[show zgZ (zn a0) a1 a2=zcr a0 a1 a2 from rfl];cases h0:zcr a0 a1 a2;{rfl};{obtain⟨hh,hm,hp⟩:=zjd.1 h0;refine zdT rfl (must (zC hm) (must (zOz hs hh hm hp) (must rfl ?_)));rw[show (cond (ieq (ix (ix (zn a0).Mons a1 zh).Outer a2 zbc).Page zbt.Page) (ieq (ix (ix (zn a0).Mons a1 zh).Outer a2 zbc).Rights zbt.Rights) false)=zju a0 a1 a2 from zKb hs hh hm hp];cases h1:zju a0 a1 a2;{rfl};{exact zdT rfl (must (zbf ⟨zeI hs hh,hm,hp⟩) rfl)}}
theorem zLT:vL 30 zCp:=kF3 ztS zJ zcl zc6 (zy []) zSw
def zZC:zZ:=[(231,zxl),(29,zzY),(30,zCp)]++zZB
theorem zN5:zL zZC:=zi zGQ (zi zJf (zi zLT ztS))
theorem zY7 {x:Mon}{b:Bare}(h:ze8 x)(hb:zk7 b.Guests):ze8 (ztN x b):=⟨h.1,h.2.1,h.2.2.1,hb,h.2.2.2.2⟩
theorem zHI {h:Host}{m:Int}{b:Bare}(hs:SmH h)(hm:hasB m (ln h.Mons)=true)(hb:zk7 b.Guests):SmH (zcZ h m b):=
 ⟨hs.1,zia hs.2.1 (zY7 (hs.2.1.2 _ (zbC hm _)) hb),hs.2.2⟩
theorem zQ3 {h:Host}{m:Int}(b:Bare)(hm:hasB m (ln h.Mons)=true):hasB m (ln (zcZ h m b).Mons)=true:=by show hasB m (ln (up h.Mons m _))=true;rw[ln,zf3];exact hm
theorem z6f {h:Host}{m:Int}(b:Bare)(hm:hasB m (ln h.Mons)=true):ix (zcZ h m b).Mons m mZ=ztN (ix h.Mons m mZ) b:=by obtain⟨k,rfl,hk⟩:=zds (n:=h.Mons.length) hm;exact zdz hk _ _
def zBn (h:Host)(m g p:Int):Host:=⟨h.Memory,up h.Mons m {ix h.Mons m mZ with Tables:=up (ix h.Mons m mZ).Tables g (zbR (ix (ix h.Mons m mZ).Tables g kZ) p)},zcz h.Buffer (zeg m g) p,zcz h.IoBuffer (zeg m g) p⟩
def zZ5 (H:Host)(m g p:Int)(o:Host->Ans):OA:=
 bif inb m (ln H.Mons) then (bif inb m (ln H.Mons) then (bif inb g (ln (ix H.Mons m mZ).Tables) then (bif zkM (ix (ix H.Mons m mZ).Tables g kZ) p then (bif inb g (ln (ix H.Mons m mZ).Tables) then (share (up H.Mons m {ix H.Mons m mZ with Tables:=up (ix H.Mons m mZ).Tables g (zbR (ix (ix H.Mons m mZ).Tables g kZ) p)}) fun x=>
  (cond (zj8 m g) (cond (zfZ H.Buffer (zeg m g) p) (cond (zj8 m g) (cond (zfZ H.IoBuffer (zeg m g) p) (some (o ⟨H.Memory,x,zcz H.Buffer (zeg m g) p,zcz H.IoBuffer (zeg m g) p⟩)) none) none) none) none)) else none) else none) else none) else none) else none
theorem zZ6 {H:Host}{m g p:Int}{o:Host->Ans}(hs:SmH H)(hm:hasB m (ln H.Mons)=true)(hg:hasB g (ln (ix H.Mons m mZ).Tables)=true):zZ5 H m g p o=some (o (zBn H m g p)):=by have hx:=hs.2.1.2 _ (zbC hm mZ);unfold zZ5;exact must (zC hm) (must (zC hm) (must (zC hg) (must (zbf (hx.2.2.2.2.2.2 _ (zbC hg _))) (must (zC hg) (shr (must rfl (must (zbf hs.2.2.1) (must rfl (must (zbf hs.2.2.2) rfl)))))))))
def zjM (h:Host)(m g p:Int):Host:=bif zcF h m then (cond (zbZ (zI h m) g (hasB p 4)) (zBn (zcZ h m (chg (zI h m) g (hasB p 4) (zdx (gAt (zI h m) g) p))) m g p) h) else h
@[simp] abbrev zra (h:Host)(m g p:Int):Bool:=pc (zb2 h)
@[simp] abbrev zlN (h:Host)(m g p:Int):Host:=zjM h m g p
@[simp] abbrev zlO (h:Host)(m g p:Int):Bool:=zdF h m (zbZ (zI h m) g (hasB p 4))
theorem zVV {h:Host}{m:Int}(hm:hasB m (ln h.Mons)=true):(zI h m).Guests=(ix h.Mons m mZ).Guests:=by unfold zI;rw[hm];rfl
theorem zOg {h:Host}{m g:Int}{k:Bool}(hs:SmH h)(h0:zcF h m=true)(b:Bare)(hk:zbZ (zI h m) g k=true):hasB g (ln (ix (zcZ h m b).Mons m mZ).Tables)=true:=by obtain⟨hh,hm⟩:=zcw.1 h0;rw[z6f b hm];show hasB g (ln (ix h.Mons m mZ).Tables)=true;rw[ln,((zeI hs hh).1.2 _ (zbC hm mZ)).2.2.2,<- zVV hm];unfold zbZ at hk;cases hb:zcb (zI h m) g;{rw [hb]at hk;cases hk};{exact(zdn.1 hb).2}
def zuJ:Run:=rF4 dH dI dI dI fun b c d e=>(zra b c d e,[aH (zlN b c d e),aB (zlO b c d e)])
def zzq (N:Nat)(a0:Host)(a1 a2 a3:Int):OA:=
 let y5:=(zse a1 a2);let y3:=(zn a0);let y2:=(ix y3.Mons a1 zh);let y0:=(zgl y3 a1 (zed (zbK y2) a2 a3));let y1:=(ix y0.Mons a1 zh);let y4:=(ix y1.Tables a2 zgJ); (oN (zbP a0) (oN (zeZ y3 a1) (cond (nB (zeY y3 a1)) (some [(aH y3),(aB false)]) (oN (inb a1 (ln y3.Mons)) (oN (zea y2) (oN (zq4 (zbK y2) a2 a3) (cond (nB (zgU (zbK y2) a2 a3)) (some [(aH y3),(aB false)]) (oN (zd9 y3 a1 (zed (zbK y2) a2 a3)) (oN (inb a1 (ln y0.Mons)) (oN (inb a1 (ln y0.Mons)) (oN (inb a2 (ln y1.Tables)) (oN (zkM y4 a3) (oN (inb a2 (ln y1.Tables)) (share (up y0.Mons a1 ({y1 with Tables:=(up y1.Tables a2 (zj5 y4 a3))}:Mon)) (fun x5=>(oN (zj8 a1 a2) (oN (zfZ y0.Buffer y5 a3) (oN (zj8 a1 a2) (oN (zfZ y0.IoBuffer y5 a3) (some [(aH (⟨y0.Memory,x5,(zlo y0.Buffer y5 a3),(zlo y0.IoBuffer y5 a3)⟩:Host)),(aB true)]))))))))))))))))))))
theorem zJ2 (a0:Host)(a1 a2 a3:Int)(hb:zcP big [aH a0,aI a1,aI a2,aI a3])(hc:zra a0 a1 a2 a3=true):∃N,zzq N a0 a1 a2 a3=some [aH (zlN a0 a1 a2 a3),aB (zlO a0 a1 a2 a3)]:=by
 have hs:=(zbb a0).1 (zQ.1 hc);refine⟨0,?_⟩;unfold zzq zlN zlO zjM zdF oN nB;conv=>zeta
 refine must hc (must rfl ?_);rw[show zeY (zn a0) a1=zcF a0 a1 from rfl];cases h0:zcF a0 a1;{rfl};{obtain⟨hh,hm⟩:=zcw.1 h0;have hx:=hs.2.1.2 _ (zbC hm mZ);have hv:=zel hx;have hS:=zh9 h0 (zmI h0);have hk:zbZ (zcR (ix a0.Mons a1 mZ)) a2 (hasB a3 4)=zbZ (zI a0 a1) a2 (hasB a3 4):=zks hS _ _;have hB:zcZ a0 a1 (zed (zcR (ix a0.Mons a1 mZ)) a2 a3)=zcZ a0 a1 (chg (zI a0 a1) a2 (hasB a3 4) (zdx (gAt (zI a0 a1) a2) a3)):=(by rw[<- hS.at];exact zol hS _ _ _ _ _);refine zdT rfl (must (zC hm) (must (zbf hx) (must (zbf hv) ?_)));rw[show zgU (zbK (ix (zn a0).Mons a1 zh)) a2 a3=zbZ (zI a0 a1) a2 (hasB a3 4) from hk];cases hf:zbZ (zI a0 a1) a2 (hasB a3 4);{rfl};{have hb:SmB (zed (zcR (ix a0.Mons a1 mZ)) a2 a3):=zo5 hv (zKL _ (zi1 _ hv));refine zdT rfl (must (zbf ⟨hm,hb.2.1⟩) ?_);have key:=zZ6 (H:=zcZ a0 a1 (zed (zcR (ix a0.Mons a1 mZ)) a2 a3)) (m:=a1) (g:=a2) (p:=a3) (o:=fun H=>[.agg (zbj H),.one (.b true)]) (zHI hs hm hb.2.1) (zQ3 _ hm) (zOg hs h0 _ hf);refine(show _=_ from key).trans ?_;rw[hB];rfl}}
theorem zDZ:vL 158 zuJ:=hF4 zN5 zJ zcl zc6 (zy []) zJ2
def zZD:zZ:=[(158,zuJ)]++zZC
theorem zN6:zL zZD:=zi zDZ zN5
def zTl (h:Host)(m p c v:Int):Host:={mended h m p 2 with Memory:=zbI (mended h m p 2).Memory (ix (ix (mended h m p 2).Mons m mZ).Outer p sZ).Page c v}
def zeJ (h:Host)(m p c v:Int):Bool:=bif zcr h m p then (cond (hasB c 4) (win v 0 99) false) else false
def zl5 (h:Host)(m p c v:Int):Host:=bif zeJ h m p c v then zTl h m p c v else h
@[simp] abbrev ztg (h:Host)(m p c v:Int):Bool:=pc (zb2 h)
@[simp] abbrev znt (h:Host)(m p c v:Int):Host:=zl5 h m p c v
@[simp] abbrev znu (h:Host)(m p c v:Int):Bool:=zeJ h m p c v
def z5S (H:Host)(m p c v:Int)(o:Host->Ans):OA:=
 bif zlz H m p 2 then (cond (inb m (ln (mended H m p 2).Mons)) (cond (inb p (ln (ix (mended H m p 2).Mons m mZ).Outer)) (cond (zhU (mended H m p 2).Memory (ix (ix (mended H m p 2).Mons m mZ).Outer p sZ).Page c v) (some (o (zTl H m p c v))) none) none) none) else none
theorem z3o {h:Host}{m p c v:Int}{o:Host->Ans}(hs:SmH h)(h0:zcr h m p=true):z5S h m p c v o=some (o (zTl h m p c v)):=by obtain⟨hh,hm,hp⟩:=zjd.1 h0;have hf:=zeI hs hh;obtain⟨h1,h2⟩:=ztt (n:=2) hf hm hp;unfold z5S;refine must (zbf ⟨hf,hm,hp,.inr rfl,zrH (zgb hh _ (zbC hm mZ)) hp⟩) (must (zC h2) (must (zC ?_) (must (zbf h1.1.1) rfl)));rw[ln,(h1.2 _ (zbC h2 mZ)).1];exact hp
def zxg:Run:=rF5 dH dI dI dI dI fun b c d e f=>(ztg b c d e f,[aH (znt b c d e f),aB (znu b c d e f)])
def zAQ (N:Nat)(a0:Host)(a1 a2:Int)(a3 a4:Int):OA:=
 let y2:=(zn a0);let y0:=(zmE y2 a1 a2 2);let y1:=(ix y0.Mons a1 zh).Outer;let y3:=(ix y1 a2 zbc).Page; (oN (zbP a0) (oN (zmD y2 a1 a2) (cond (nB (zgZ y2 a1 a2)) (some [(aH y2),(aB false)]) (oN (zN a3 0 3) (cond (nB (zS a3 0 3)) (some [(aH y2),(aB false)]) (oN (zN a4 0 99) (cond (nB (zS a4 0 99)) (some [(aH y2),(aB false)]) (oN (zlz y2 a1 a2 2) (oN (inb a1 (ln y0.Mons)) (oN (inb a2 (ln y1)) (oN (zhU y0.Memory y3 a3 a4) (some [(aH ({y0 with Memory:=(zix y0.Memory y3 a3 a4)}:Host)),(aB true)]))))))))))))
theorem zMy (a0:Host)(a1 a2:Int)(a3 a4:Int)(hc:ztg a0 a1 a2 a3 a4=true):∃N,zAQ N a0 a1 a2 a3 a4=some [aH (znt a0 a1 a2 a3 a4),aB (znu a0 a1 a2 a3 a4)]:=by
 have hs:=(zbb a0).1 (zQ.1 hc);refine⟨0,?_⟩;unfold zAQ znt znu zl5 zeJ oN nB;conv=>zeta
 refine must hc (must rfl ?_);rw[show zgZ (zn a0) a1 a2=zcr a0 a1 a2 from rfl];cases h0:zcr a0 a1 a2;{rfl};{refine zdT rfl (must rfl ?_);rw[show zS a3 0 3=hasB a3 4 from z8V a3];cases h1:hasB a3 4;{rfl};{refine zdT rfl (must rfl ?_);rw[show zS a4 0 99=win a4 0 99 from rfl];cases h2:win a4 0 99;{rfl};{have key:=z3o (c:=a3) (v:=a4) (o:=fun H=>[.agg (zbj H),.one (.b true)]) hs h0;exact zdT rfl (show _=_ from key)}}}
theorem zGK:vL 164 zxg:=kF5 zN6 zJ zcl zc6 (zy []) zMy
def zZE:zZ:=[(164,zxg)]++zZD
theorem zZF:zL zZE:=zi zGK zN6
def zZG:zZ:=zZE
theorem zBh:zL zZG:=zZF
theorem z0y (h:Host)(b:List Entry)(m g page need:Int)(io:Bool):(lookOf h b m g page need io).2.2=zb5 h m g page need:=by cases hl:zb5 h m g page need;{rw [zmu hl]};{rw [zSP hl];unfold zg9 zha;generalize zgS b m g page need=x;cases x;{generalize zev _ m g page need=y;cases y<;>rfl};{rfl}}
theorem z7f {h:Host}{m g page need:Int}(b:List Entry)(io:Bool)(hs:SmH h)(hl:zb5 h m g page need=true):SmM (lookOf h b m g page need io).1.Memory:=by have hg:zbW h m g=true:=(by unfold zb5 at hl;cases h1:zbW h m g;{rw [h1]at hl;cases hl};{rfl});exact(zwN hs hg).shape.1.1
def zBI (h:Host)(m g a n:Int):Host×Int×Bool:=lookOf h h.IoBuffer m g (zbg a) n true
def zga (h:Host)(m g a v:Int):Bool:=bif win a 0 15 then (cond (win v 0 99) (zb5 h m g (zbg a) 2) false) else false
def zov (h:Host)(m g a v:Int):Host:=bif zga h m g a v then { (zBI h m g a 2).1 with Memory:=zbI (zBI h m g a 2).1.Memory (zBI h m g a 2).2.1 (zc4 a) v} else h
def zfr (h:Host)(m g a:Int):Bool:=bif win a 0 15 then zb5 h m g (zbg a) 1 else false
def zl6 (h:Host)(m g a:Int):Host:=bif zfr h m g a then (zBI h m g a 1).1 else h
def zqk (h:Host)(m g a:Int):Int:=bif zfr h m g a then cellAt (zBI h m g a 1).1.Memory (zBI h m g a 1).2.1 (zc4 a) else 0
@[simp] abbrev zvZ (h:Host)(m g a v:Int):Bool:=pc (zb2 h)
@[simp] abbrev zpI (h:Host)(m g a v:Int):Host:=zov h m g a v
@[simp] abbrev zpJ (h:Host)(m g a v:Int):Bool:=zga h m g a v
@[simp] abbrev zti (h:Host)(m g a:Int):Bool:=pc (zb2 h)
@[simp] abbrev znx (h:Host)(m g a:Int):Host:=zl6 h m g a
@[simp] abbrev zny (h:Host)(m g a:Int):Int:=zqk h m g a
@[simp] abbrev znz (h:Host)(m g a:Int):Bool:=zfr h m g a
def zzS:Run:=rF5 dH dI dI dI dI fun b c d e f=>(zvZ b c d e f,[aH (zpI b c d e f),aB (zpJ b c d e f)])
def zEO (N:Nat)(a0:Host)(a1 a2:Int)(a3 a4:Int):OA:=
 let y1:=(zn a0);let y2:=(zjm y1 y1.IoBuffer a1 a2 (zcM a3) 2 true);let y0:=(zeD y1 y1.IoBuffer a1 a2 (zcM a3) 2 true); (oN (zbP a0) (oN (zN a3 0 15) (cond (nB (zS a3 0 15)) (some [(aH y1),(aB false)]) (oN (zN a4 0 99) (cond (nB (zS a4 0 99)) (some [(aH y1),(aB false)]) (oN (zfH a3) (oN (zjn y1 y1.IoBuffer a1 a2 (zcM a3) 2 true) (cond (nB (zgj y1 y1.IoBuffer a1 a2 (zcM a3) 2 true)) (some [(aH y0),(aB false)]) (oN (zhO a3) (oN (zhU y0.Memory y2 (zdU a3) a4) (some [(aH ({y0 with Memory:=(zix y0.Memory y2 (zdU a3) a4)}:Host)),(aB true)])))))))))))
theorem zPD (a0:Host)(a1 a2:Int)(a3 a4:Int)(hc:zvZ a0 a1 a2 a3 a4=true):∃N,zEO N a0 a1 a2 a3 a4=some [aH (zpI a0 a1 a2 a3 a4),aB (zpJ a0 a1 a2 a3 a4)]:=by
 have hs:=(zbb a0).1 (zQ.1 hc);refine⟨0,?_⟩;unfold zEO zpI zpJ zov zga oN nB;conv=>zeta
 refine must hc (must rfl ?_);rw[show zS a3 0 15=win a3 0 15 from rfl];cases h1:win a3 0 15;{rfl};{refine zdT rfl (must rfl ?_);rw[show zS a4 0 99=win a4 0 99 from rfl];cases h2:win a4 0 99;{rfl};{refine zdT rfl (must rfl (must hc ?_));rw[show zgj (zn a0) (zn a0).IoBuffer a1 a2 (zcM a3) 2 true=zb5 a0 a1 a2 (zbg a3) 2 from z0y _ _ _ _ _ _ _];cases h3:zb5 a0 a1 a2 (zbg a3) 2;{rw [show zeD (zn a0) (zn a0).IoBuffer a1 a2 (zcM a3) 2 true=a0 from congrArg Prod.fst (zmu h3)];rfl};{exact zdT rfl (must rfl (must (zbf (z7f a0.IoBuffer true hs h3)) rfl))}}}
theorem zI9:vL 167 zzS:=kF5 zBh zJ zcl zc6 (zy []) zPD
def zxi:Run:=rF4 dH dI dI dI fun b c d e=>(zti b c d e,[aH (znx b c d e),aI (zny b c d e),aB (znz b c d e)])
def zAS (N:Nat)(a0:Host)(a1 a2 a3:Int):OA:=
 let y1:=(zn a0);let y2:=(zjm y1 y1.IoBuffer a1 a2 (zcM a3) 1 true);let y0:=(zeD y1 y1.IoBuffer a1 a2 (zcM a3) 1 true); (oN (zbP a0) (oN (zN a3 0 15) (cond (nB (zS a3 0 15)) (some [(aH y1),(aI 0),(aB false)]) (oN (zfH a3) (oN (zjn y1 y1.IoBuffer a1 a2 (zcM a3) 1 true) (cond (nB (zgj y1 y1.IoBuffer a1 a2 (zcM a3) 1 true)) (some [(aH y0),(aI 0),(aB false)]) (oN (zhO a3) (oN (zrN y0.Memory y2 (zdU a3)) (some [(aH y0),(aI (zmd y0.Memory y2 (zdU a3))),(aB true)])))))))))
theorem zMA (a0:Host)(a1 a2 a3:Int)(hc:zti a0 a1 a2 a3=true):∃N,zAS N a0 a1 a2 a3=some [aH (znx a0 a1 a2 a3),aI (zny a0 a1 a2 a3),aB (znz a0 a1 a2 a3)]:=by
 have hs:=(zbb a0).1 (zQ.1 hc);refine⟨0,?_⟩;unfold zAS znx zny znz zl6 zqk zfr oN nB;conv=>zeta
 refine must hc (must rfl ?_);rw[show zS a3 0 15=win a3 0 15 from rfl];cases h1:win a3 0 15;{rfl};{refine zdT rfl (must rfl (must hc ?_));rw[show zgj (zn a0) (zn a0).IoBuffer a1 a2 (zcM a3) 1 true=zb5 a0 a1 a2 (zbg a3) 1 from z0y _ _ _ _ _ _ _];cases h3:zb5 a0 a1 a2 (zbg a3) 1;{rw [show zeD (zn a0) (zn a0).IoBuffer a1 a2 (zcM a3) 1 true=a0 from congrArg Prod.fst (zmu h3)];rfl};{exact zdT rfl (must rfl (must rfl rfl))}}
theorem zGM:vL 168 zxi:=kF4 zBh zJ zcl zc6 (zy []) zMA
def zZH:zZ:=[(167,zzS),(168,zxi)]++zZG
theorem zZI:zL zZH:=zi zI9 (zi zGM zBh)
def zZJ:zZ:=[(144,zoP),(145,zkG)]++zZH
theorem zN7:zL zZJ:=zi zsH (zi zl4 zZI)
def zi9:Kept:=⟨rp 4 false,zkj⟩
@[simp] abbrev zv3 (n:Int):Bool:=ieq n 4
@[simp] abbrev zve (n:Int):Kept:=zi9
def zzW:Run:=rF1 dI fun b=>(zv3 b,[aT .kept (zve b)])
def zUx (N:Nat)(a0:Int):OA:=
 let y0:=(ln (zf8 a0)); (oN (zhT a0) (oN (cond (few y0) (ieq y0 y0) false) (some [(aT .kept (⟨(rp y0 false),(zf8 a0)⟩:Kept))])))
theorem zPH (a0:Int)(hc:zv3 a0=true):∃N,zUx N a0=some [aT .kept (zve a0)]:=by refine⟨0,?_⟩;have h:a0=4:=qE hc;subst h;change _=_;kernel_rfl
theorem zJd:vL 146 zzW:=kF1 zN7 zJ zcl zc6 (zy []) zPH
def zZK:zZ:=[(146,zzW)]++zZJ
theorem zN8:zL zZK:=zi zJd zN7
def ztv:List Slot:=List.replicate 8 ⟨-1,0⟩
def zf2 (ps:List (List Ins)):Mon:=⟨ztv,zMW,rp 8 false,(ps.take 2).map zeh,[],0,0,(ps.take 2).map (fun _=>zi9),0⟩
theorem zJ5 {α β γ ρ:Type}(m:Nat)(f:α->β)(g:α->γ)(K:List β×List γ->Option ρ):∀(l:List α) (i:Nat) (u:List β×List γ),u.1.length+l.length<=2147483648->u.2.length+l.length<=2147483648->
 goL (fun (i:Nat) x (u:List β×List γ) k=>bif ilt (i:Int) (m:Int) then (cond (few (ln (ap u.1 [f x]))) (cond (few (ln (ap u.2 [g x]))) (k (ap u.1 [f x],ap u.2 [g x])) none) none) else K u) K l i u=K (u.1++(l.take (m-i)).map f,u.2++(l.take (m-i)).map g)
 |[],i,u,_,_=>by simp[goL]
 |x::l,i,u,h1,h2=>by simp only[qV]at h1 h2;have e1:few (ln (ap u.1 [f x]))=true:=zf1 (by simp[ap];omega);have e2:few (ln (ap u.2 [g x]))=true:=zf1 (by simp[ap];omega);by_cases h:i<m;{have hi:ilt (i:Int) (m:Int)=true:=qL (by omega);simp only[goL,hi,e1,e2,cT];rw[zJ5 m f g K l (i+1) _ (by simp[ap];omega) (by simp[ap];omega)];rw[show m-i=m-(i+1)+1 by omega];simp[ap]};{have hi:ilt (i:Int) (m:Int)=false:=qS (by omega);simp only[goL,hi,cF];rw[show m-i=0 by omega];simp}
def z0F (u:List Guest×List Kept):OA:=some [AV.agg (Ty.cells .mon (⟨ztv,zMW,rp 8 false,u.1,[],0,0,u.2,0⟩:Mon))]
@[simp] abbrev zrO (ps:List (List Ins)):Bool:=pc (z7W ps)
@[simp] abbrev zHE (ps:List (List Ins)):Mon:=zf2 ps
def zCm:Run:=rF1 (dS (.sl .ins)) fun b=>(zrO b,[aT .mon (zHE b)])
def zIb (N:Nat)(a0:lP):OA:=
 (oN (zhT 8) (oN (znB 8) (oN (cond (few 8) (ieq 8 8) false) (iter (σ:=(Int×(Int×(Int×(Int×(Int×(Int×(Int×(lP×(lS×(lM×(lB×(lG×((List Int)×(lK×(lS×(lM×(lB×(lG×((List Int)×(lK×Unit))))))))))))))))))))) N (fun r2 s3=>let y8:=s3.2.2.2.2.2.2.2.2.2.2.2.2.2.2.1;let y7:=s3.2.2.2.2.2.2.2.2.2.2.2.2.2.2.2.1;let y6:=s3.2.2.2.2.2.2.2.2.2.2.2.2.2.2.2.2.1;let y5:=s3.2.2.2.2.2.2.2.2.2.2.2.2.2.2.2.2.2.1;let y4:=s3.2.2.2.2.2.2.2.2.2.2.2.2.2.2.2.2.2.2.1;let y3:=s3.2.2.2.2.2.2.2.1;let y2:=s3.2.2.2.2.2.2.2.2.2.2.2.2.2.2.2.2.2.2.2.1;let y1:=(ap y5 [(zcj (ix y3 s3.1 []))]);let y0:=(aT .mon (⟨y8,y7,y6,y5,y4,s3.2.2.2.2.1,s3.2.2.2.2.2.1,y2,s3.2.2.2.2.2.2.1⟩:Mon)); (cond (ilt s3.1 (ln y3)) (cond (ilt s3.1 2) (oN (inb s3.1 (ln y3)) (oN (zhR (ix y3 s3.1 [])) (oN (few (ln y1)) (oN (zv3 4) (oN (few (ln (ap y2 [(zve 4)]))) (r2 ((zK .i64 s3.1 1),(s3.2.1,(s3.2.2.1,(s3.2.2.2.1,(s3.2.2.2.2.1,(s3.2.2.2.2.2.1,(s3.2.2.2.2.2.2.1,(y3,(s3.2.2.2.2.2.2.2.2.1,(s3.2.2.2.2.2.2.2.2.2.1,(s3.2.2.2.2.2.2.2.2.2.2.1,(s3.2.2.2.2.2.2.2.2.2.2.2.1,(s3.2.2.2.2.2.2.2.2.2.2.2.2.1,(s3.2.2.2.2.2.2.2.2.2.2.2.2.2.1,(y8,(y7,(y6,(y1,(y4,((ap y2 [(zve 4)]),())))))))))))))))))))))))))) (some [y0])) (some [y0]))) (0,(0,(0,(0,(0,(0,(0,(a0,([],([],([],([],([],([],((zf8 8),((ziv 8),((rp 8 false),([],([],([],()))))))))))))))))))))))))
def zUd:FuncId->Nat->Option Tmpl:=zy [(85,0,{n:=36,tm:=[(0,.sl 0 []),(2,.lp 0 0),(3,.lp 1 0),(4,ti)],lo:=[(0,[.sl 1 [],.sl 2 [],.sl 3 [],.sl 4 [],.sl 5 [],ti,ti,.sl 6 [],ti]),(1,[.sl 7 [],.sl 8 [],.sl 9 [],.sl 10 [],.sl 11 [],ti,ti,.sl 12 [],ti])],ro:=[(0,(.sl .ins),false),(1,.slot,true),(2,(.sl .int),true),(3,.bool,true),(4,.guest,true),(5,.int,true),(6,.kept,true),(7,.slot,true),(8,(.sl .int),true),(9,.bool,true),(10,.guest,true),(11,.int,true),(12,.kept,true)]})]
theorem zSs (a0:List lI)(hc:zrO a0=true):∃N,zIb N a0=some [aT .mon (zHE a0)]:=by
 have hs:=zQ.1 hc;have hl:=zcC hs.1;refine zcG fun N hNN=>?_;unfold zIb oN;conv=>zeta
 refine must rfl (must rfl (must rfl ?_));refine(zbn a0 (fun i (t:lG×lK)=>((i:Int),0,0,0,0,0,0,a0,[],[],[],[],[],[],(zf8 8),(ziv 8),(rp 8 false),t.1,[],t.2,())) _ (fun i (x:List Ins) (u:List Guest×List Kept) κ=>bif ilt (i:Int) ((2:Nat):Int) then (cond (few (ln (ap u.1 [zeh x]))) (cond (few (ln (ap u.2 [zi9]))) (κ (ap u.1 [zeh x],ap u.2 [zi9])) none) none) else z0F u) (fun (t:lG×lK)=>(some [(.agg (Ty.cells .mon (⟨(zf8 8),(ziv 8),(rp 8 false),t.1,[],0,0,t.2,0⟩:Mon)))])) (fun i hi t rec=>?_) (fun t rec=>?_) _ ([],[]) (hNN hl.1)).trans ?_;{simp only [zbS hi,zbq hi,zbA hi,zbk hi hl.1,cT];have hx:zhR a0[i]=true:=zbf (hs.2 _ (jL hi));simp only[hx,cT];rfl};{simp only [zbJ,cF]};exact zJ5 2 zeh (fun _=>zi9) z0F a0 0 ([],[]) (by simpa using hl.2) (by simpa using hl.2)
theorem zLQ:vL 85 zCm:=kF1 zN8 zJ zcl zc6 zUd zSs
def zZL:zZ:=[(85,zCm)]++zZK
theorem zN9:zL zZL:=zi zLQ zN8
def zYh:List (List Int):=List.replicate 12 [0,0,0,0]
def ze1 (ps:List (List (List Ins))):Host:=⟨zYh,(ps.take 3).map zf2,[],[]⟩
def zIt (ps:List (List (List Ins))):Prop:=ps.length<=1048576/\∀p∈ps,z7W p
@[simp] abbrev zv0 (ps:List (List (List Ins))):Bool:=pc (zIt ps)
@[simp] abbrev zgd (ps:List (List (List Ins))):Host:=ze1 ps
def zWv (t:List Mon):OA:=some [AV.agg (zbj ⟨zYh,t,[],[]⟩)]
def zzT:Run:=rF1 (dS (.sl (.sl .ins))) fun b=>(zv0 b,[aH (zgd b)])
def zEP (N:Nat)(a0:lQ):OA:=
 (oN (znB 12) (iter (σ:=(Int×(lQ×(lM×(lN×(lE×(lE×(lM×(lN×(lE×(lE×Unit))))))))))) N (fun r2 s3=>let y1:=(ap s3.2.2.2.2.2.2.2.1 [(zHE (ix s3.2.1 s3.1 []))]);let y0:=(aH (⟨s3.2.2.2.2.2.2.1,s3.2.2.2.2.2.2.2.1,s3.2.2.2.2.2.2.2.2.1,s3.2.2.2.2.2.2.2.2.2.1⟩:Host)); (cond (ilt s3.1 (ln s3.2.1)) (cond (ilt s3.1 3) (oN (inb s3.1 (ln s3.2.1)) (oN (zrO (ix s3.2.1 s3.1 [])) (oN (few (ln y1)) (r2 ((zK .i64 s3.1 1),(s3.2.1,(s3.2.2.1,(s3.2.2.2.1,(s3.2.2.2.2.1,(s3.2.2.2.2.2.1,(s3.2.2.2.2.2.2.1,(y1,(s3.2.2.2.2.2.2.2.2.1,(s3.2.2.2.2.2.2.2.2.2.1,())))))))))))))) (some [y0])) (some [y0]))) (0,(a0,([],([],([],([],((ziv 12),([],([],([],()))))))))))))
def zQm:FuncId->Nat->Option Tmpl:=zy [(37,0,{n:=28,tm:=[(0,.sl 0 []),(2,.lp 0 0),(3,.lp 1 0),(4,ti)],lo:=[(0,[.sl 1 [],.sl 2 [],.sl 3 [],.sl 4 []]),(1,[.sl 5 [],.sl 6 [],.sl 7 [],.sl 8 []])],ro:=[(0,(.sl (.sl .ins)),false),(1,(.sl .int),true),(2,.mon,true),(3,.entry,true),(4,.entry,true),(5,(.sl .int),true),(6,.mon,true),(7,.entry,true),(8,.entry,true)]})]
theorem zPE (a0:List lP)(hc:zv0 a0=true):∃N,zEP N a0=some [aH (zgd a0)]:=by
 have hs:=zQ.1 hc;have hl:=zcC hs.1;refine zcG fun N hNN=>?_;unfold zEP oN;conv=>zeta
 refine must rfl ?_;refine(zbn a0 (fun i (t:lN)=>((i:Int),a0,[],[],[],[],(ziv 12),t,[],[],())) _ (fun i (x:List lI) (t:List Mon) κ=>bif ilt (i:Int) ((3:Nat):Int) then (cond (few (ln (ap t [zf2 x]))) (κ (ap t [zf2 x])) none) else zWv t) (fun (t:lN)=>(some [(.agg (zbj (⟨(ziv 12),t,[],[]⟩:Host)))])) (fun i hi t rec=>?_) (fun t rec=>?_) _ ([]) (hNN hl.1)).trans ?_;{simp only [zbS hi,zbq hi,zbA hi,zbk hi hl.1,cT];have hx:zrO a0[i]=true:=zbf (hs.2 _ (jL hi));simp only[hx,cT];rfl};{simp only [zbJ,cF]};exact zOt 3 zf2 zWv a0 0 [] (by simpa using hl.2)
theorem zJa:vL 37 zzT:=kF1 zN9 zJ zcl zc6 zQm zPE
def zZM:zZ:=[(37,zzT)]++zZL
theorem zOa:zL zZM:=zi zJa zN9
def zhI:Nat->Nat->Kept->Kept
 | 0,_,k=>k
 |n+1,i,k=>zhI n (i+1) (zbR k (i:Int))
def zif (k:Kept):Kept:=zhI k.Known.length 0 k
theorem zXP (k:Kept)(p:Int):(zbR k p).Known.length=k.Known.length:=by unfold zbR;cases zdl k p;{rfl};{exact zf3 _ _ _}
theorem zwf:∀(n i:Nat) (k:Kept),SmK k->SmK (zhI n i k)
 | 0,_,_,h=>h
 |n+1,i,k,h=>zwf n (i+1) _ (zoa h)
@[simp] abbrev zq8 (k:Kept):Bool:=pc (SmK k)
@[simp] abbrev zvW (k:Kept):Kept:=zif k
def zuI:Run:=rF1 (dT .kept) fun b=>(zq8 b,[aT .kept (zvW b)])
def zzo (N:Nat)(a0:Kept):OA:=
 (oN (zfw a0) (iter (σ:=(Int×(lB×(lS×(lB×(lS×Unit)))))) N (fun r2 s3=>let y0:=(⟨s3.2.1,s3.2.2.1⟩:Kept); (cond (ilt s3.1 (ln s3.2.1)) (oN (zkM y0 s3.1) (r2 ((zK .i64 s3.1 1),((zj5 y0 s3.1).Known,((zj5 y0 s3.1).Slots,(s3.2.2.2.1,(s3.2.2.2.2.1,()))))))) (some [(aT .kept y0)]))) (0,((zdh a0).Known,((zdh a0).Slots,([],([],())))))))
def zK8:FuncId->Nat->Option Tmpl:=zy [(286,0,{n:=17,tm:=[(1,.lp 0 0),(2,.lp 1 0),(3,ti)],lo:=[(0,[.sl 0 [],.sl 1 []]),(1,[.sl 2 [],.sl 3 []])],ro:=[(0,.bool,true),(1,.slot,true),(2,.bool,true),(3,.slot,true)]})]
theorem zJ0 (a0:Kept)(hc:zq8 a0=true):∃N,zzo N a0=some [aT .kept (zvW a0)]:=by
 have hs:=zQ.1 hc;have hl:=zcC hs.1;refine zcG fun N hNN=>?_;unfold zzo oN;conv=>zeta
 refine must (zbN ((zwx _).2 hs)) ?_;refine(zDu a0.Known.length (fun i (k:Kept)=>((i:Int),(k.Known,(k.Slots,([],([],())))))) _ (fun i k=>SmK k/\k.Known.length=a0.Known.length) (fun i k=>some [AV.agg (Ty.cells .kept (zhI (a0.Known.length-i) i k))]) (fun i k rec hi hI hr=>?_) (fun k rec hI=>?_) N 0 a0 ⟨hs,rfl⟩ (jX _) (hNN hl.1)).trans rfl;{refine must (zbS (by rw[hI.2];exact hi)) (must (zbf hI.1) ?_);have q:=hr (zbR k (i:Int)) ⟨zoa hI.1,by rw[zXP];exact hI.2⟩;rw[show a0.Known.length-i=a0.Known.length-(i+1)+1 by omega];rw[zbk hi hl.1];exact q};{refine zdT (by show ilt (a0.Known.length:Int) (ln k.Known)=false;rw[ln,hI.2];exact qS (by omega)) ?_;rw[k8];rfl}
theorem zDY:vL 286 zuI:=kF1 zOa zJ zcl zc6 zK8 zJ0
def zZN:zZ:=[(286,zuI)]++zZM
theorem zOb:zL zZN:=zi zDY zOa
def ztP:Nat->Nat->List Kept->List Kept
 | 0,_,l=>l
 |n+1,j,l=>ztP n (j+1) (up l (j:Int) (zif (ix l (j:Int) kZ)))
def ztQ (x:Mon)(n j:Nat):Mon:={x with Tables:=ztP n j x.Tables}
def zmQ:Nat->Nat->List Mon->List Mon
 | 0,_,t=>t
 |n+1,i,t=>zmQ n (i+1) (up t (i:Int) (ztQ (ix t (i:Int) mZ) (ix t (i:Int) mZ).Tables.length 0))
def cold (h:Host):Host:=⟨h.Memory,zmQ h.Mons.length 0 h.Mons,[],[]⟩
theorem zKN:∀(n j:Nat) (l:List Kept),j+n<=l.length->zA3 l->zA3 (ztP n j l)
 | 0,_,_,_,h=>h
 |n+1,j,l,hn,h=>by have hj:j<l.length:=(by omega);refine zKN n (j+1) _ (by rw[zf3];omega) (zxA h (zwf _ _ _ ?_));rw[zbA hj];exact h.2 _ (jL hj)
theorem zKP {x:Mon}(h:ze8 x){n j:Nat}(hn:j+n<=x.Tables.length):ze8 (ztQ x n j):=⟨h.1,h.2.1,h.2.2.1,h.2.2.2.1,h.2.2.2.2.1,zKN n j _ hn h.2.2.2.2.2⟩
@[simp] abbrev zHB (h:Host):Bool:=pc (zb2 h)
@[simp] abbrev zTp (h:Host):Host:=cold h
def zKt:Run:=rF1 dH fun b=>(zHB b,[aH (zTp b)])
def zQP (N:Nat)(a0:Host):OA:=
 (oN (zbP a0) (iter (σ:=(Int×(lM×(lN×(lE×(lE×(lM×(lN×(lE×(lE×Unit)))))))))) N (fun r2 s3=>(cond (ilt s3.1 (ln s3.2.2.1)) (iter (σ:=(Int×(Int×(lM×(lN×(lE×(lE×(lM×(lN×(lE×(lE×Unit))))))))))) N (fun r4 s5=>let y1:=(inb s5.1 (ln s5.2.2.2.1));let y0:=(ix s5.2.2.2.1 s5.1 zh);let y2:=(ix y0.Tables s5.2.1 zgJ); (oN y1 (cond (ilt s5.2.1 (ln y0.Tables)) (oN y1 (oN y1 (oN (inb s5.2.1 (ln y0.Tables)) (oN (zq8 y2) (oN (inb s5.2.1 (ln y0.Tables)) (share (up s5.2.2.2.1 s5.1 ({y0 with Tables:=(up y0.Tables s5.2.1 (zvW y2))}:Mon)) (fun x6=>(r4 (s5.1,((zK .i64 s5.2.1 1),(s5.2.2.1,(x6,(s5.2.2.2.2.1,(s5.2.2.2.2.2.1,(s5.2.2.2.2.2.2.1,(s5.2.2.2.2.2.2.2.1,(s5.2.2.2.2.2.2.2.2.1,(s5.2.2.2.2.2.2.2.2.2.1,())))))))))))))))))) (r2 ((zK .i64 s5.1 1),(s5.2.2.1,(s5.2.2.2.1,(s5.2.2.2.2.1,(s5.2.2.2.2.2.1,(s5.2.2.2.2.2.2.1,(s5.2.2.2.2.2.2.2.1,(s5.2.2.2.2.2.2.2.2.1,(s5.2.2.2.2.2.2.2.2.2.1,()))))))))))))) (s3.1,(0,(s3.2.1,(s3.2.2.1,(s3.2.2.2.1,(s3.2.2.2.2.1,(s3.2.2.2.2.2.1,(s3.2.2.2.2.2.2.1,(s3.2.2.2.2.2.2.2.1,(s3.2.2.2.2.2.2.2.2.1,()))))))))))) (some [(aH (⟨s3.2.1,s3.2.2.1,[],[]⟩:Host))]))) (0,((zn a0).Memory,((zn a0).Mons,((zn a0).Buffer,((zn a0).IoBuffer,([],([],([],([],())))))))))))
def zZe:FuncId->Nat->Option Tmpl:=zy [(232,0,{n:=48,tm:=[(1,.lp 0 0),(2,.lp 1 0),(3,ti)],lo:=[(0,[.sl 0 [],.sl 1 [],.sl 2 [],.sl 3 []]),(1,[.sl 4 [],.sl 5 [],.sl 6 [],.sl 7 []])],ro:=[(0,(.sl .int),true),(1,.mon,true),(2,.entry,true),(3,.entry,true),(4,(.sl .int),true),(5,.mon,true),(6,.entry,true),(7,.entry,true)]}),(232,2,{n:=48,tm:=[(1,.lp 0 0),(2,.lp 1 0),(3,ti),(4,ti)],lo:=[(0,[.sl 0 [],.sl 1 [],.sl 2 [],.sl 3 []]),(1,[.sl 4 [],.sl 5 [],.sl 6 [],.sl 7 []])],ro:=[(0,(.sl .int),true),(1,.mon,true),(2,.entry,true),(3,.entry,true),(4,(.sl .int),true),(5,.mon,true),(6,.entry,true),(7,.entry,true)]})]
theorem zYe (a0:Host)(hc:zHB a0=true):∃N,zQP N a0=some [aH (zTp a0)]:=by
 have hs:=(zbb a0).1 (zQ.1 hc);have hl:=zcC hs.2.1.1;refine zcG fun N hNN=>?_;unfold zQP oN;conv=>zeta
 refine must hc ?_;refine(zDu a0.Mons.length (fun i (t:List Mon)=>((i:Int),(a0.Memory,(t,(a0.Buffer,(a0.IoBuffer,([],([],([],([],())))))))))) _ (fun i t=>zp7 t/\t.length=a0.Mons.length) (fun i t=>some [AV.agg (zbj ⟨a0.Memory,zmQ (a0.Mons.length-i) i t,[],[]⟩)]) (fun i t rec hi hI hr=>?_) (fun t rec hI=>?_) N 0 a0.Mons ⟨hs.2.1,rfl⟩ (jX _) (hNN hl.1)).trans rfl
 .have hit:i<t.length:=(by rw[hI.2];exact hi);have hx:ze8 (ix t (i:Int) mZ):=by rw[zbA hit];exact hI.1.2 _ (jL hit)
  have hk:=zcC hx.2.2.2.2.2.1;refine must (zbS hit) ?_;refine(zDu (ix t (i:Int) mZ).Tables.length (fun j (u:List Mon)=>((i:Int),((j:Int),(a0.Memory,(u,(a0.Buffer,(a0.IoBuffer,([],([],([],([],())))))))))))
   _ (fun j u=>u.length=t.length/\ze8 (ix u (i:Int) mZ)/\(ix u (i:Int) mZ).Tables.length=(ix t (i:Int) mZ).Tables.length)
   (fun j u=>rec (((i+1:Nat):Int),(a0.Memory,(up u (i:Int) (ztQ (ix u (i:Int) mZ) ((ix t (i:Int) mZ).Tables.length-j) j),(a0.Buffer,(a0.IoBuffer,([],([],([],([],()))))))))))
   (fun j u rec1 hj hJ hr1=>?_) (fun u rec1 hJ=>?_) N 0 t ⟨rfl,hx,rfl⟩ (jX _) (hNN hk.1)).trans ?_
  .have hiu:i<u.length:=(by rw[hJ.1];exact hit);have hju:j<(ix u (i:Int) mZ).Tables.length:=(by rw[hJ.2.2];exact hj);have hkj:SmK (ix (ix u (i:Int) mZ).Tables (j:Int) kZ):=by rw[zbA hju];exact hJ.2.1.2.2.2.2.2.2 _ (jL hju)
   refine must (zbq hiu) (must (zbS hju) (must (zbq hiu) (must (zbq hiu) (must (zbq hju) (must (zbf hkj) (must (zbq hju) (shr ?_)))))));have hn:ze8 {ix u (i:Int) mZ with Tables:=up (ix u (i:Int) mZ).Tables (j:Int) (zif (ix (ix u (i:Int) mZ).Tables (j:Int) kZ))} :=
    ⟨hJ.2.1.1,hJ.2.1.2.1,hJ.2.1.2.2.1,hJ.2.1.2.2.2.1,hJ.2.1.2.2.2.2.1,zxA hJ.2.1.2.2.2.2.2 (zwf _ _ _ hkj)⟩
   have q:=hr1 (up u (i:Int) {ix u (i:Int) mZ with Tables:=up (ix u (i:Int) mZ).Tables (j:Int) (zif (ix (ix u (i:Int) mZ).Tables (j:Int) kZ))}) ⟨by rw[zf3];exact hJ.1,by rw[zdz hiu];exact hn,by rw[zdz hiu];simp only[zf3];exact hJ.2.2⟩;rw[zbk hj hk.1];refine q.trans ?_;rw[zdz hiu,zvp,show (ix t (i:Int) mZ).Tables.length-j=(ix t (i:Int) mZ).Tables.length-(j+1)+1 by omega];rfl
  {have hiu:i<u.length:=(by rw[hJ.1];exact hit);refine must (zbq hiu) (zdT (by show ilt ((ix t (i:Int) mZ).Tables.length:Int) (ln (ix u (i:Int) mZ).Tables)=false;rw[ln,hJ.2.2];exact qS (by omega)) ?_);rw[zbk hi hl.1,k8];show rec (_,(a0.Memory,(u,_)))=rec (_,(a0.Memory,(up u (i:Int) (ix u (i:Int) mZ),_)));rw[zNu hiu]};{have q:=hr (up t (i:Int) (ztQ (ix t (i:Int) mZ) (ix t (i:Int) mZ).Tables.length 0)) ⟨zia hI.1 (zKP hx (by omega)),by rw[zf3];exact hI.2⟩;refine q.trans ?_;rw[show a0.Mons.length-i=a0.Mons.length-(i+1)+1 by omega];rfl}
 {refine zdT (by show ilt (a0.Mons.length:Int) (ln t)=false;rw[ln,hI.2];exact qS (by omega)) ?_;rw[k8];rfl}
theorem zRT:vL 232 zKt:=kF1 zOb zJ zcl zc6 zZe zYe
def zZO:zZ:=[(232,zKt)]++zZN
theorem zZP:zL zZO:=zi zRT zOb
def zZQ:zZ:=zZO
theorem zOc:zL zZQ:=zZP
theorem zAo:∀(n i:Nat) (t:List Mon),i+n<=t.length->zp7 t->zp7 (zmQ n i t)
 | 0,_,_,_,h=>h
 |n+1,i,t,hn,h=>by have hi:i<t.length:=(by omega);refine zAo n (i+1) _ (by rw[zf3];omega) (zia h (zKP ?_ (by omega)));rw[zbA hi];exact h.2 _ (jL hi)
theorem z3J {h:Host}(hs:SmH h):SmH (cold h):=⟨hs.1,zAo _ _ _ (by omega) hs.2.1,by simp[cold],by simp[cold]⟩
theorem zml {h:Host}{m:Int}{b:Bare}(hs:SmH h)(hb:zcF h m=true->SmB b):SmH (zec h m b):=by unfold zec;cases h0:zcF h m;{exact hs};{exact zHI hs (zcw.1 h0).2 (hb h0).2.1}
theorem z1r {h:Host}{m g p:Int}(hs:SmH h):SmH (zjM h m g p):=by unfold zjM;cases h0:zcF h m;{exact hs};{cases hk:zbZ (zI h m) g (hasB p 4);{exact hs};{have hm:=(zcw.1 h0).2;have hv:=zTM hs hm;have hb:SmB (chg (zI h m) g (hasB p 4) (zdx (gAt (zI h m) g) p)):=zo5 hv (zKL _ (zi1 _ hv));have h1:=zHI hs hm hb.2.1;have h2:=zQ3 (chg (zI h m) g (hasB p 4) (zdx (gAt (zI h m) g) p)) hm;have h3:=zOg hs h0 (chg (zI h m) g (hasB p 4) (zdx (gAt (zI h m) g) p)) hk;have hx:=h1.2.1.2 _ (zbC h2 mZ);simp only[cT];exact⟨h1.1,zia h1.2.1 ⟨hx.1,hx.2.1,hx.2.2.1,hx.2.2.2.1,hx.2.2.2.2.1,zxA hx.2.2.2.2.2 (zoa (hx.2.2.2.2.2.2 _ (zbC h3 _)))⟩,qT (zya _ _ _) h1.2.2.1,qT (zya _ _ _) h1.2.2.2⟩}}
theorem z3K {h:Host}{m p c v:Int}(hs:SmH h):SmH (zl5 h m p c v):=by unfold zl5;cases hf:zeJ h m p c v;{exact hs};{have h0:zcr h m p=true:=(by unfold zeJ at hf;cases hp:zcr h m p;{rw [hp]at hf;cases hf};{rfl});obtain⟨hh,hm,hp⟩:=zjd.1 h0;have h1:=(ztt (n:=2) (zeI hs hh) hm hp).1.1;exact⟨zy9 h1.1,h1.2⟩}
theorem zSO {h:Host}{m g page need:Int}(b:List Entry)(io:Bool)(hs:SmH h)(hl:zb5 h m g page need=true):SmH (lookOf h b m g page need io).1:=by have hg:zbW h m g=true:=(by unfold zb5 at hl;cases h1:zbW h m g;{rw [h1]at hl;cases hl};{rfl});exact(zwN hs hg).shape.1
theorem z7H {h:Host}{m g a v:Int}(hs:SmH h):SmH (zov h m g a v):=by unfold zov;cases hf:zga h m g a v;{exact hs};{have hl:zb5 h m g (zbg a) 2=true:=(by unfold zga at hf;cases h1:win a 0 15;{rw [h1]at hf;cases hf};{cases h2:win v 0 99;{rw [h1,h2]at hf;cases hf};{rw [h1,h2]at hf;exact hf}});have h1:=zSO h.IoBuffer true hs hl;exact⟨zy9 h1.1,h1.2⟩}
theorem z3L {h:Host}{m g a:Int}(hs:SmH h):SmH (zl6 h m g a):=by unfold zl6;cases hf:zfr h m g a;{exact hs};{have hl:zb5 h m g (zbg a) 1=true:=(by unfold zfr at hf;cases h1:win a 0 15;{rw [h1]at hf;cases hf};{rw [h1]at hf;exact hf});exact zSO h.IoBuffer true hs hl}
theorem z7I {h:Host}{m p:Int}(hs:SmH h):SmH (zoE h m p):=by unfold zoE;cases h0:zcr h m p;{exact hs};{obtain⟨hh,hm,hp⟩:=zjd.1 h0;cases zju h m p;{exact(zKG (zeI hs hh).1 hm).1};{exact hs}}
theorem z8R {h:Host}{m p:Int}(hs:SmH h):SmH (zsS h m p):=by unfold zsS;cases h0:zcr h m p;{exact hs};{obtain⟨hh,hm,hp⟩:=zjd.1 h0;cases zju h m p;{exact hs};{exact(zi0 (zeI hs hh) hm hp).1.1}}
theorem z1v {h:Host}{m t:Int}(hs:SmH h):SmH (ziE h m t):=by unfold ziE;cases zcc h;{exact hs};{cases hm:hasB m (ln h.Mons);{exact hs};{cases win t 0 3;{exact hs};{have hx:ze8 (ix h.Mons m mZ):=hs.2.1.2 _ (zbC hm mZ);exact⟨hs.1,zia hs.2.1 ⟨hx.1,hx.2.1,hx.2.2.1,hx.2.2.2.1,hx.2.2.2.2.1,hx.2.2.2.2.2⟩,hs.2.2⟩}}}
def zsN (h:Host)(a:GAct):Host:=bif ieq a.Kind 1 then (zbB h a.M a.G).1 else (cond (ieq a.Kind 2) (zVt h a.M a.G a.X ⟨a.Y,a.Z⟩) (cond (ieq a.Kind 3) (zjM h a.M a.G a.X) (cond (ieq a.Kind 4) (zMO h a.M a.G a.X) (cond (ieq a.Kind 5) (zMS h a.M a.G) (cond (ieq a.Kind 6) (zMQ h a.M a.G a.X) (cond (ieq a.Kind 7) (zVr h a.M a.G ⟨a.X,a.Y,ieq a.Z 1⟩) (cond (ieq a.Kind 8) (zl5 h a.M a.X a.Y a.Z) (cond (ieq a.Kind 9) (zSQ h a.M a.X) (cond (ieq a.Kind 10) (zVo h a.M) (cond (ieq a.Kind 11) (zov h a.M a.G a.X a.Y) (zl6 h a.M a.G a.X)))))))))))
def zBG (h:Host)(a:GAct):Told:=bif ieq a.Kind 1 then ⟨(zbB h a.M a.G).2,0⟩ else (cond (ieq a.Kind 2) ⟨zVu h a.M a.G a.X ⟨a.Y,a.Z⟩,0⟩ (cond (ieq a.Kind 3) ⟨zP2 h a.M a.G a.X,0⟩ (cond (ieq a.Kind 4) ⟨zMP h a.M a.G a.X,0⟩ (cond (ieq a.Kind 5) ⟨zMT h a.M a.G,0⟩ (cond (ieq a.Kind 6) ⟨zMR h a.M a.G a.X,0⟩ (cond (ieq a.Kind 7) ⟨zVs h a.M a.G ⟨a.X,a.Y,ieq a.Z 1⟩,0⟩ (cond (ieq a.Kind 8) ⟨zeJ h a.M a.X a.Y a.Z,0⟩ (cond (ieq a.Kind 9) ⟨zSR h a.M a.X,0⟩ (cond (ieq a.Kind 10) ⟨zVq h a.M,zVp h a.M⟩ (cond (ieq a.Kind 11) ⟨zga h a.M a.G a.X a.Y,0⟩ (⟨zfr h a.M a.G a.X,zqk h a.M a.G a.X⟩)))))))))))
def zll (h:Host)(a:GAct):Host:=bif ieq a.Kind 13 then zoE h a.M a.X else (cond (ieq a.Kind 14) (zsS h a.M a.X) (cond (ieq a.Kind 15) (zsD h a.M a.X) (cond (ieq a.Kind 16) (ziE h a.M a.X) (cold h))))
def zKf (h:Host)(a:GAct):Told:=bif ieq a.Kind 13 then ⟨zBV h a.M a.X,0⟩ else (cond (ieq a.Kind 14) ⟨zHp h a.M a.X,0⟩ (cond (ieq a.Kind 15) ⟨zcr h a.M a.X,0⟩ (cond (ieq a.Kind 16) ⟨zy5 h a.M a.X,0⟩ (⟨true,0⟩))))
def zd1 (h:Host)(a:GAct):Host:=bif win a.Kind 1 17 then (cond (win a.Kind 13 17) (zll h a) (zsN h a)) else h
def zij (h:Host)(a:GAct):Told:=bif win a.Kind 1 17 then (cond (win a.Kind 13 17) (zKf h a) (zBG h a)) else ⟨false,0⟩
theorem z1u {h:Host}{a:GAct}(hs:SmH h):SmH (zll h a):=by unfold zll;cases ieq a.Kind 13;{cases ieq a.Kind 14;{cases ieq a.Kind 15;{cases ieq a.Kind 16;{exact z3J hs};{exact z1v hs}};{exact z1s hs}};{exact z8R hs}};{exact z7I hs}
theorem z1t {h:Host}{a:GAct}(hs:SmH h):SmH (zsN h a):=by have hv:zcF h a.M=true->SmB (zI h a.M):=fun h0=>zTM hs (zcw.1 h0).2;unfold zsN;cases ieq a.Kind 1;{cases ieq a.Kind 2;{cases ieq a.Kind 3;{cases ieq a.Kind 4;{cases ieq a.Kind 5;{cases ieq a.Kind 6;{cases ieq a.Kind 7;{cases ieq a.Kind 8;{cases ieq a.Kind 9;{cases ieq a.Kind 10;{cases ieq a.Kind 11;{exact z3L hs};{exact z7H hs}};{exact zml hs (fun h0=>zWR (hv h0))}};{exact zml hs (fun h0=>zTL _ (hv h0))}};{exact z3K hs}};{exact zml hs (fun h0=>zWS _ _ (hv h0))}};{exact zml hs (fun h0=>zKJ _ _ (hv h0))}};{exact zml hs (fun h0=>zKK _ (hv h0))}};{exact zml hs (fun h0=>zKI _ _ (hv h0))}};{exact z1r hs}};{exact zml hs (fun h0=>zWT _ _ _ (hv h0))}};{exact(z1e a.M a.G hs).sm}
theorem zWW {h:Host}{a:GAct}(hs:SmH h):SmH (zd1 h a):=by unfold zd1;cases win a.Kind 1 17;{exact hs};{cases win a.Kind 13 17;{exact z1t hs};{exact z1u hs}}
@[simp] abbrev ztr (h:Host)(a:GAct):Bool:=pc (zb2 h)
@[simp] abbrev zkh (h:Host)(a:GAct):Host:=zll h a
@[simp] abbrev zh2 (h:Host)(a:GAct):Told:=zKf h a
def zxr:Run:=rF2 dH (dT .act) fun b c=>(ztr b c,[aH (zkh b c),aT .told (zh2 b c)])
def zA2 (N:Nat)(a0:Host)(a1:GAct):OA:=
 (cond (ieq a1.Kind 13) (oN (zv4 a0 a1.M a1.X) (some [(aH (zpO a0 a1.M a1.X)),(.agg [(.b (zpP a0 a1.M a1.X)),(.i .i64 0)])])) (cond (ieq a1.Kind 14) (oN (zyT a0 a1.M a1.X) (some [(aH (zrQ a0 a1.M a1.X)),(.agg [(.b (zrR a0 a1.M a1.X)),(.i .i64 0)])])) (cond (ieq a1.Kind 15) (oN (zCG a0 a1.M a1.X) (some [(aH (zuN a0 a1.M a1.X)),(.agg [(.b (zuO a0 a1.M a1.X)),(.i .i64 0)])])) (cond (ieq a1.Kind 16) (oN (ztl a0 a1.M a1.X) (some [(aH (znC a0 a1.M a1.X)),(.agg [(.b (znD a0 a1.M a1.X)),(.i .i64 0)])])) (oN (zHB a0) (some [(aH (zTp a0)),(.agg [(.b true),(.i .i64 0)])]))))))
theorem zML (a0:Host)(a1:GAct)(hc:ztr a0 a1=true):∃N,zA2 N a0 a1=some [aH (zkh a0 a1),aT .told (zh2 a0 a1)]:=by have hs:=zQ.1 hc;refine⟨0,?_⟩;unfold zA2 oN;refine br (fun _=>mu ?_) (fun _=>br (fun _=>mu ?_) (fun _=>br (fun _=>mu ?_) (fun _=>br (fun _=>mu ?_) (fun _=>mu ?_))));all_goals first|rfl|(simp only [*,zkh,zh2,zll,zKf,cT,cF]<;>rfl)|simp_all[Ty.cells,zkh,zh2,zll,zKf]
theorem zG2:vL 155 zxr:=kF2 zOc zJ zcl zc6 (zy []) zML
def zZR:zZ:=[(155,zxr),(153,zFx),(154,zzV),(163,zFy)]++zZQ
theorem zOd:zL zZR:=zi zG2 (zi zO3 (zi zJc (zi zO4 zOc)))
@[simp] abbrev zpF (h:Host)(a:GAct):Bool:=pc (zb2 h)
@[simp] abbrev zlq (h:Host)(a:GAct):Host:=zd1 h a
@[simp] abbrev zlr (h:Host)(a:GAct):Told:=zij h a
def zqX:Run:=rF2 dH (dT .act) fun b c=>(zpF b c,[aH (zlq b c),aT .told (zlr b c)])
def zEM (N:Nat)(a0:Host)(a1:GAct):OA:=
 let y0:=(⟨a1.Y,a1.Z⟩:Slot); (oN (zCD a1) (cond (nB (zxs a1)) (oN (zbP a0) (some [(aH (zn a0)),(.agg [(.b false),(.i .i64 0)])])) (oN (zv2 a1.Kind) (cond (zqs a1.Kind) (oN (ztr a0 a1) (some [(aH (zkh a0 a1)),(.agg [(.b (zh2 a0 a1).Ok),(.i .i64 (zh2 a0 a1).N)])])) (cond (ieq a1.Kind 1) (oN (zd8 a0 a1.M a1.G) (some [(aH (zCI a0 a1.M a1.G)),(.agg [(.b (zCJ a0 a1.M a1.G)),(.i .i64 0)])])) (cond (ieq a1.Kind 2) (oN (zv1 a0 a1.M a1.G a1.X y0) (some [(aH (zpK a0 a1.M a1.G a1.X y0)),(.agg [(.b (zpL a0 a1.M a1.G a1.X y0)),(.i .i64 0)])])) (cond (ieq a1.Kind 3) (oN (zra a0 a1.M a1.G a1.X) (some [(aH (zlN a0 a1.M a1.G a1.X)),(.agg [(.b (zlO a0 a1.M a1.G a1.X)),(.i .i64 0)])])) (cond (ieq a1.Kind 4) (oN (zoX a0 a1.M a1.G a1.X) (some [(aH (zkN a0 a1.M a1.G a1.X)),(.agg [(.b (zkO a0 a1.M a1.G a1.X)),(.i .i64 0)])])) (cond (ieq a1.Kind 5) (oN (zoZ a0 a1.M a1.G) (some [(aH (zkR a0 a1.M a1.G)),(.agg [(.b (zkS a0 a1.M a1.G)),(.i .i64 0)])])) (cond (ieq a1.Kind 6) (oN (zoY a0 a1.M a1.G a1.X) (some [(aH (zkP a0 a1.M a1.G a1.X)),(.agg [(.b (zkQ a0 a1.M a1.G a1.X)),(.i .i64 0)])])) (cond (ieq a1.Kind 7) (oN (zCE a1) (oN (zvY a0 a1.M a1.G (zoS a1)) (some [(aH (zpG a0 a1.M a1.G (zoS a1))),(.agg [(.b (zpH a0 a1.M a1.G (zoS a1))),(.i .i64 0)])]))) (cond (ieq a1.Kind 8) (oN (ztg a0 a1.M a1.X a1.Y a1.Z) (some [(aH (znt a0 a1.M a1.X a1.Y a1.Z)),(.agg [(.b (znu a0 a1.M a1.X a1.Y a1.Z)),(.i .i64 0)])])) (cond (ieq a1.Kind 9) (oN (zth a0 a1.M a1.X) (some [(aH (znv a0 a1.M a1.X)),(.agg [(.b (znw a0 a1.M a1.X)),(.i .i64 0)])])) (cond (ieq a1.Kind 10) (oN (zvX a0 a1.M) (some [(aH (zpC a0 a1.M)),(.agg [(.b (zpE a0 a1.M)),(.i .i64 (zpD a0 a1.M))])])) (cond (ieq a1.Kind 11) (oN (zvZ a0 a1.M a1.G a1.X a1.Y) (some [(aH (zpI a0 a1.M a1.G a1.X a1.Y)),(.agg [(.b (zpJ a0 a1.M a1.G a1.X a1.Y)),(.i .i64 0)])])) (oN (zti a0 a1.M a1.G a1.X) (some [(aH (znx a0 a1.M a1.G a1.X)),(.agg [(.b (znz a0 a1.M a1.G a1.X)),(.i .i64 (zny a0 a1.M a1.G a1.X))])])))))))))))))))))
theorem zPB (a0:Host)(a1:GAct)(hc:zpF a0 a1=true):∃N,zEM N a0 a1=some [aH (zlq a0 a1),aT .told (zlr a0 a1)]:=by
 have hs:=zQ.1 hc;refine⟨0,?_⟩;unfold zEM oN nB;conv=>zeta
 refine must rfl (brN (fun _=>mu ?_) (fun _=>must rfl (br (fun _=>mu ?_) (fun _=>br (fun _=>mu ?_) (fun _=>br (fun _=>mu ?_) (fun _=>br (fun _=>mu ?_) (fun _=>br (fun _=>mu ?_) (fun _=>br (fun _=>mu ?_) (fun _=>br (fun _=>mu ?_) (fun _=>br (fun _=>must rfl (mu ?_)) (fun _=>br (fun _=>mu ?_) (fun _=>br (fun _=>mu ?_) (fun _=>br (fun _=>mu ?_) (fun _=>br (fun _=>mu ?_) (fun _=>mu ?_)))))))))))))));all_goals first|rfl|(simp only [*,zlq,zlr,zd1,zij,zsN,zBG,cT,cF]<;>rfl)|simp_all[Ty.cells,zlq,zlr,zd1,zij,zsN,zBG]
theorem zua:vL 92 zqX:=kF2 zOd zJ zcl zc6 (zy []) zPB
def zZS:zZ:=[(92,zqX)]++zZR
theorem zOe:zL zZS:=zi zua zOd
def zB2:List GAct->Host×List Told->Host×List Told
 |[],u=>u
 |a::l,u=>zB2 l (zd1 u.1 a,ap u.2 [zij u.1 a])
def zym (ps:List (List (List Ins)))(l:List GAct):Host×List Told:=zB2 (l.take 80) (ze1 ps,[])
abbrev HSt:Type:=(List Told)×(List (List Int))×(List Mon)×(List Entry)×(List Entry)
def hOf (t:HSt):Host:=⟨t.2.1,t.2.2.1,t.2.2.2.1,t.2.2.2.2⟩
def tOf (u:Host×List Told):HSt:=(u.2,u.1.Memory,u.1.Mons,u.1.Buffer,u.1.IoBuffer)
def zyz (t:HSt):OA:=some [AV.agg (zbj (hOf t)),AV.one (.s .told t.1)]
theorem zWX {ps:List (List (List Ins))}(h:zIt ps):SmH (ze1 ps):=by refine⟨show SmM zYh from ⟨by decide,by decide⟩,⟨?_,?_⟩,by simp[ze1],by simp[ze1]⟩;{simp only [ze1,uL,vI];omega};{intro x hx;simp only[ze1,jE]at hx;obtain⟨p,hp,rfl⟩:=hx;have hps:=h.2 p (jR hp);refine⟨show ztv.length<=1048576 by decide,show SmM zMW from ⟨by decide,by decide⟩,show (rp 8 false).length<=1048576 by decide,⟨?_,?_⟩,by simp[zf2],⟨?_,?_⟩⟩;{simp only [zf2,uL,vI];omega};{intro y hy;simp only[zf2,jE]at hy;obtain⟨q,hq,rfl⟩:=hy;exact⟨hps.2 q (jR hq),show zkj.length<=1048576 by decide,show zkj.length<=1048576 by decide,by simp[zeh]⟩};{simp only [zf2,uL,vI];omega};{intro y hy;simp only[zf2,jE]at hy;obtain⟨q,hq,rfl⟩:=hy;exact⟨show (rp 4 false).length<=1048576 by decide,show zkj.length<=1048576 by decide⟩}}
theorem zFm {c:Host->GAct->Bool}(hc:∀h a,SmH h->c h a=true)(m:Nat):∀(l:List GAct) (i:Nat) (u:Host×List Told),SmH u.1->u.2.length+l.length<=2147483648->
 goL (fun (i:Nat) x (t:HSt) κ=>bif ilt (i:Int) (m:Int) then (cond (c (hOf t) x) (cond (few (ln (ap t.1 [zij (hOf t) x]))) (κ (ap t.1 [zij (hOf t) x],(zd1 (hOf t) x).Memory,(zd1 (hOf t) x).Mons,(zd1 (hOf t) x).Buffer,(zd1 (hOf t) x).IoBuffer)) none) none) else zyz t) zyz l i (tOf u)=zyz (tOf (zB2 (l.take (m-i)) u))
 |[],i,u,_,_=>by simp[goL,zB2]
 |a::l,i,u,hs,hn=>by simp only[qV]at hn;have hf:few (ln (ap u.2 [zij u.1 a]))=true:=zf1 (by simp[ap];omega);have hh:hOf (tOf u)=u.1:=rfl;have h2:(tOf u).1=u.2:=rfl;by_cases h:i<m;{have hi:ilt (i:Int) (m:Int)=true:=qL (by omega);simp only[goL,hi,hh,h2,hf,hc _ _ hs,cT];refine(zFm hc m l (i+1) (zd1 u.1 a,ap u.2 [zij u.1 a]) (zWW hs) (by simp[ap];omega)).trans ?_;rw[show m-i=m-(i+1)+1 by omega];rfl};{have hi:ilt (i:Int) (m:Int)=false:=qS (by omega);simp only[goL,hi,cF];rw[show m-i=0 by omega];rfl}
@[simp] abbrev ztf (ps:List (List (List Ins)))(l:List GAct):Bool:=pc (zIt ps/\l.length<=1048576)
@[simp] abbrev zte (ps:List (List (List Ins)))(l:List GAct):Host:=(zym ps l).1
@[simp] abbrev zCH (ps:List (List (List Ins)))(l:List GAct):List Told:=(zym ps l).2
def zxf:Run:=rF2 (dS (.sl (.sl .ins))) (dS .act) fun b c=>(ztf b c,[aH (zte b c),aS .told (zCH b c)])
def zAP (N:Nat)(a0:lQ)(a1:lA):OA:=
 (oN (zv0 a0) (iter (σ:=(Int×(lA×(lT×(lM×(lN×(lE×(lE×(lM×(lN×(lE×(lE×Unit)))))))))))) N (fun r3 s4=>let y1:=(ix s4.2.1 s4.1 zZh);let y0:=(⟨s4.2.2.2.2.2.2.2.1,s4.2.2.2.2.2.2.2.2.1,s4.2.2.2.2.2.2.2.2.2.1,s4.2.2.2.2.2.2.2.2.2.2.1⟩:Host);let y3:=(ap s4.2.2.1 [(zlr y0 y1)]);let y2:=(zlq y0 y1); (cond (ilt s4.1 (ln s4.2.1)) (cond (ilt s4.1 80) (oN (inb s4.1 (ln s4.2.1)) (oN (zpF y0 y1) (oN (few (ln y3)) (r3 ((zK .i64 s4.1 1),(s4.2.1,(y3,(s4.2.2.2.1,(s4.2.2.2.2.1,(s4.2.2.2.2.2.1,(s4.2.2.2.2.2.2.1,(y2.Memory,(y2.Mons,(y2.Buffer,(y2.IoBuffer,()))))))))))))))) (some [(aH y0),(aS .told s4.2.2.1)])) (some [(aH y0),(aS .told s4.2.2.1)]))) (0,(a1,([],([],([],([],([],((zgd a0).Memory,((zgd a0).Mons,((zgd a0).Buffer,((zgd a0).IoBuffer,())))))))))))))
def zNm:FuncId->Nat->Option Tmpl:=zy [(120,0,{n:=39,tm:=[(1,.sl 0 []),(4,.lp 0 0),(6,.lp 1 0),(7,.sl 1 []),(8,ti)],lo:=[(0,[.sl 2 [],.sl 3 [],.sl 4 [],.sl 5 []]),(1,[.sl 6 [],.sl 7 [],.sl 8 [],.sl 9 []])],ro:=[(0,.act,false),(1,.told,true),(2,(.sl .int),true),(3,.mon,true),(4,.entry,true),(5,.entry,true),(6,(.sl .int),true),(7,.mon,true),(8,.entry,true),(9,.entry,true)]})]
theorem zMx (a0:List lP)(a1:List GAct)(hc:ztf a0 a1=true):∃N,zAP N a0 a1=some [aH (zte a0 a1),aS .told (zCH a0 a1)]:=by
 obtain⟨hs,hl1⟩:=zQ.1 hc;have hl:=zcC hl1;refine zcG fun N hNN=>?_;unfold zAP oN;conv=>zeta
 refine must (zbf hs) ?_;refine(zbn a1 (fun i (t:lT×lM×lN×lE×lE)=>((i:Int),a1,t.1,[],[],[],[],t.2.1,t.2.2.1,t.2.2.2.1,t.2.2.2.2,())) _ (fun i (x:GAct) (t:HSt) κ=>bif ilt (i:Int) ((80:Nat):Int) then (cond (zpF (hOf t) x) (cond (few (ln (ap t.1 [zij (hOf t) x]))) (κ (ap t.1 [zij (hOf t) x],(zd1 (hOf t) x).Memory,(zd1 (hOf t) x).Mons,(zd1 (hOf t) x).Buffer,(zd1 (hOf t) x).IoBuffer)) none) none) else zyz t) (fun (t:lT×lM×lN×lE×lE)=>(some [(.agg (zbj (⟨t.2.1,t.2.2.1,t.2.2.2.1,t.2.2.2.2⟩:Host))),(.one (.s .told t.1))])) (fun i hi t rec=>?_) (fun t rec=>?_) _ ([],(zgd a0).Memory,(zgd a0).Mons,(zgd a0).Buffer,(zgd a0).IoBuffer) (hNN hl.1)).trans ?_;{simp only [zbS hi,zbq hi,zbA hi,zbk hi hl.1,cT];rfl};{simp only [zbJ,cF]};exact zFm (fun h a hh=>zbf ((zbb h).2 hh)) 80 a1 0 (ze1 a0,[]) (zWX hs) (by simpa using hl.2)
theorem zGJ:vL 120 zxf:=kF2 zOe zJ zcl zc6 zNm zMx
def zRn:zZ:=[(120,zxf)]++zZS
theorem zvG:zL zRn:=zi zGJ zOe
def zC9 (h:Host):Prop:=∃ps l,zIt ps/\(1<=ps.length/\∀p∈ps,1<=p.length/\∀x∈p,zdq x=true)/\h=(zym ps l).1
theorem zHy {p:List Ins}(h:zdq p=true):p.length<=12:=by unfold zdq at h;cases hc:p.all zd2 with|false=>rw[hc]at h;cases h|true=>rw[hc,cT]at h;have h2:=(zfp.1 h).2;unfold ln at h2;omega
def zvx (N:Nat)(c:Cur)  : OA :=
 let y0:=({ (zk3 c) with b:=c.b}:Cur); (oN (zn4 c) (oN (zhz y0 20) (oN (ztf (ztq c) (zkg y0 20)) (some [(.agg [(.s .u8 c.b),(.i .i64 (zjo y0 20).i),(.i .i64 (zjo y0 20).h)]),(aH (zte (ztq c) (zkg y0 20)))]))))
def zn5 (c:Cur)(s:Cur)(v0:Host):Prop:=(∃N,zvx N c=some (AV.agg (zbT s)::[aH v0]))/\(s.b=c.b/\0<=s.i)/\(zC9 v0)
def zeB (c:Cur)  : Bool:=wC (zn5 c)
def zhy (c:Cur)  : Cur:=wS (zn5 c)
def zgh (c:Cur)  : Host:=wV (zn5 c)
theorem zwb {c:Cur}(h:zeB c=true):zn5 c (zhy c) (zgh c):=wG h
theorem zVO (c:Cur)  : 0<=(zhy c).i:=wP fun h=>h.2.1.2
theorem zVN (c:Cur)(h:∃N,Ends (wE (fun v0=>aH v0) c.b fun v0=>zC9 v0) (zvx N c)):zeB c=true:=wI (fun _ _ h=>h) h
def zw3:zdo:=rP0 fun c=>(zeB c,zhy c,[aH (zgh c)])
theorem zJz:zbM Tryz.prog 66 [false,true,true] zw3:=hP0 zvG zV zTc zx (zy []) (fun _ h=>(zwb h).1)
theorem zJG {c:Cur}(h:zbd c):zeB c=true:=by
 refine zVN c ⟨0,?_⟩;have h1:zbd {zk3 c with b:=c.b}:=zbH h (zYQ _);have g1:=(zKD (z4c h)).2.2;have g2:=(zwc (zQW h1 (m:=20) (by omega) (by omega))).2.2;unfold zvx oN;conv=>zeta
 have g3:(zkg {zk3 c with b:=c.b} 20).length<=65:=by unfold ln at g2;omega
 have S:zIt (ztq c):=⟨by omega,fun p hp=>by
  have g:=g1.2.2 p hp;exact⟨by omega,fun x hx=>by have:=zHy (g.2.2 x hx);omega⟩⟩
 exact zq (z4c h) (zq (zQW h1 (by omega) (by omega)) (zq (zbf ⟨S,qT g3 (by decide)⟩) (zbG aH (zFS _ _) ⟨_,_,S,⟨g1.1,fun p hp=>⟨(g1.2.2 p hp).1,(g1.2.2 p hp).2.2⟩⟩,rfl⟩)))
def z5E:zcQ:=[(66,([false,true,true],zw3))]++z5D
theorem zyI:zb1 z5E:=zco zTc (by
 intro x hx;simp only[qF,qP,or_false]at hx;rcases hx with rfl
 .exact zJz)
theorem zRK {α τ ρ:Type}{G:ρ->Prop}{body:Nat->α->τ->(τ->Option ρ)->Option ρ}{K:τ->Option ρ}(hb:∀i x t κ,(∀t,Ends G (κ t))->Ends G (body i x t κ))(hK:∀t,Ends G (K t)):∀(l:List α) (i:Nat) (t:τ),Ends G (goL body K l i t)
 |[],i,t=>hK t
 |x::l,i,t=>hb i x t _ (fun t=>zRK hb hK l (i+1) t)
def zmJ (N:Nat)(a0:List Int):OA:=
 (iter (σ:=(Int×(Int×((List Int)×(lM×(lN×(lE×(lE×Unit)))))))) N (fun r2 s3=>let y0:=(⟨s3.2.2.1,0,s3.1⟩:Cur); (cond (ilt s3.2.1 (ln s3.2.2.1)) (cond (ilt s3.2.1 4000) (oN (inb s3.2.1 (ln s3.2.2.1)) (r2 ((wand .i64 (zK .i64 (zK .i64 (zkm .i64 s3.1 131) (wcv .i64 (ix s3.2.2.1 s3.2.1 0))) 7) 1073741823),((zK .i64 s3.2.1 1),(s3.2.2.1,(s3.2.2.2.1,(s3.2.2.2.2.1,(s3.2.2.2.2.2.1,(s3.2.2.2.2.2.2.1,()))))))))) (oN (zeB y0) (some [(aH (zgh y0))]))) (oN (zeB y0) (some [(aH (zgh y0))])))) ((zK .i64 94701 (ln a0)),(0,(a0,([],([],([],([],()))))))))
def zNl:FuncId->Nat->Option Tmpl:=zy [(52,0,{n:=32,tm:=[(0,.sl 0 []),(3,ti),(4,ti)],lo:=[(0,[.sl 1 [],.sl 2 [],.sl 3 [],.sl 4 []])],ro:=[(0,.u8,false),(1,(.sl .int),true),(2,.mon,true),(3,.entry,true),(4,.entry,true)],sk:=[(0,2,0,.lp 0 0)]})]
def zq6 (a0:List Int)(v0:Host):Prop:=(∃N,zmJ N a0=some [aH v0])/\(zC9 v0)
def zhQ (a0:List Int):Bool:=uC (T:=Host) (fun r=>zq6 a0 r)
def zTr (a0:List Int):Host:=uV (fun r=>zq6 a0 r)
def zkK (a0:List Int):Host:=(zTr a0)
theorem zCF {a0:List Int}(h:zhQ a0=true):zq6 a0 (zkK a0):=uG h
theorem zTq (a0:List Int)(h:∃N,Ends (fun a=>∃v0,a=[aH v0]/\(zC9 v0)) (zmJ N a0)):zhQ a0=true:=by obtain⟨N,a,e,v0,rfl,h⟩:=h;exact zbf ⟨v0,⟨N,e⟩,h⟩
def zxe:Run:=rF1 (dS .u8) fun b=>(zhQ b,[aH (zkK b)])
theorem zMv (a0:List Int)(hc:zhQ a0=true):∃N,zmJ N a0=some [aH (zkK a0)]:=by exact(zCF hc).1
theorem zGI:vL 23 zxe:=kF1 zvG zV zyI zx zNl zMv
theorem zIM {a0:List Int}(h:a0.length<=big):zhQ a0=true:=by
 refine zTq a0 (zcG fun N hNN=>?_);unfold zmJ oN;conv=>zeta
 have fin:∀t,Ends (fun a=>∃v0,a=[aH v0]/\zC9 v0) (cond (zeB ⟨a0,0,t⟩) (some [aH (zgh ⟨a0,0,t⟩)]) none):=fun t=>
  have hc:zbd ⟨a0,0,t⟩:=⟨kL 0,h⟩
  zq (zJG hc) ⟨_,rfl,_,rfl,(zwb (zJG hc)).2.2⟩
 refine(congrArg (Ends _) (zbn a0 (fun i (t:Int)=>(t,(i:Int),a0,[],[],[],[],())) _ (fun i x (t:Int) κ=>bif ilt (i:Int) 4000 then κ (wand .i64 (zK .i64 (zK .i64 (zkm .i64 t 131) (wcv .i64 x)) 7) 1073741823) else (cond (zeB ⟨a0,0,t⟩) (some [aH (zgh ⟨a0,0,t⟩)]) none)) (fun (t:Int)=>(cond (zeB ⟨a0,0,t⟩) (some [aH (zgh ⟨a0,0,t⟩)]) none)) (fun i hi t rec=>?_) (fun t rec=>?_) N (zK .i64 94701 (ln a0)) (hNN h))).mpr ?_;{simp only [zbS hi,zbq hi,zbA hi,zbk hi h,cT]};{simp only [zbJ,cF]};exact zRK (fun i x t κ hk=>zby (fun _=>hk _) (fun _=>fin t)) fin _ _ _
def zZx:zZ:=[(23,zxe)]++zRn
theorem zZy:zL zZx:=zi zGI zvG
end
end Go.Proofs.YthdlghbibaoabaaGreat.E
