/- What is proved here: FnCleaned: for every input the law returns true, and each argument reads afterwards as it read before. No conditions. -/
import Derived.Test.YtdaahiceaagpdaaGreatU5
namespace Go.Proofs.YtdaahiceaagpdaaGreat.E
open Go
set_option linter.unusedVariables false
set_option maxRecDepth 100000
set_option linter.unusedSimpArgs false
set_option linter.unusedSectionVars false
noncomputable section
theorem zmI {o:List Slot}{p:Int}(h:hasB p (ln o)=true):zbm o p=ix o p sZ:=by unfold zbm;rw[h];rfl
theorem zjV {h:Host}(H:HOk h){m p:Int}(hm:hasB m (ln h.Mons)=true)(hp:hasB p 8=true) :
 (cond (ieq (ix (ix h.Mons m mZ).Outer p sZ).Page (-1)) (ix (ix h.Mons m mZ).Out p []) (zb8 h.Memory (ix (ix h.Mons m mZ).Outer p sZ).Page))=zbR h m p:=by
 rw[zmA hm hp ((H.mon hm).hasO hp),zjT ((H.mon hm).hasU hp)]
structure Mark (x y:Mon):Prop where
 o:y.Outer=x.Outer
 u:y.Out=x.Out
 g:y.Guests=x.Guests
 t:y.Tables=x.Tables
 d:y.Dirty.length=x.Dirty.length
 a1:y.Outs=x.Outs
 a2:y.Pending=x.Pending
 a3:y.Traps=x.Traps
 a4:y.Own=x.Own
theorem zVP {h:Host}(H:HOk h){m:Int}(hm:hasB m (ln h.Mons)=true){y:Mon}(k:Mark (ix h.Mons m mZ) y):Op h { h with Mons:=up h.Mons m y }/\∀i q,ix (ix (up h.Mons m y) i mZ).Outer q sZ=ix (ix h.Mons i mZ).Outer q sZ:=by
 have X:=H.mon hm;have h0:hasB 0 8=true:=by decide
 have c:Chg (ix h.Mons m mZ) y 0 (ix (ix h.Mons m mZ).Outer 0 sZ) (ix (ix h.Mons m mZ).Out 0 []):=⟨by rw[zmr (X.hasO h0),k.o],by rw[zmr (X.hasU h0),k.u],k.g,by rw[k.t],k.d,k.a1,k.a2,k.a3,k.a4⟩
 refine ⟨⟨zuO H hm h0 rfl c (X.slot h0) (X.fit 0 h0) H.m12 H.pgs H.b1 H.b2 (fun _=>.inl rfl),ztQ H hm h0 rfl c (zjV H hm h0) (fun _ _ _ _ _ _=>rfl),
  fun R=>zJY R hm rfl rfl rfl (by rw[k.g]) (fun g _=>by rw[k.g]) k.t k.o⟩,fun i q=>?_⟩
 by_cases e:i.toNat=m.toNat
 .have:∀l:List Mon,ix l i mZ=ix l m mZ:=fun l=>by unfold ix;rw[e]
  rw[this,this,zV hm,k.o]
 .have:ix (up h.Mons m y) i mZ=ix h.Mons i mZ:=by
   unfold ix up;simp[List.getD,jD,Ne.symm e]
  rw[this]
theorem zJN {h:Host}(H:HOk h){m:Int}(hm:hasB m (ln h.Mons)=true)(p:Int):Op h (zbu h m p)/\∀i q,ix (ix (zbu h m p).Mons i mZ).Outer q sZ=ix (ix h.Mons i mZ).Outer q sZ :=
 zVP H hm ⟨rfl,rfl,rfl,rfl,zbz _ _ _,rfl,rfl,rfl,rfl⟩
theorem zZJ {h:Host}(H:HOk h){m:Int}(hm:hasB m (ln h.Mons)=true)(p:Int):Op h (zev h m p)/\∀i q,ix (ix (zev h m p).Mons i mZ).Outer q sZ=ix (ix h.Mons i mZ).Outer q sZ :=
 zVP H hm ⟨rfl,rfl,rfl,rfl,zbz _ _ _,rfl,rfl,rfl,rfl⟩
theorem rights {r:Int}(h0:1<=r)(h3:r<=3):r=1\/r=2\/r=3:=by omega
theorem MOk.enough1 {x:Mon}(X:MOk x){p:Int}(hp:hasB p 8=true)(hn:(ix x.Outer p sZ).Page≠-1):(ix x.Outer p sZ).Rights=1\/(ix x.Outer p sZ).Rights=3:=by
 have h1:=(((zon (X.slot hp)).1 (X.fit p hp)).2 hn).1;have h2:=(X.slot hp).pos hn;rcases rights h2.2.2.1 h2.2.2.2 with e|e|e
 .exact .inl e
 .rw [e]at h1;exact absurd h1 (by decide)
 .exact .inr e
theorem zOg {h:Host}(H:HOk h){m p:Int}(hm:hasB m (ln h.Mons)=true)(hp:hasB p 8=true)(hn:(ix (ix h.Mons m mZ).Outer p sZ).Page≠-1){r:Int}(hr:r=1\/r=3) :
 Op h (zbL h m p ⟨(ix (ix h.Mons m mZ).Outer p sZ).Page,r⟩)/\But h (zbL h m p ⟨(ix (ix h.Mons m mZ).Outer p sZ).Page,r⟩) m p /\
  ix (ix (zbL h m p ⟨(ix (ix h.Mons m mZ).Outer p sZ).Page,r⟩).Mons m mZ).Outer p sZ=⟨(ix (ix h.Mons m mZ).Outer p sZ).Page,r⟩/\∀i,(ix (zbL h m p ⟨(ix (ix h.Mons m mZ).Outer p sZ).Page,r⟩).Mons i mZ).Dirty=(ix h.Mons i mZ).Dirty:=by
 have X:=H.mon hm;have hpos:=(X.slot hp).pos hn;have hM:=ziW h m p ⟨(ix (ix h.Mons m mZ).Outer p sZ).Page,r⟩;have k:Chg (ix h.Mons m mZ) (zgM (ix h.Mons m mZ) p ⟨(ix (ix h.Mons m mZ).Outer p sZ).Page,r⟩) p ⟨(ix (ix h.Mons m mZ).Outer p sZ).Page,r⟩ (ix (ix h.Mons m mZ).Out p []) :=
  zAi rfl (zmr (X.hasU hp) _).symm rfl rfl rfl rfl rfl rfl rfl
 have hs:SOk ⟨(ix (ix h.Mons m mZ).Outer p sZ).Page,r⟩:=.inr ⟨hpos.1,hpos.2.1,by show 1<=r;omega,by show r<=3;omega⟩
 have hfit:=((zon (X.slot hp)).1 (X.fit p hp)).2 hn;have hb:=ztf (h:=h) (m:=m) (p:=p) (s:=⟨(ix (ix h.Mons m mZ).Outer p sZ).Page,r⟩) H.b1 H.b2;have hmem:=zpR h m p ⟨(ix (ix h.Mons m mZ).Outer p sZ).Page,r⟩;refine ⟨⟨zuO H hm hp hM k hs ((zon hs).2 ⟨fun h=>absurd h hn,fun _=>⟨?_,hfit.2⟩⟩) (by rw[hmem];exact H.m12) (by rw[hmem];exact H.pgs) hb.1 hb.2 (fun _=>.inl rfl),
  ztQ H hm hp hM k (by rw[hmem];exact zjV H hm hp) (fun i q _ _ _ _=>by rw[hmem]),fun R=>zxO R hm (X.hasO hp) X.gt _⟩,zFn hm hp hM rfl,?_,fun i=>zKN hm hM rfl i⟩
 .show enough r 1=true
  rcases hr with rfl|rfl<;>decide
 .rw [hM,zV hm];exact zV (X.hasO hp) _ _
structure Mended (h r:Host) (m p n:Int):Prop where
 op:Op h r
 inn:(ix (ix r.Mons m mZ).Outer p sZ).Page≠-1
 ri:ieq (wand .i64 n 2) 0=false->(ix (ix r.Mons m mZ).Outer p sZ).Rights=3
 dt:ieq (wand .i64 n 2) 0=false->ix (ix r.Mons m mZ).Dirty p false=true
 d0:ieq (wand .i64 n 2) 0=true->(ix r.Mons m mZ).Dirty=(ix h.Mons m mZ).Dirty
 dk:∀k,hasB k 8=true->k≠p->ix (ix r.Mons m mZ).Dirty k false=ix (ix h.Mons m mZ).Dirty k false
 dm:∀i,hasB i (ln h.Mons)=true->i≠m->(ix r.Mons i mZ).Dirty=(ix h.Mons i mZ).Dirty
theorem zSJ {h:Host}(H:HOk h){m p:Int}(n:Int)(hm:hasB m (ln h.Mons)=true)(hp:hasB p 8=true)(hn:(ix (ix h.Mons m mZ).Outer p sZ).Page≠-1):Mended h (zit h m p n) m p n:=by
 unfold zit;cases hw:ieq (wand .i64 n 2) 0 with
 | true=>exact ⟨Op.refl H,hn,fun e=>(Bool.noConfusion (hw.symm.trans e)),fun e=>(Bool.noConfusion (hw.symm.trans e)),fun _=>rfl,fun _ _ _=>rfl,fun _ _ _=>rfl⟩
 | false =>
  rw[cond_false];obtain ⟨k1,k2⟩:=zJN H hm p;have hm1:hasB m (ln (zbu h m p).Mons)=true:=by rw[k1.like.has];exact hm
  have hn1:(ix (ix (zbu h m p).Mons m mZ).Outer p sZ).Page≠-1:=by rw[k2];exact hn
  have hd:(ix (zbu h m p).Mons m mZ).Dirty=up (ix h.Mons m mZ).Dirty p true:=by
   show (ix (up h.Mons m _) m mZ).Dirty=_
   rw[zV hm]
  have hd2:∀i,hasB i (ln h.Mons)=true->i≠m->(ix (zbu h m p).Mons i mZ).Dirty=(ix h.Mons i mZ).Dirty:=fun i hi hc=>by
   show (ix (up h.Mons m _) i mZ).Dirty=_
   rw[zbj (zq.1 hm).1 (zq.1 hi).1 (Ne.symm hc)]
  have he:=(k1.ok.mon hm1).enough1 hp hn1;have hD:∀r:Host,(∀i,(ix r.Mons i mZ).Dirty=(ix (zbu h m p).Mons i mZ).Dirty)->Op (zbu h m p) r->(ix (ix r.Mons m mZ).Outer p sZ).Page≠-1->(ix (ix r.Mons m mZ).Outer p sZ).Rights=3->Mended h r m p n:=by
   intro r h1 h2 h3 h4;refine ⟨k1.trans h2,h3,fun _=>h4,fun _=>?_,fun e=>(Bool.noConfusion (hw.symm.trans e)),fun k hk hc=>?_,fun i hi hc=>by rw[h1,hd2 i hi hc]⟩
   .rw [h1,hd,zV ((H.mon hm).hasD hp)]
   .rw [h1,hd,zbj (zq.1 hp).1 (zq.1 hk).1 (Ne.symm hc)]
  unfold opened;rcases he with e|e
  .rw [e,show ieq (wand .i64 1 2) 0=true by decide,cond_true]
   obtain ⟨o1,o2,o3,o4⟩:=zOg k1.ok hm1 hp hn1 (r:=3) (.inr rfl);exact hD _ o4 o1 (by rw[o3];exact hn1) (by rw[o3])
  .rw [e,show ieq (wand .i64 3 2) 0=false by decide,cond_false]
   exact hD _ (fun _=>rfl) (Op.refl k1.ok) hn1 e
theorem zOf {h:Host}(H:HOk h){m p:Int}(n:Int)(hm:hasB m (ln h.Mons)=true)(hp:hasB p 8=true):Mended h (mended h m p n) m p n:=by
 unfold mended
 by_cases e:(ix (ix h.Mons m mZ).Outer p sZ).Page = -1
 .rw [zbi.2 e,cond_true];obtain ⟨k1,⟨to,t1,t2,t3⟩,k3⟩:=zJO H hm hp e;have K:=zSJ k1.ok n (by rw[k1.like.has];exact hm) hp (by rw[t3];show to≠-1;omega)
  exact ⟨k1.trans K.op,K.inn,K.ri,K.dt,fun e=>by rw[K.d0 e,k3],fun k hk hc=>by rw[K.dk k hk hc,k3],fun i hi hc=>by rw[K.dm i (by rw[k1.like.has];exact hi) hc,k3]⟩
 .rw [zbH.2 e,cond_false];exact zSJ H n hm hp e
theorem zjU {h:Host}{m p:Int}:zbQ h m p=true↔HOk h/\hasB m (ln h.Mons)=true/\hasB p 8=true:=by
 unfold zbQ;rw[zbW,zbW,zff]
theorem zXq {h:Host}(H:HOk h)(m p:Int):Op h (zoy h m p):=by
 unfold zoy;cases hh:zbQ h m p with
 | false=>exact Op.refl H
 | true =>
  obtain ⟨_,hm,hp⟩:=zjU.1 hh;rw[cond_true];unfold zjm
  by_cases e:(ix (ix h.Mons m mZ).Outer p sZ).Page = -1
  .rw [zbi.2 e];exact Op.refl H
  .rw [zbH.2 e];exact zVQ H hm hp e
theorem zZI {h:Host}(H:HOk h)(m p:Int):Op h (zsx h m p):=by
 unfold zsx;cases hh:zbQ h m p with
 | false=>exact Op.refl H
 | true =>
  obtain ⟨_,hm,hp⟩:=zjU.1 hh;rw[cond_true];unfold zjm
  by_cases e:(ix (ix h.Mons m mZ).Outer p sZ).Page = -1
  .rw [zbi.2 e];exact (zJO H hm hp e).1
  .rw [zbH.2 e];exact Op.refl H
theorem zOe {h:Host}(H:HOk h)(m p:Int):Op h (zdo h m p):=by
 unfold zdo;cases hh:zbQ h m p with
 | false=>exact Op.refl H
 | true =>
  obtain ⟨_,hm,hp⟩:=zjU.1 hh;rw[cond_true];obtain ⟨k1,k2⟩:=zZJ H hm p;cases e:zcq (ix (ix h.Mons m zf).Outer p zJ) noSlot with
  | true=>exact k1
  | false =>
   rw[cond_false];have hn:(ix (ix h.Mons m mZ).Outer p sZ).Page≠-1:=fun h1=>zmJ.1 e (((H.mon hm).slot hp).none h1);have:=zOg k1.ok (m:=m) (p:=p) (by rw[k1.like.has];exact hm) hp (by rw[k2];exact hn) (r:=1) (.inl rfl)
   rw[k2 m p] at this;exact k1.trans this.1
structure KeepP (x y:Mon):Prop where
 o:y.Outer=x.Outer
 u:y.Out=x.Out
theorem zJS {h r:Host}{m:Int}(hm:hasB m (ln h.Mons)=true){y:Mon}(hM:r.Mons=up h.Mons m y)(hmem:r.Memory=h.Memory)(k:KeepP (ix h.Mons m mZ) y)(i q:Int):zbR r i q=zbR h i q:=by
 unfold zbR;rw[hM,zdc,hmem];cases hi:hasB i (ln h.Mons) with
 | false=>rfl
 | true =>
  by_cases e:m=i
  .subst e;rw[zV hm,k.o,k.u]
  .rw [zbj (zq.1 hm).1 (zq.1 hi).1 e]
theorem ztb {h r:Host}{m:Int}(hm:hasB m (ln h.Mons)=true){y:Mon}(hM:r.Mons=up h.Mons m y)(hmem:r.Memory=h.Memory)(k:KeepP (ix h.Mons m mZ) y)(i:Int) :
 zA r i=bif ieq i m then ⟨(zA h i).Memory,y.Guests,y.Outs,y.Pending⟩ else zA h i:=by
 have hp:zcc r i 8 0=zcc h i 8 0:=zpn 8 0 (fun j _ _=>zJS hm hM hmem k i j);unfold zA;rw[hp,hM,zdc]
 by_cases e:i=m
 .subst e;rw[hm,zbi.2 rfl,zV hm];rfl
 .rw [zbH.2 e,cond_false];cases hi:hasB i (ln h.Mons) with
  | false=>rfl
  | true=>rw[zbj (zq.1 hm).1 (zq.1 hi).1 (Ne.symm e)]
theorem zjP {x y:Mon}(X:MOk x)(k:KeepP x y)(g:y.Guests.length=x.Guests.length)(t:y.Tables.length=x.Tables.length)(d:y.Dirty.length=x.Dirty.length)(o:y.Outs.length<=40)(p:zcJ y.Pending=true)(tr:win y.Traps 0 3=true)(ow:win y.Own 0 1000000000=true)(gs:∀g∈y.Guests,zcT g=true):MOk y :=
 ⟨by rw[g];exact X.g1,by rw[g];exact X.g2,by rw[t,g];exact X.gt,by rw[k.o];exact X.o8,by rw[k.o];exact X.sl,by rw[k.u];exact X.u8,by rw[d];exact X.d8,o,p,tr,ow,gs,by rw[k.o,k.u];exact X.fit⟩
theorem zRm {h:Host}(H:HOk h){m:Int}(hm:hasB m (ln h.Mons)=true){y:Mon}(k:KeepP (ix h.Mons m mZ) y)(hy:MOk y):HOk { h with Mons:=up h.Mons m y } :=
 H.up hm hy rfl H.m12 H.pgs H.b1 H.b2 fun q _=>.inl (by unfold cPg;rw[k.o];exact qW _)
theorem zuK {h:Host}(S:Safe h){m:Int}(hm:hasB m (ln h.Mons)=true){y:Mon}(k:KeepP (ix h.Mons m mZ) y)(hy:MOk y)(hg:y.Guests.length=(ix h.Mons m mZ).Guests.length)(hv:∀g,hasB g (ln (ix h.Mons m mZ).Guests)=true->(ix y.Guests g gZ).Live=(ix (ix h.Mons m mZ).Guests g gZ).Live)(ht:y.Tables=(ix h.Mons m mZ).Tables):Safe { h with Mons:=up h.Mons m y } :=
 ⟨zRm S.ok hm k hy,zJY S.rt hm rfl rfl rfl hg hv ht k.o⟩
theorem zPU {h:Host}(S:Safe h)(m t:Int):Safe (ziD h m t)/\∀i,zA (ziD h m t) i=zA h i:=by
 unfold ziD;rw[zff.2 S.ok,cond_true];cases hm:hasB m (ln h.Mons) with
 | false=>exact ⟨S,fun _=>rfl⟩
 | true =>
  cases ht:win t 0 3 with
  | false=>exact ⟨S,fun _=>rfl⟩
  | true =>
   have X:=S.ok.mon hm;have k:KeepP (ix h.Mons m mZ) { ix h.Mons m mZ with Traps:=t }:=⟨rfl,rfl⟩;refine ⟨zuK S hm k (zjP X k rfl rfl rfl X.outs X.pend ht X.own X.gs) rfl (fun _ _=>rfl) rfl,fun i=>?_⟩;rw[cond_true,cond_true];refine (ztb (h:=h) (r:={ h with Mons:=up h.Mons m { ix h.Mons m mZ with Traps:=t } }) hm rfl rfl k i).trans ?_
   by_cases e:i=m
   .subst e;rw[zbi.2 rfl,cond_true];unfold zA;rw[hm];rfl
   .rw [zbH.2 e];rfl
theorem zEw:∀(n i:Nat) (k:Kept),(zhK n i k).Known.length=k.Known.length/\(zhK n i k).Slots.length=k.Slots.length
 | 0,i,k=>⟨rfl,rfl⟩
 | n+1,i,k=>by
  have h1:=zEw n (i+1) (zbG k (i:Int));have h2:=zjE k (i:Int);exact ⟨h1.1.trans h2.1,h1.2.trans h2.2⟩
theorem zIl:∀(n i:Nat) (k:Kept),k.Known.length=k.Slots.length->∀j,hasB j (ln k.Known)=true ->
 ((i:Int)<=j/\j<((i+n:Nat):Int)->ix (zhK n i k).Known j false=false/\ix (zhK n i k).Slots j sZ=noSlot) /\
 (¬ ((i:Int)<=j/\j<((i+n:Nat):Int))->ix (zhK n i k).Known j false=ix k.Known j false/\ix (zhK n i k).Slots j sZ=ix k.Slots j sZ)
 | 0,i,k,_,j,_=>⟨fun h=>by omega,fun _=>⟨rfl,rfl⟩⟩
 | n+1,i,k,hl,j,hj=>by
  have h2:=zjE k (i:Int);have h3:=zuY (q:=(i:Int)) hl hj;have ih:=zIl n (i+1) (zbG k (i:Int)) (by rw[h2.1,h2.2,hl]) j (by unfold ln at hj ⊢;rwa [h2.1])
  rw[zhK]
  by_cases hc:((i+1:Nat):Int)<=j/\j<((i+1+n:Nat):Int)
  .exact ⟨fun _=>ih.1 hc,fun h=>absurd (by omega) h⟩
  .rw [(ih.2 hc).1,(ih.2 hc).2,h3.1,h3.2]
   by_cases e:(i:Int)=j
   .rw [zbi.2 e];exact ⟨fun _=>⟨rfl,rfl⟩,fun h=>absurd (by omega) h⟩
   .rw [zbH.2 e];exact ⟨fun h=>absurd (by omega) hc,fun _=>⟨rfl,rfl⟩⟩
theorem zO3 {k:Kept}{inner outer:List Slot}(h:KOk k inner outer):KOk (zij k) inner outer:=by
 have hl:=zEw k.Known.length 0 k;refine ⟨hl.1.trans h.l1,hl.2.trans h.l2,fun i hi=>?_⟩;have hi':hasB i (ln k.Known)=true:=by unfold ln at hi ⊢;rwa [h.l1]
 have hi2:=zq.1 hi';unfold ln at hi2;have:=(zIl k.Known.length 0 k (by rw[h.l1,h.l2]) i hi').1 ⟨by omega,by omega⟩
 unfold zij;rw[this.1,this.2];rfl
theorem zH5:∀(n j:Nat) (l:List Kept),(ztw n j l).length=l.length
 | 0,_,_=>rfl
 | n+1,j,l=>by rw[ztw,zH5 n,zbz]
theorem zQK:∀(n j:Nat) (l:List Kept),j+n<=l.length->∀g,0<=g->ix (ztw n j l) g kZ=if (j:Int)<=g/\g<((j+n:Nat):Int) then zij (ix l g kZ) else ix l g kZ
 | 0,j,l,_,g,hg=>by rw[if_neg (by omega)];rfl
 | n+1,j,l,hl,g,hg=>by
  rw[ztw,zQK n (j+1) _ (by rw[zbz];omega) g hg]
  by_cases e:(j:Int)=g
  .subst e;rw[if_neg (by omega),if_pos (by omega),zV (zq.2 ⟨by omega,by unfold ln;omega⟩)]
  .rw [zbj (by omega) hg e]
   by_cases h:((j+1:Nat):Int)<=g/\g<((j+1+n:Nat):Int)
   .rw [if_pos h,if_pos (by omega)]
   .rw [if_neg h,if_neg (by omega)]
theorem zH4:∀(n i:Nat) (l:List Mon),(zmX n i l).length=l.length
 | 0,_,_=>rfl
 | n+1,i,l=>by rw[zmX,zH4 n,zbz]
theorem zNE:∀(n i:Nat) (l:List Mon),i+n<=l.length->∀m,0<=m->ix (zmX n i l) m mZ=if (i:Int)<=m/\m<((i+n:Nat):Int) then ztx (ix l m mZ) (ix l m mZ).Tables.length 0 else ix l m mZ
 | 0,i,l,_,m,hm=>by rw[if_neg (by omega)];rfl
 | n+1,i,l,hl,m,hm=>by
  rw[zmX,zNE n (i+1) _ (by rw[zbz];omega) m hm]
  by_cases e:(i:Int)=m
  .subst e;rw[if_neg (by omega),if_pos (by omega),zV (zq.2 ⟨by omega,by unfold ln;omega⟩)]
  .rw [zbj (by omega) hm e]
   by_cases h:((i+1:Nat):Int)<=m/\m<((i+1+n:Nat):Int)
   .rw [if_pos h,if_pos (by omega)]
   .rw [if_neg h,if_neg (by omega)]
theorem z0G (h:Host){m:Int}(hm:hasB m (ln h.Mons)=true):ix (cold h).Mons m mZ=ztx (ix h.Mons m mZ) (ix h.Mons m mZ).Tables.length 0:=by
 have:=zq.1 hm;unfold ln at this
 show ix (zmX h.Mons.length 0 h.Mons) m mZ=_
 rw[zNE _ _ _ (by omega) m this.1,if_pos (by omega)]
theorem zvK (h:Host):(cold h).Mons.length=h.Mons.length:=zH4 _ _ _
theorem zFq (h:Host)(m:Int):hasB m (ln (cold h).Mons)=hasB m (ln h.Mons):=by unfold ln;rw[zvK]
theorem z3Z {l l':List Mon}(hl:l'.length=l.length)(h:∀m,hasB m (ln l)=true->(ix l' m mZ).Outer=(ix l m mZ).Outer)(q:Int):zey l' q=zey l q:=by
 have:l'.map (fun x=>cPg x q)=l.map (fun x=>cPg x q):=by
  refine List.ext_getElem (by simp[hl]) fun k h1 h2=>?_
  simp only[uK]at h1 h2;have:=h (k:Int) (zq.2 ⟨by omega,by unfold ln;omega⟩)
  rw[zli h1,zli h2] at this;simp[cPg,this]
 unfold zey;rw[this]
theorem z5i {h:Host}(H:HOk h):Op h (cold h):=by
 have hx:∀m,hasB m (ln h.Mons)=true->ix (cold h).Mons m mZ=ztx (ix h.Mons m mZ) (ix h.Mons m mZ).Tables.length 0:=fun m hm=>z0G h hm;have hpg:∀i q,zbR (cold h) i q=zbR h i q:=by
  intro i q;unfold zbR;rw[zFq];cases hi:hasB i (ln h.Mons) with
  | false=>rfl
  | true=>rw[hx i hi];rfl
 refine ⟨⟨H.m12,H.pgs,by rw[zvK];exact H.n1,by rw[zvK];exact H.n3,rfl,rfl,fun y hy=>?_,fun q hq=>?_⟩,⟨zvK h,fun i hi=>by rw[hx i hi];rfl,fun i hi=>by rw[hx i hi];rfl,fun i hi=>by rw[hx i hi];rfl,fun i hi=>by rw[hx i hi];rfl,fun i hi=>by rw[hx i hi];rfl,fun i k _ _=>hpg i k⟩,fun R=>⟨fun m hm=>?_,fun e he=>(by cases he),fun e he=>(by cases he)⟩⟩
 .obtain ⟨m,hm,rfl⟩:=zA6 hy mZ;rw[zFq]at hm;rw[hx m hm];have X:=H.mon hm;have k:KeepP (ix h.Mons m mZ) (ztx (ix h.Mons m mZ) (ix h.Mons m mZ).Tables.length 0):=⟨rfl,rfl⟩;exact zjP X k rfl (zH5 _ _ _) rfl X.outs X.pend X.tr X.own X.gs
 .rw [z3Z (l:=h.Mons) (zvK h) (fun m hm=>by rw[hx m hm];rfl)]
  exact H.uq q hq
 .rw [zFq]at hm;rw[hx m hm];have X:=H.mon hm;intro g hg
  show KOk (ix (ztw (ix h.Mons m mZ).Tables.length 0 (ix h.Mons m mZ).Tables) g kZ) (ix (ix h.Mons m mZ).Guests g gZ).Live (ix h.Mons m mZ).Outer
  have hg':hasB g (ln (ix h.Mons m mZ).Guests)=true:=hg;have hg2:=zq.1 hg';unfold ln at hg2;have hgt:=X.gt;rw[zQK _ _ _ (by omega) g hg2.1,if_pos (by omega)]
  exact zO3 (R.t m hm g hg')
theorem zTl {m g:Int}(hm:win m 0 2=true)(hg:win g 0 1=true):zc2 (zel m g)=m/\zdK (zel m g)=g/\1<=zel m g/\zel m g<=6:=by
 have h1:=zcm.1 hm;have h2:=zcm.1 hg;have e1:m=0\/m=1\/m=2:=by omega
 have e2:g=0\/g=1:=by omega
 rcases e1 with rfl|rfl|rfl<;>rcases e2 with rfl|rfl<;>decide
theorem HOk.tag {h:Host}(H:HOk h){m g:Int}(hm:hasB m (ln h.Mons)=true)(hg:hasB g (ln (ix h.Mons m mZ).Guests)=true):win m 0 2=true/\win g 0 1=true:=by
 have h1:=zq.1 hm;have h2:=zq.1 hg;have h3:=H.n3;have h4:=(H.mon hm).g2;unfold ln at h1 h2;exact ⟨zcm.2 (by omega),zcm.2 (by omega)⟩
theorem zfE {r:Int}:zcE r=true↔r=0\/r=1\/r=2\/r=3:=by
 unfold zcE ige ile;rw[qD,qV,qV];omega
theorem zp0 {a b:Int}(h:enough a b=true):zcE a=true/\zcE b=true:=by
 unfold enough at h;rw[zbW,zbW]at h;exact ⟨h.1,h.2.1⟩
theorem zQ8 {a b c:Int}(h1:enough a b=true)(h2:enough b c=true):enough a c=true:=by
 have ha:=zfE.1 (zp0 h1).1;have hb:=zfE.1 (zp0 h1).2;have hc:=zfE.1 (zp0 h2).2;rcases ha with rfl|rfl|rfl|rfl<;>rcases hb with rfl|rfl|rfl|rfl<;>rcases hc with rfl|rfl|rfl|rfl<;>revert h1 h2<;>decide
theorem zTV {a b n:Int}(hn:n=1\/n=2)(h1:enough a n=true)(h2:enough b n=true):zdx a b≠0/\enough (zdx a b) n=true:=by
 have ha:=zfE.1 (zp0 h1).1;have hb:=zfE.1 (zp0 h2).1;rcases hn with rfl|rfl<;>rcases ha with rfl|rfl|rfl|rfl<;>rcases hb with rfl|rfl|rfl|rfl<;>revert h1 h2<;>decide
theorem both_ok (a b:Int):zcE (zdx a b)=true:=by
 unfold zdx;cases ha:zcE a with
 | false=>rfl
 | true =>
  cases hb:zcE b with
  | false=>rfl
  | true =>
   have ha:=zfE.1 ha;have hb:=zfE.1 hb;rcases ha with rfl|rfl|rfl|rfl<;>rcases hb with rfl|rfl|rfl|rfl<;>decide
theorem zT2 {a:Int}(h:zcE a=true):enough a a=true:=by
 rcases zfE.1 h with rfl|rfl|rfl|rfl<;>decide
theorem zpb {n:Int}(hn:n=1\/n=2):enough 0 n=false:=by rcases hn with rfl|rfl<;>decide
theorem zWx {s:Slot}{o:List Slot}(h1:s.Page≠-1)(h2:(zbm o s.Page).Page≠-1):zbn s o=bif ieq (zdx s.Rights (zbm o s.Page).Rights) 0 then noSlot else ⟨(zbm o s.Page).Page,zdx s.Rights (zbm o s.Page).Rights⟩:=by
 unfold zbn;rw[zbH.2 h1,zbH.2 h2];rfl
theorem zoi {s:Slot}{o:List Slot}{n:Int}(hn:n=1\/n=2)(h:enough (zbn s o).Rights n=true):s.Page≠-1/\(zbm o s.Page).Page≠-1/\(zbn s o).Page=(zbm o s.Page).Page:=by
 unfold zbn at h ⊢
 by_cases e1:s.Page = -1
 .rw [zbi.2 e1,cond_true]at h;rw[show noSlot.Rights=0 from rfl,zpb hn]at h;cases h
 .rw [zbH.2 e1,cond_false]at h ⊢
  by_cases e2:(zbm o s.Page).Page = -1
  .rw [zbi.2 e2,cond_true]at h;rw[show noSlot.Rights=0 from rfl,zpb hn]at h;cases h
  .rw [zbH.2 e2,cond_false]at h ⊢
   by_cases e3:zdx s.Rights (zbm o s.Page).Rights=0
   .rw [zbi.2 e3,cond_true]at h;rw[show noSlot.Rights=0 from rfl,zpb hn]at h;cases h
   .rw [zbH.2 e3];exact ⟨e1,e2,rfl⟩
theorem zQL {s:Slot}{o:List Slot}{n:Int}(hn:n=1\/n=2)(h1:s.Page≠-1)(h2:(zbm o s.Page).Page≠-1)(h3:enough s.Rights n=true)(h4:enough (zbm o s.Page).Rights n=true) :
 (zbn s o).Page=(zbm o s.Page).Page/\enough (zbn s o).Rights n=true:=by
 have:=zTV hn h3 h4;rw[zWx h1 h2,zbH.2 this.1];exact ⟨rfl,this.2⟩
theorem zWy (s:Slot)(o:List Slot):zcE (zbn s o).Rights=true:=by
 unfold zbn;cases ieq s.Page (-1)<;>cases ieq (zbm o s.Page).Page (-1)<;>cases ieq (zdx s.Rights (zbm o s.Page).Rights) 0<;>first|rfl|exact both_ok _ _
theorem zxi {b:List Entry}{t p:Int}{e:Entry}:e∈zco b t p↔e∈b/\¬ (e.Tag=t/\e.Page=p):=by
 unfold zco;rw[kT];refine and_congr Iff.rfl ?_;unfold zA7
 by_cases h:e.Tag=t
 .rw [show ine e.Tag t=false by simp[ine,h],cond_false,zvZ];simp[h]
 .rw [zvZ.2 h];simp[h]
theorem z1K {b:List Entry}{e x:Entry}(h:x∈zsA b e):x∈b\/x=e:=by
 unfold zsA ap at h;have:x∈zco b e.Tag e.Page++[e]:=by
  cases hc:igt (ln (zco b e.Tag e.Page++[e])) 6 with
  | true=>rw[hc,cond_true]at h;exact kK h
  | false=>rw[hc,cond_false]at h;exact h
 rcases jO.1 this with h|h
 .exact .inl (zxi.1 h).1
 .exact .inr (qF.1 h)
theorem z7g {n:Nat}(h:n<=100):wsub .i64 (n:Int) 6=(n:Int)-6:=by
 unfold wsub IntKind.wrap;simp[IntKind.signed,IntKind.bits];omega
theorem zVr {b:List Entry}(h:zex b=true)(e:Entry):zex (zsA b e)=true:=by
 have h1:=zCo.1 h;have hl:(zco b e.Tag e.Page).length<=6:=jC (k8 _ _) h1.2;have hp:(zco b e.Tag e.Page++[e]).Pairwise (fun y x=>sameKey x y=false):=by
  rw[List.pairwise_append];refine ⟨h1.1.sublist List.filter_sublist,List.pairwise_singleton _ _,fun x hx y hy=>?_⟩;rw[qF.1 hy];have:=(zxi.1 hx).2;unfold sameKey
  by_cases e1:e.Tag=x.Tag
  .rw [zbi.2 e1,cond_true,zbH];exact fun e2=>this ⟨e1.symm,e2.symm⟩
  .rw [zbH.2 e1];rfl
 unfold zsA ap;cases hc:igt (ln (zco b e.Tag e.Page++[e])) 6 with
 | true =>
  rw[cond_true,zCo];refine ⟨hp.sublist (List.drop_sublist _ _),?_⟩;unfold dp ln;rw[kP,uY,z7g (by omega),List.length_drop,kP,uY]
  omega
 | false =>
  rw[cond_false,zCo];refine ⟨hp,?_⟩;have:=j3 hc;unfold ln at this;omega
theorem zZs {h r:Host}{m:Int}(hm:hasB m (ln h.Mons)=true){y:Mon}(hM:r.Mons=up h.Mons m y)(hmem:r.Memory=h.Memory)(k:KeepP (ix h.Mons m mZ) y)(g:y.Guests=(ix h.Mons m mZ).Guests)(o:y.Outs=(ix h.Mons m mZ).Outs)(p:y.Pending=(ix h.Mons m mZ).Pending)(t:y.Traps=(ix h.Mons m mZ).Traps)(w:y.Own=(ix h.Mons m mZ).Own):Like h r:=by
 have e:∀{α:Type} (F:Mon->α),F y=F (ix h.Mons m mZ)->∀i,hasB i (ln h.Mons)=true->F (ix r.Mons i mZ)=F (ix h.Mons i mZ):=by
  intro α F hF i hi;rw[hM]
  by_cases e:m=i
  .subst e;rw[zV hm];exact hF
  .rw [zbj (zq.1 hm).1 (zq.1 hi).1 e]
 exact ⟨by rw[hM,zbz],e Mon.Guests g,e Mon.Outs o,e Mon.Pending p,e Mon.Traps t,e Mon.Own w,fun i q _ _=>zJS hm hM hmem k i q⟩
theorem z1M {h:Host}(R:Rt h){m g:Int}(hm:hasB m (ln h.Mons)=true)(ht:hasB g (ln (ix h.Mons m mZ).Tables)=true){k:Kept}(hk:KOk k (ix (ix h.Mons m mZ).Guests g gZ).Live (ix h.Mons m mZ).Outer) :
 Rt { h with Mons:=up h.Mons m { ix h.Mons m mZ with Tables:=up (ix h.Mons m mZ).Tables g k } }:=by
 have key:∀e,zcA h e=true->zcA { h with Mons:=up h.Mons m { ix h.Mons m mZ with Tables:=up (ix h.Mons m mZ).Tables g k } } e=true:=by
  intro e he;obtain ⟨h1,h2,h3⟩:=ze5.1 he;rw[ze5]
  show hasB (zc2 e.Tag) (ln (up h.Mons m _))=true/\hasB (zdK e.Tag) (ln (ix (up h.Mons m _) (zc2 e.Tag) mZ).Guests)=true/\below' _ (zbn (zbm (ix (ix (up h.Mons m _) (zc2 e.Tag) mZ).Guests (zdK e.Tag) gZ).Live e.Page) (ix (up h.Mons m _) (zc2 e.Tag) mZ).Outer)=true
  rw[zdc];refine ⟨h1,?_⟩
  by_cases hc:m=zc2 e.Tag
  .rw [<- hc]at h1 h2 h3 ⊢;rw[zV hm];exact ⟨h2,h3⟩
  .rw [zbj (zq.1 hm).1 (zq.1 h1).1 hc];exact ⟨h2,h3⟩
 refine ⟨fun i hi=>?_,fun e he=>key e (R.e1 e he),fun e he=>key e (R.e2 e he)⟩
 show TOk (ix (up h.Mons m _) i mZ)
 have hi':hasB i (ln h.Mons)=true:=by
  have:hasB i (ln (up h.Mons m { ix h.Mons m mZ with Tables:=up (ix h.Mons m mZ).Tables g k }))=true:=hi
  rwa [zdc] at this
 by_cases hc:m=i
 .subst hc;rw[zV hm];intro j hj
  by_cases e:g=j
  .subst e
   show KOk (ix (up _ g k) g kZ) _ _
   rw[zV ht];exact hk
  .show KOk (ix (up _ g k) j kZ) _ _
   rw[zbj (zq.1 ht).1 (zq.1 hj).1 e];exact R.t m hm j hj
 .rw [zbj (zq.1 hm).1 (zq.1 hi').1 hc];exact R.t i hi'
theorem z1B {h:Host}(H:HOk h){m g:Int}(hm:hasB m (ln h.Mons)=true)(ht:hasB g (ln (ix h.Mons m mZ).Tables)=true){k:Kept}(hk:Rt h->KOk k (ix (ix h.Mons m mZ).Guests g gZ).Live (ix h.Mons m mZ).Outer) :
 Op h { h with Mons:=up h.Mons m { ix h.Mons m mZ with Tables:=up (ix h.Mons m mZ).Tables g k } }:=by
 have X:=H.mon hm;have kp:KeepP (ix h.Mons m mZ) { ix h.Mons m mZ with Tables:=up (ix h.Mons m mZ).Tables g k }:=⟨rfl,rfl⟩;exact ⟨zRm H hm kp (zjP X kp rfl (zbz _ _ _) rfl X.outs X.pend X.tr X.own X.gs),zZs (y:={ ix h.Mons m mZ with Tables:=up (ix h.Mons m mZ).Tables g k }) hm rfl rfl kp rfl rfl rfl rfl rfl,fun R=>z1M R hm ht (hk R)⟩
theorem zJd {k:Kept}{inner outer:List Slot}(h:KOk k inner outer)(p:Int):KOk (filled k inner outer p) inner outer:=by
 unfold filled zdb;cases h1:hasB p (ln k.Known) with
 | false=>exact h
 | true =>
  have hs:hasB p (ln k.Slots)=true:=by unfold ln at h1 ⊢;rw[h.l2,<- h.l1];exact h1
  have hi:hasB p (ln inner)=true:=by unfold ln at h1 ⊢;rw[<- h.l1];exact h1
  rw[cond_true,hs,cond_true,hi,cond_true];refine ⟨by rw[zbz];exact h.l1,by rw[zbz];exact h.l2,fun i hi'=>?_⟩
  by_cases e:p=i
  .subst e
   show ix (up _ p _) p sZ=bif ix (up _ p true) p false then _ else _
   rw[zV hs,zV h1];rfl
  .show ix (up _ p _) i sZ=bif ix (up _ p true) i false then _ else _
   rw[zbj (zq.1 hs).1 (zq.1 hi').1 e,zbj (zq.1 hs).1 (zq.1 hi').1 e];exact h.at' i hi'
theorem z5j {h:Host}(H:HOk h){m g:Int}(hm:hasB m (ln h.Mons)=true)(hg:hasB g (ln (ix h.Mons m mZ).Guests)=true)(page:Int):Op h (zdj h m g page) :=
 z1B H hm (by unfold ln;rw[(H.mon hm).gt];exact hg) fun R=>zJd (R.t m hm g hg) page
theorem zYf {k:Kept}{inner outer:List Slot}(h:KOk k inner outer){p:Int}(hp:hasB p (ln inner)=true):zeH k p=bif ix k.Known p false then zbn (ix inner p sZ) outer else noSlot:=by
 have h1:hasB p (ln k.Known)=true:=by unfold ln at hp ⊢;rw[h.l1];exact hp
 have h2:hasB p (ln k.Slots)=true:=by unfold ln at hp ⊢;rw[h.l2];exact hp
 unfold zeH zjN zdb;rw[h1,h2,cond_true,cond_true,h.at' p hp];cases ix k.Known p false<;>rfl
theorem zWn {k:Kept}{inner outer:List Slot}(h:KOk k inner outer){p:Int}(hp:hasB p (ln inner)=true):zeH (filled k inner outer p) p=zbn (ix inner p sZ) outer:=by
 rw[zYf (zJd h p) hp];have h1:hasB p (ln k.Known)=true:=by unfold ln at hp ⊢;rw[h.l1];exact hp
 have h2:hasB p (ln k.Slots)=true:=by unfold ln at hp ⊢;rw[h.l2];exact hp
 have:ix (filled k inner outer p).Known p false=true:=by
  unfold filled zdb;rw[h1,h2,hp];exact zV h1 _ _
 rw[this];rfl
theorem z6s {h:Host}(H:HOk h){m g page:Int}(io:Bool)(he:Rt h->zcA h (zQd h m g page)=true):Op h (ztS h m g page io):=by
 have hl:∀(b1 b2:List Entry),Like h ⟨h.Memory,h.Mons,b1,b2⟩:=fun _ _=>⟨rfl,fun _ _=>rfl,fun _ _=>rfl,fun _ _=>rfl,fun _ _=>rfl,fun _ _=>rfl,fun _ _ _ _=>rfl⟩;have key:∀(b:List Entry),(∀e∈b,zcA h e=true)->Rt h->∀e∈zsA b (zQd h m g page),zcA h e=true:=by
  intro b hb R e hx;rcases z1K hx with hx|hx
  .exact hb e hx
  .rw [hx];exact he R
 unfold ztS;cases io
 .exact ⟨⟨H.m12,H.pgs,H.n1,H.n3,zVr H.b1 _,H.b2,H.mons,H.uq⟩,hl _ _,fun R=>⟨R.t,fun e hx=>key _ R.e1 R e hx,R.e2⟩⟩
 .exact ⟨⟨H.m12,H.pgs,H.n1,H.n3,H.b1,zVr H.b2 _,H.mons,H.uq⟩,hl _ _,fun R=>⟨R.t,R.e1,fun e hx=>key _ R.e2 R e hx⟩⟩
theorem z1f {b:List Entry}{t p:Int}{e:Entry}(h:zCw b t p=some e):e∈b/\e.Tag=t/\e.Page=p:=by
 unfold zCw at h;have h1:=List.find?_some h;rw[zbW,zbi,zbi]at h1;exact ⟨uL h,h1⟩
theorem ziI {h:Host}{m g:Int}:zbI h m g=true↔HOk h/\hasB m (ln h.Mons)=true/\hasB g (ln (ix h.Mons m mZ).Guests)=true:=by
 unfold zbI;rw[zbW,zbW,zff]
structure GOk (x:Guest):Prop where
 prog:zcP x.Prog=true
 a:win x.A 0 99=true
 pc:win x.Pc 0 12=true
 w:zcw x.Written 4 8=true
 l:zcw x.Live 4 8=true
 ctl:zgK x.Ctl=true
 pend:zcJ x.Pending=true
 ex:zgy x.Exit=true
 seen:ile (ln x.Seen) 40=true
theorem zrT {x:Guest}:zcT x=true↔GOk x:=by
 unfold zcT;simp only[qD];exact ⟨fun ⟨a,b,c,d,e,f,g,h,i⟩=>⟨a,b,c,d,e,f,g,h,i⟩,fun ⟨a,b,c,d,e,f,g,h,i⟩=>⟨a,b,c,d,e,f,g,h,i⟩⟩
theorem zZ9 {s:Slot}:zde s 8=true↔s=noSlot\/(0<=s.Page/\s.Page<=7/\1<=s.Rights/\s.Rights<=3):=by
 unfold zde;rw[zr6,zkY,zmJ];have:wsub .i64 8 1=7:=by decide
 simp only[this,zr6,zcm];simp[igt];constructor
 .rintro (h|⟨h,⟨h1,h2⟩,h3⟩)
  .exact .inl h
  .exact .inr ⟨h1,h2,h3⟩
 .intro h
  by_cases hs:s=noSlot
  .exact .inl hs
  .rcases h with h|⟨h1,h2,h3⟩
   .exact .inl h
   .exact .inr ⟨hs,⟨h1,h2⟩,h3⟩
theorem HOk.guest {h:Host}(H:HOk h){m g:Int}(hm:hasB m (ln h.Mons)=true)(hg:hasB g (ln (ix h.Mons m mZ).Guests)=true):GOk (ix (ix h.Mons m mZ).Guests g gZ):=zrT.1 ((H.mon hm).gs _ (zku hg _))
structure Walked (l:List Slot) (p n q:Int):Prop where
 hp:hasB p (ln l)=true
 pg:(ix l p sZ).Page=q
 q8:hasB q 8=true
 en:enough (ix l p sZ).Rights n=true
theorem walked {x:Guest}(X:GOk x){p n:Int}(hw:ze0 x.Live p n=true):Walked x.Live p n (zcj x.Live p n):=by
 have e:zcj x.Live p n=(zbm x.Live p).Page:=by unfold zcj;rw[hw];rfl
 unfold ze0 at hw
 by_cases h1:(zbm x.Live p).Page = -1
 .rw [zbi.2 h1]at hw;cases hw
 .rw [zbH.2 h1,cond_false,zbW]at hw;have hp:hasB p (ln x.Live)=true:=by
   cases hp:hasB p (ln x.Live) with
   | true=>rfl
   | false=>exact absurd (by unfold zbm;rw[hp];rfl) h1
  rw[zmI hp] at e h1 hw;rw[e];have hs:=zZ9.1 ((zpT.1 X.l).1 _ (zku hp sZ));refine ⟨hp,rfl,?_,hw.1⟩;rcases hs with hs|hs
  .rw [hs]at h1;exact absurd rfl h1
  .exact zq.2 (by omega)
structure Looked (h r:Host) (m g page need q host:Int):Prop where
 op:Op h r
 inn:(ix (ix r.Mons m mZ).Outer q sZ).Page=host
 ne:host≠-1
 en:enough (zbn (ix (ix (ix h.Mons m mZ).Guests g gZ).Live page sZ) (ix r.Mons m mZ).Outer).Rights need=true
 cp:(zbn (ix (ix (ix h.Mons m mZ).Guests g gZ).Live page sZ) (ix r.Mons m mZ).Outer).Page=host
 dk:∀k,hasB k 8=true->k≠q->ix (ix r.Mons m mZ).Dirty k false=ix (ix h.Mons m mZ).Dirty k false
 dq:need=2->ix (ix r.Mons m mZ).Dirty q false=true
 d1:need=1->(ix r.Mons m mZ).Dirty=(ix h.Mons m mZ).Dirty
 dm:∀i,hasB i (ln h.Mons)=true->i≠m->(ix r.Mons i mZ).Dirty=(ix h.Mons i mZ).Dirty
theorem zN5 {h:Host}(S:Safe h){m g page need q:Int}(hm:hasB m (ln h.Mons)=true)(hg:hasB g (ln (ix h.Mons m mZ).Guests)=true)(hn:need=1\/need=2)(W:Walked (ix (ix h.Mons m mZ).Guests g gZ).Live page need q)(io:Bool)(ha:zeH (zce h m g) page=zbn (ix (ix (ix h.Mons m mZ).Guests g gZ).Live page sZ) (ix h.Mons m mZ).Outer)(he:enough (zeH (zce h m g) page).Rights need=true) :
 Op h (zg7 h m g page io).1/\(zg7 h m g page io).2=((ix (ix h.Mons m mZ).Outer q sZ).Page,true)/\(ix (ix h.Mons m mZ).Outer q sZ).Page≠-1/\(zg7 h m g page io).1.Mons=h.Mons:=by
 rw[ha]at he;have hc:=zoi hn he;rw[W.pg,zmI ((S.ok.mon hm).hasO W.q8)]at hc;refine ⟨z6s S.ok io fun R=>?_,?_,hc.2.1,?_⟩
 .obtain ⟨t1,t2⟩:=S.ok.tag hm hg;obtain ⟨b1,b2,_⟩:=zTl t1 t2;rw[ze5]
  show hasB (zc2 (zel m g)) _=true/\hasB (zdK (zel m g)) (ln (ix h.Mons (zc2 (zel m g)) mZ).Guests)=true/\below' ⟨(zeH (zce h m g) page).Page,(zeH (zce h m g) page).Rights⟩ (zbn (zbm (ix (ix h.Mons (zc2 (zel m g)) mZ).Guests (zdK (zel m g)) gZ).Live page) (ix h.Mons (zc2 (zel m g)) mZ).Outer)=true
  rw[b1,b2,zmI W.hp,ha];exact ⟨hm,hg,zpY.2 (.inr ⟨rfl,zT2 (zWy _ _)⟩)⟩
 .show ((zeH (zce h m g) page).Page,true)=_
  rw[ha,hc.2.2]
 .show (ztS h m g page io).Mons=_
  unfold ztS;cases io<;>rfl
theorem zSq {h:Host}(S:Safe h){m g page need q:Int}(hm:hasB m (ln h.Mons)=true)(hg:hasB g (ln (ix h.Mons m mZ).Guests)=true)(hn:need=1\/need=2)(W:Walked (ix (ix h.Mons m mZ).Guests g gZ).Live page need q)(io:Bool){b:List Entry}(hb:∀e∈b,zcA h e=true)(hd:need=2->ix (ix h.Mons m mZ).Dirty q false=true) :
 Looked h (zg6 h b m g page need q io).1 m g page need q (zg6 h b m g page need q io).2.1/\(zg6 h b m g page need q io).2.2=true:=by
 have X:=S.ok.mon hm;have hq8:=W.q8;have hsl:=zmI (X.hasO W.q8);unfold zg6;cases hf:zgR b m g page need with
 | true =>
  rw[cond_true];unfold zgR at hf;cases hfb:zp3 b m g page with
  | none=>rw[hfb]at hf;cases hf
  | some e =>
   rw[hfb]at hf;have hf':enough e.Rights need=true:=hf;obtain ⟨f1,f2,f3⟩:=z1f hfb;obtain ⟨t1,t2⟩:=S.ok.tag hm hg;obtain ⟨b1,b2,_⟩:=zTl t1 t2;obtain ⟨_,_,h3⟩:=ze5.1 (hb e f1);rw[f2,b1,b2,f3,zmI W.hp]at h3;have hne:(⟨e.Host,e.Rights⟩:Slot)≠noSlot:=fun hc=>by
    have:e.Rights=0:=congrArg Slot.Rights hc;rw[this,zpb hn]at hf';cases hf'
   rcases zpY.1 h3 with h3|⟨h3,h4⟩
   .exact absurd h3 hne
   .have h5:=zQ8 h4 hf';have hc:=zoi hn h5;rw[W.pg,hsl]at hc;have h3':e.Host=_:=h3;refine ⟨⟨Op.refl S.ok,hc.2.2.symm.trans h3.symm,?_,h5,h3.symm,fun _ _ _=>rfl,hd,fun _=>rfl,fun _ _ _=>rfl⟩,rfl⟩
    show e.Host≠-1
    rw[h3',hc.2.2];exact hc.2.1
 | false =>
  rw[cond_false];have hKO:=S.rt.t m hm g hg;cases hs:zeu h m g page need with
  | false =>
   rw[cond_false];have hs':ix (zce h m g).Known page false=true/\enough (zeH (zce h m g) page).Rights need=true:=by
    unfold zeu at hs;cases hk:zjN (zce h m g) page with
    | false=>rw[hk]at hs;cases hs
    | true =>
     rw[hk,cond_true]at hs;refine ⟨?_,?_⟩
     .unfold zjN at hk;cases hh:zdb (zce h m g) page with
      | false=>rw[hh]at hk;cases hk
      | true=>rw[hh]at hk;exact hk
     .cases hz:ieq (zeH (zce h m g) page).Page (-1) with
      | true=>rw[hz]at hs;cases hs
      | false=>rw[hz]at hs;simpa using hs
   have ha:zeH (zce h m g) page=zbn (ix (ix (ix h.Mons m mZ).Guests g gZ).Live page sZ) (ix h.Mons m mZ).Outer:=by
    have h0:=zYf hKO W.hp;have h1:ix (ix (ix h.Mons m mZ).Tables g kZ).Known page false=true:=hs'.1;rw[h1]at h0;exact h0
   obtain ⟨o1,o2,o3,o4⟩:=zN5 S hm hg hn W io ha hs'.2;rw[o2];have he:=hs'.2;rw[ha]at he;have hc:=zoi hn he;rw[W.pg,hsl]at hc;exact ⟨⟨o1,by rw[o4],o3,by rw[o4];exact he,by rw[o4];exact hc.2.2,fun _ _ _=>by rw[o4],fun e=>by rw[o4];exact hd e,fun _=>by rw[o4],fun _ _ _=>by rw[o4]⟩,rfl⟩
  | true =>
   rw[cond_true];have M:=zOf S.ok (m:=m) (p:=q) need hm hq8;have hm1:hasB m (ln (mended h m q need).Mons)=true:=by rw[M.op.like.has];exact hm
   have hgs:(ix (mended h m q need).Mons m mZ).Guests=(ix h.Mons m mZ).Guests:=M.op.like.g m hm;have hg1:hasB g (ln (ix (mended h m q need).Mons m mZ).Guests)=true:=by rw[hgs];exact hg
   have S1:Safe (mended h m q need):=M.op.safe S;have F:=z5j S1.ok hm1 hg1 page;have S2:Safe (zdj (mended h m q need) m g page):=F.safe S1;have hm2:hasB m (ln (zdj (mended h m q need) m g page).Mons)=true:=by rw[F.like.has];exact hm1
   have e2:ix (zdj (mended h m q need) m g page).Mons m mZ={ ix (mended h m q need).Mons m mZ with Tables:=up (ix (mended h m q need).Mons m mZ).Tables g (filled (zce (mended h m q need) m g) (zcs (mended h m q need) m g) (ix (mended h m q need).Mons m mZ).Outer page) }:=zV hm1 _ _;have hg2:hasB g (ln (ix (zdj (mended h m q need) m g page).Mons m mZ).Guests)=true:=by rw[e2];exact hg1
   have hgs2:(ix (zdj (mended h m q need) m g page).Mons m mZ).Guests=(ix h.Mons m mZ).Guests:=by rw[e2];exact hgs
   have W2:Walked (ix (ix (zdj (mended h m q need) m g page).Mons m mZ).Guests g gZ).Live page need q:=by rw[hgs2];exact W
   have ha:zeH (zce (zdj (mended h m q need) m g page) m g) page=zbn (ix (ix (ix (zdj (mended h m q need) m g page).Mons m mZ).Guests g gZ).Live page sZ) (ix (zdj (mended h m q need) m g page).Mons m mZ).Outer:=by
    have:zce (zdj (mended h m q need) m g page) m g=filled (zce (mended h m q need) m g) (zcs (mended h m q need) m g) (ix (mended h m q need).Mons m mZ).Outer page:=by
     unfold zce;rw[e2];exact zV (by unfold ln;rw[(S1.ok.mon hm1).gt];exact hg1) _ _
    rw[this];refine (zWn (p:=page) (S1.rt.t m hm1 g hg1) (by rw[hgs];exact W.hp)).trans ?_
    rw[e2]
   have hOu:(ix (zdj (mended h m q need) m g page).Mons m mZ).Outer=(ix (mended h m q need).Mons m mZ).Outer:=by rw[e2]
   have hsl1:=zmI ((S1.ok.mon hm1).hasO hq8);have hfull:=zQL (s:=ix (ix (ix h.Mons m mZ).Guests g gZ).Live page sZ) (o:=(ix (mended h m q need).Mons m mZ).Outer) hn (by rw[W.pg];have:=zq.1 hq8;omega) (by rw[W.pg,hsl1];exact M.inn) W.en (by
    rw[W.pg,hsl1];rcases hn with rfl|rfl
    .rcases (S1.ok.mon hm1).enough1 hq8 M.inn with e|e<;>rw [e]<;>decide
    .rw [M.ri (by decide)];decide)
   have he:enough (zeH (zce (zdj (mended h m q need) m g page) m g) page).Rights need=true:=by
    rw[ha,hgs2,hOu];exact hfull.2
   obtain ⟨o1,o2,o3,o4⟩:=zN5 S2 hm2 hg2 hn W2 io ha he;rw[o2];have hcp:=hfull.1;rw[W.pg,hsl1]at hcp;refine ⟨⟨(M.op.trans F).trans o1,by rw[o4],o3,by rw[o4,hOu];exact hfull.2,by rw[o4,hOu];exact hcp,fun k hk hc=>?_,fun e=>?_,fun e=>?_,fun i hi hc=>?_⟩,rfl⟩
   .rw [o4,e2];exact M.dk k hk hc
   .rw [o4,e2];exact M.dt (by rw[e];decide)
   .rw [o4,e2];exact M.d0 (by rw[e];decide)
   .rw [o4]
    show (ix (up (mended h m q need).Mons m _) i mZ).Dirty=_
    rw[zbj (zq.1 hm).1 (zq.1 hi).1 (Ne.symm hc)];exact M.dm i hi hc
theorem zEB {n:Int}:ziK n=true↔n=1\/n=2:=by
 unfold ziK
 by_cases h:n=1
 .rw [zbi.2 h];simp[h]
 .rw [zbH.2 h,cond_false,zbi];simp[h]
theorem zph {h:Host}{m g page need:Int}:zbU h m g page need=true↔zbI h m g=true/\(need=1\/need=2)/\ze0 (zcs h m g) page need=true:=by
 unfold zbU;rw[zbW,zbW,zEB]
theorem zN7 {h:Host}(S:Safe h){m g page need:Int}(io:Bool)(hl:zbU h m g page need=true){b:List Entry}(hb:∀e∈b,zcA h e=true) :
 Looked h (lookOf h b m g page need io).1 m g page need (zcj (zcs h m g) page need) (lookOf h b m g page need io).2.1/\(lookOf h b m g page need io).2.2=true:=by
 obtain ⟨h1,hn,hw⟩:=zph.1 hl;obtain ⟨_,hm,hg⟩:=ziI.1 h1;have W:=walked (S.ok.guest hm hg) hw;unfold lookOf;rw[hl,cond_true];rcases hn with rfl|rfl
 .rw [show ieq 1 2=false by decide,cond_false]
  exact zSq S hm hg (.inl rfl) W io hb (fun e=>absurd e (by decide))
 .rw [show ieq 2 2=true by decide,cond_true]
  obtain ⟨k1,k2⟩:=zJN S.ok hm (zcj (zcs h m g) page 2);have hm1:hasB m (ln (zbu h m (zcj (zcs h m g) page 2)).Mons)=true:=by rw[k1.like.has];exact hm
  have e1:ix (zbu h m (zcj (zcs h m g) page 2)).Mons m mZ={ ix h.Mons m mZ with Dirty:=up (ix h.Mons m mZ).Dirty (zcj (zcs h m g) page 2) true }:=zV hm _ _;have hD:=(S.ok.mon hm).hasD W.q8;obtain ⟨L,hL⟩:=zSq (k1.safe S) hm1 (g:=g) (page:=page) (need:=2) (q:=zcj (zcs h m g) page 2) (by rw[e1];exact hg) (.inr rfl) (by rw[e1];exact W) io (b:=b) (fun e he=>by
   obtain ⟨a1,a2,a3⟩:=ze5.1 (hb e he);rw[ze5];have hi:hasB (zc2 e.Tag) (ln (zbu h m (zcj (zcs h m g) page 2)).Mons)=true:=by rw[k1.like.has];exact a1
   refine ⟨hi,by rw[k1.like.g _ a1];exact a2,?_⟩
   rw[k1.like.g _ a1];have:(ix (zbu h m (zcj (zcs h m g) page 2)).Mons (zc2 e.Tag) mZ).Outer=(ix h.Mons (zc2 e.Tag) mZ).Outer:=by
    show (ix (up h.Mons m _) _ mZ).Outer=_
    by_cases hc:m=zc2 e.Tag
    .rw [<- hc,zV hm]
    .rw [zbj (zq.1 hm).1 (zq.1 a1).1 hc]
   rw[this];exact a3) (fun _=>by rw[e1];exact zV hD _ _)
  refine ⟨⟨k1.trans L.op,L.inn,L.ne,?_,?_,fun k hk hc=>?_,L.dq,fun e=>absurd e (by decide),fun i hi hc=>?_⟩,hL⟩
  .have:=L.en;rw[e1] at this;exact this
  .have:=L.cp;rw[e1] at this;exact this
  .rw [L.dk k hk hc,e1];exact zbj (zq.1 W.q8).1 (zq.1 hk).1 (Ne.symm hc) _ _
  .rw [L.dm i (by rw[k1.like.has];exact hi) hc]
   show (ix (up h.Mons m _) i mZ).Dirty=_
   rw[zbj (zq.1 hm).1 (zq.1 hi).1 (Ne.symm hc)]
theorem zNb {x y:Int}(h1 : -9223372036854775808<=x+y)(h2:x+y<=9223372036854775807):zG .i64 x y=x+y:=by
 unfold zG;simp only[IntKind.wrap,IntKind.signed,IntKind.bits];simp;omega
theorem zIg {n:Nat}{P:Int->Prop}(h:∀i:Fin n,P ((i.val:Nat):Int)){x:Int}(h0:0<=x)(h1:x<n):P x:=by
 have:=h ⟨x.toNat,by omega⟩
 simpa [show ((x.toNat:Nat):Int)=x by omega] using this
theorem zST {p:Int}:zcJ p=true↔0<=p/\p<=255:=by unfold zcJ;exact zcm
theorem zOm {p:Int}(h:zcJ p=true):zcJ (zi2 p)=true:=by
 have h':=zST.1 h;exact zIg (n:=256) (P:=fun x=>zcJ (zi2 x)=true) (by decide +kernel) h'.1 (by omega)
theorem zOl {p:Int}(h:zcJ p=true)(n:Int):zcJ (zrv p n)=true:=by
 unfold zrv zfD;rw[h,cond_true];cases hn:win n 0 7 with
 | false=>exact h
 | true =>
  rw[cond_true];have h':=zST.1 h;have hn':=zcm.1 hn;exact zIg (n:=256) (P:=fun x=>∀k,0<=k->k<(8:Int)->zcJ (wor .i64 x (zn5 .i64 1 k))=true) (fun i k h0 h1=>zIg (n:=8) (P:=fun k=>zcJ (wor .i64 ((i.val:Nat):Int) (zn5 .i64 1 k))=true) (by revert i;decide +kernel) h0 h1) h'.1 (by omega) n hn'.1 (by omega)
structure GKeep (x y:Guest):Prop where
 ok:GOk y
 live:y.Live=x.Live
theorem zW1 {x:Guest}(X:GOk x){c:Int}(hc:win c 0 12=true):GOk { x with Pc:=c }:=⟨X.prog,X.a,hc,X.w,X.l,X.ctl,X.pend,X.ex,X.seen⟩
theorem zW0 {x:Guest}(X:GOk x){c:Int}(hc:win c 0 99=true):GOk { x with A:=c }:=⟨X.prog,hc,X.pc,X.w,X.l,X.ctl,X.pend,X.ex,X.seen⟩
theorem zik {x:Guest}(X:GOk x):GKeep x (zbY x):=by
 unfold zbY;have hp:=zcm.1 X.pc;cases h:ige x.Pc 12 with
 | true=>exact ⟨zW1 X (by decide),rfl⟩
 | false =>
  have:¬ x.Pc≥12:=j3 h;refine ⟨zW1 X ?_,rfl⟩;rw[zNb (by omega) (by omega)]
  exact zcm.2 (by omega)
theorem zRe {x:Guest}(X:GOk x)(n:Int):GKeep x (saw x n):=by
 unfold saw;cases h:ilt (ln x.Seen) 40 with
 | false=>exact ⟨X,rfl⟩
 | true =>
  have:ln x.Seen<40:=qE h;refine ⟨⟨X.prog,X.a,X.pc,X.w,X.l,X.ctl,X.pend,X.ex,qK ?_⟩,rfl⟩;unfold ln ap at *;simp;omega
theorem zil {x:Guest}(X:GOk x){e:GExit}(he:zgy e=true):GKeep x (stopped x e):=⟨⟨X.prog,X.a,X.pc,X.w,X.l,X.ctl,X.pend,he,X.seen⟩,rfl⟩
theorem zVF {x:Guest}(X:GOk x){p:Int}(hp:zcJ p=true):GKeep x { x with Pending:=p }:=⟨⟨X.prog,X.a,X.pc,X.w,X.l,X.ctl,hp,X.ex,X.seen⟩,rfl⟩
theorem zVC {x:Guest}(X:GOk x)(b:Bool):GKeep x { x with Halted:=b }:=⟨⟨X.prog,X.a,X.pc,X.w,X.l,X.ctl,X.pend,X.ex,X.seen⟩,rfl⟩
theorem zVD {x:Guest}(X:GOk x):GKeep x (held x):=⟨(zik (zVC X true).ok).ok,(zik (zVC X true).ok).live⟩
theorem zY8 {x:Guest}(X:GOk x){v:Int}(hv:win v 0 99=true):GKeep x (loaded x v):=by
 have h1:=zRe (zW0 X hv) v;have h2:=zik h1.ok;exact ⟨h2.ok,h2.live.trans h1.live⟩
theorem zKR {x:Guest}(X:GOk x):GKeep x (interrupted x):=by
 unfold interrupted;cases zhC x with
 | false=>exact ⟨X,rfl⟩
 | true =>
  have h1:=zVF X (zOm X.pend);rw[cond_true];exact ⟨(zRe h1.ok _).ok,(zRe h1.ok _).live⟩
theorem zGO {p:List Ins}(h:zcP p=true)(i:Int):zds (zcb p i)=true:=by
 unfold zcb;cases hi:hasB i (ln p) with
 | false=>rfl
 | true =>
  unfold zcP at h;rw[zbW,qM]at h;exact h.1 _ (zku hi _)
theorem z6n {i:Ins}(h:zds i=true)(h3:i.Op=3\/i.Op=4):0<=i.X/\i.X<=15:=by
 unfold zds at h;rcases h3 with e|e<;>rw [e]at h<;>exact zcm.1 h
theorem zZh {i:Ins}(h:zds i=true)(h3:i.Op=5\/i.Op=6):0<=i.X/\i.X<=99:=by
 unfold zds at h;rcases h3 with e|e<;>rw [e]at h<;>exact zcm.1 h
theorem z6R {i:Ins}(h:zds i=true)(h3:i.Op=8):0<=i.X/\i.X<=11:=by
 unfold zds at h;rw[h3]at h;exact zcm.1 h
theorem z6Q {i:Ins}(h:zds i=true)(h3:i.Op=1):0<=i.X/\i.X<=99:=by
 unfold zds at h;rw[h3]at h;exact zcm.1 h
theorem zW2 {x:Guest}(X:GOk x):GKeep x (plainly x):=by
 have M:=zik X;have hi:=zGO X.prog x.Pc;unfold plainly;cases ine (zS x) 2 with
 | true=>exact ⟨X,rfl⟩
 | false =>
  rw[cond_false];cases win x.A 0 99 with
  | false=>exact M
  | true =>
   rw[cond_true];cases win (zcb x.Prog x.Pc).X 0 99 with
   | false=>exact M
   | true =>
    rw[cond_true]
    by_cases e1:(zcb x.Prog x.Pc).Op=1
    .rw [zbi.2 e1,cond_true];exact ⟨zW0 M.ok (zcm.2 (z6Q hi e1)),M.live⟩
    .rw [zbH.2 e1,cond_false]
     by_cases e2:(zcb x.Prog x.Pc).Op=2
     .rw [zbi.2 e2,cond_true];refine ⟨zW0 M.ok ?_,M.live⟩;have h1:=zcm.1 X.a;have hx:0<=(zcb x.Prog x.Pc).X/\(zcb x.Prog x.Pc).X<=99:=by
       unfold zds at hi;rw[e2]at hi;exact zcm.1 hi
      rw[zcm];unfold zo4;rw[zNb (by omega) (by omega)]
      have h5:=Int.tmod_nonneg (a:=x.A+(zcb x.Prog x.Pc).X) 100 (by omega)
      have h6:=Int.tmod_lt_of_pos (x.A+(zcb x.Prog x.Pc).X) (show (0:Int)<100 by omega)
      omega
     .rw [zbH.2 e2,cond_false]
      by_cases e8:(zcb x.Prog x.Pc).Op=8
      .rw [zbi.2 e8,cond_true];cases ieq x.A 0 with
       | true =>
        have:=z6R hi e8;exact ⟨zW1 M.ok (zcm.2 (by omega)),M.live⟩
       | false=>exact M
      .rw [zbH.2 e8];exact M
theorem zru {c:List Int}:zb6 c=true↔(∀x∈c,win x 0 99=true)/\ln c=4:=by
 unfold zb6;rw[zbW,qM,zbi]
theorem zlq (h:Host)(m:Int):∀(n i:Nat),(zcc h m n i).length=n
 | 0,_=>rfl
 | n+1,i=>by rw[zcc,qU,zlq h m n]
theorem zJT (h:Host)(m:Int):∀(n i k:Nat) (hk:k<(zcc h m n i).length),(zcc h m n i)[k]=zbR h m ((i+k:Nat):Int)
 | 0,i,k,hk=>by simp[zcc]at hk
 | n+1,i,k,hk=>by
  cases k with
  | zero=>rfl
  | succ k =>
   have:=zJT h m n (i+1) k (by simpa [zcc] using hk)
   simp only[zcc,List.getElem_cons_succ];rw[this]
   congr 1
   omega
theorem zoz {h:Host}{m q:Int}(hq:hasB q 8=true)(d:List Int):ix (zcc h m 8 0) q d=zbR h m q:=by
 have hq':=zq.1 hq;have hk:q.toNat<(zcc h m 8 0).length:=by rw[zlq];omega
 have:=zli hk d;rw[show ((q.toNat:Nat):Int)=q by omega] at this
 rw[this,zJT]
 congr 1
 omega
theorem zsy (h:Host)(m:Int):ln (zcc h m 8 0)=8:=by unfold ln;rw[zlq];rfl
theorem zxL {h:Host}(H:HOk h){m p:Int}(hm:hasB m (ln h.Mons)=true)(hp:hasB p 8=true):zb6 (zbR h m p)=true:=by
 have X:=H.mon hm;rw[<- zjV H hm hp]
 by_cases e:(ix (ix h.Mons m mZ).Outer p sZ).Page = -1
 .rw [zbi.2 e];exact ((zon (X.slot hp)).1 (X.fit p hp)).1 e
 .rw [zbH.2 e];exact zOj H.pgs _
theorem zwQ {h:Host}(H:HOk h){m:Int}(hm:hasB m (ln h.Mons)=true):zbX (zA h m)=true:=by
 have X:=H.mon hm;unfold zA;rw[hm,cond_true];unfold zbX zgL;rw[zbW,qM];refine ⟨X.gs,?_⟩;simp only[qD,zbW,qM,zbi,zcm];refine ⟨⟨fun c hc=>?_,zsy h m⟩,⟨?_,?_⟩,?_,X.pend⟩
 .obtain ⟨i,hi,rfl⟩:=zA6 hc [];rw[zsy]at hi;rw[zoz hi];exact zxL H hm hi
 .unfold ln;have:=X.g1;omega
 .unfold ln;have:=X.g2;omega
 .unfold ile ln;have:=X.outs;exact qK (by omega)
structure SimT (h r:Host) (m:Int) (f:Bare->Bare):Prop where
 safe:Safe r
 seen:∀i,zA r i=bif ieq i m then f (zA h i) else zA h i
 len:r.Mons.length=h.Mons.length
theorem SimT.trans {a b c:Host}{m:Int}{f g:Bare->Bare}(x:SimT a b m f)(y:SimT b c m g):SimT a c m (fun t=>g (f t)):=by
 refine ⟨y.safe,fun i=>?_,y.len.trans x.len⟩;rw[y.seen i,x.seen i];cases ieq i m<;>rfl
theorem Op.sim {h r:Host}(k:Op h r)(S:Safe h)(m:Int):SimT h r m id:=⟨k.safe S,fun i=>by rw[k.like.seen i];cases ieq i m<;>rfl,k.like.len⟩
theorem SimT.congr {h r:Host}{m:Int}{f g:Bare->Bare}(x:SimT h r m f)(e:f (zA h m)=g (zA h m)):SimT h r m g:=by
 refine ⟨x.safe,fun i=>?_,x.len⟩;rw[x.seen i]
 by_cases hi:i=m
 .subst hi;rw[zbi.2 rfl,cond_true,cond_true,e]
 .rw [zbH.2 hi];rfl
theorem SimT.has {h r:Host}{m:Int}{f:Bare->Bare}(x:SimT h r m f)(i:Int):hasB i (ln r.Mons)=hasB i (ln h.Mons):=by unfold ln;rw[x.len]
theorem SimT.refl {h:Host}(S:Safe h)(m:Int):SimT h h m id:=⟨S,fun i=>by cases ieq i m<;>rfl,rfl⟩
theorem zuL {h:Host}(S:Safe h){m q host:Int}(hm:hasB m (ln h.Mons)=true)(hq:hasB q 8=true)(hs:(ix (ix h.Mons m mZ).Outer q sZ).Page=host)(hne:host≠-1)(c v:Int) :
 SimT h { h with Memory:=zbx h.Memory host c v } m (fun b=>{ b with Memory:=zbx b.Memory q c v })/\cellAt h.Memory host c=cellAt (zA h m).Memory q c:=by
 have H:=S.ok;have X:=H.mon hm;have hsl:=X.slot hq;have hM:=z7p H hsl (by rw[hs];exact hne)
 rw[hs]at hM;have hpg:ix h.Memory host []=zbR h m q:=by
  have:=zjV H hm hq;rw[hs,zbH.2 hne,cond_false,zjT hM] at this;exact this
 have hlen:ln (zbR h m q)=4:=(zru.1 (zxL H hm hq)).2;have hmem:(zA h m).Memory=zcc h m 8 0:=by unfold zA;rw[hm];rfl
 have h1:zg8 h.Memory host c=hasB c 4:=by unfold zg8;rw[hM,cond_true,hpg,hlen]
 have h2:zg8 (zcc h m 8 0) q c=hasB c 4:=by unfold zg8;rw[zsy,hq,cond_true,zoz hq,hlen]
 have hcell:cellAt h.Memory host c=cellAt (zA h m).Memory q c:=by
  rw[hmem];unfold cellAt;rw[h1,h2,hpg,zoz hq]
 refine ⟨?_,hcell⟩;cases hc:hasB c 4 with
 | false =>
  have e1:zbx h.Memory host c v=h.Memory:=by unfold zbx;rw[h1,hc];rfl
  rw[e1];refine (SimT.refl S m).congr ?_
  show zA h m={ zA h m with Memory:=zbx (zA h m).Memory q c v }
  rw[hmem];have e2:zbx (zcc h m 8 0) q c v=zcc h m 8 0:=by unfold zbx;rw[h2,hc];rfl
  rw[e2,<- hmem]
 | true =>
  cases hv:win v 0 99 with
  | false =>
   have e1:zbx h.Memory host c v=h.Memory:=by unfold zbx;rw[h1,hc,hv];rfl
   rw[e1];refine (SimT.refl S m).congr ?_
   show zA h m={ zA h m with Memory:=zbx (zA h m).Memory q c v }
   rw[hmem];have e2:zbx (zcc h m 8 0) q c v=zcc h m 8 0:=by unfold zbx;rw[h2,hc,hv];rfl
   rw[e2,<- hmem]
  | true =>
   have e1:zbx h.Memory host c v=up h.Memory host (up (zbR h m q) c v):=by unfold zbx;rw[h1,hc,hv,hpg];rfl
   have e2:zbx (zcc h m 8 0) q c v=up (zcc h m 8 0) q (up (zbR h m q) c v):=by unfold zbx;rw[h2,hc,hv,zoz hq];rfl
   have hnew:zb6 (up (zbR h m q) c v)=true:=by
    have:=zru.1 (zxL H hm hq);rw[zru,zdc];refine ⟨fun x hx=>?_,this.2⟩;rcases qZ hx with h|h
    .exact this.1 x h
    .rw [h];exact hv
   have h0:=(zq.1 hM).1;have hH:HOk { h with Memory:=zbx h.Memory host c v }:=by
    rw[e1];refine ⟨by show (up _ _ _).length=12;rw[zbz];exact H.m12,fun x hx=>?_,H.n1,H.n3,H.b1,H.b2,H.mons,H.uq⟩
    rcases qZ hx with h|h
    .exact H.pgs x h
    .rw [h];exact hnew
   refine ⟨⟨hH,⟨S.rt.t,S.rt.e1,S.rt.e2⟩⟩,fun i=>?_,rfl⟩;have hne':∀i k,hasB i (ln h.Mons)=true->hasB k 8=true->¬ (i=m/\k=q)->zbR { h with Memory:=zbx h.Memory host c v } i k=zbR h i k:=by
    intro i k hi hk hnot;rw[<- zjV hH (m:=i) (p:=k) hi hk,<- zjV H hi hk]
    show (cond (ieq (ix (ix h.Mons i mZ).Outer k sZ).Page (-1)) _ (zb8 (zbx h.Memory host c v) _))=_
    by_cases e:(ix (ix h.Mons i mZ).Outer k sZ).Page = -1
    .rw [zbi.2 e];rfl
    .rw [zbH.2 e,cond_false,cond_false,e1];exact zA9 h0 (fun e=>hnot (H.uniq hi hk hm hq e hs h0))
   have heq':zbR { h with Memory:=zbx h.Memory host c v } m q=up (zbR h m q) c v:=by
    rw[<- zjV hH (m:=m) (p:=q) hm hq]
    show (cond (ieq (ix (ix h.Mons m mZ).Outer q sZ).Page (-1)) _ (zb8 (zbx h.Memory host c v) (ix (ix h.Mons m mZ).Outer q sZ).Page))=_
    rw[hs,zbH.2 hne,cond_false,e1];exact zA8 hM
   by_cases hi:i=m
   .subst hi;rw[zbi.2 rfl,cond_true];unfold zA
    show (cond (hasB i (ln h.Mons)) _ _)=_
    rw[hm,cond_true,cond_true]
    show Bare.mk (zcc { h with Memory:=zbx h.Memory host c v } i 8 0) _ _ _=Bare.mk (zbx (zcc h i 8 0) q c v) _ _ _
    congr 1
    rw[e2];refine zrX [] (by rw[zbz,zlq,zlq]) fun k hk=>?_
    rw[zsy]at hk;rw[zoz hk]
    by_cases e:q=k
    .subst e;rw[zV (by rw[zsy];exact hq),heq']
    .rw [zbj (zq.1 hq).1 (zq.1 hk).1 e,zoz hk];exact hne' i k hm hk (fun h=>e h.2.symm)
   .rw [zbH.2 hi,cond_false];unfold zA
    show (cond (hasB i (ln h.Mons)) _ _)=_
    cases hi2:hasB i (ln h.Mons) with
    | false=>rfl
    | true =>
     rw[cond_true,cond_true]
     show Bare.mk (zcc { h with Memory:=zbx h.Memory host c v } i 8 0) _ _ _=_
     rw[zpn 8 0 (fun j h1 h2=>hne' i (j:Int) hi2 (zq.2 (by omega)) (fun h=>hi h.1))]
theorem zoZ {h:Host}(S:Safe h){m g:Int}(hm:hasB m (ln h.Mons)=true)(hg:hasB g (ln (ix h.Mons m mZ).Guests)=true){y:Guest}(k:GKeep (gOf h m g) y):SimT h (zjW h m g y) m (fun b=>zdV b g y):=by
 have X:=S.ok.mon hm;have kp:KeepP (ix h.Mons m mZ) { ix h.Mons m mZ with Guests:=up (ix h.Mons m mZ).Guests g y }:=⟨rfl,rfl⟩;refine ⟨zuK S hm kp (zjP X kp (zbz _ _ _) rfl rfl X.outs X.pend X.tr X.own fun z hz=>?_) (zbz _ _ _) (fun j hj=>?_) rfl,fun i=>?_,zbz _ _ _⟩
 .rcases qZ hz with h|h
  .exact X.gs z h
  .rw [h];exact zrT.2 k.ok
 .show (ix (up (ix h.Mons m mZ).Guests g y) j gZ).Live=_
  by_cases e:g=j
  .subst e;rw[zV hg];exact k.live
  .rw [zbj (zq.1 hg).1 (zq.1 hj).1 e]
 .refine (ztb (h:=h) (r:=zjW h m g y) hm rfl rfl kp i).trans ?_
  by_cases e:i=m
  .subst e;rw[zbi.2 rfl,cond_true,cond_true];unfold zdV zA;rw[hm];rfl
  .rw [zbH.2 e];rfl
theorem zS8 {h:Host}(S:Safe h){m:Int}(hm:hasB m (ln h.Mons)=true){y:Mon}(kp:KeepP (ix h.Mons m mZ) y)(hy:MOk y)(hg:y.Guests=(ix h.Mons m mZ).Guests)(ht:y.Tables=(ix h.Mons m mZ).Tables) :
 SimT h { h with Mons:=up h.Mons m y } m (fun b=>{ b with Outs:=y.Outs,Pending:=y.Pending }):=by
 refine ⟨zuK S hm kp hy (by rw[hg]) (fun j _=>by rw[hg]) ht,fun i=>?_,zbz _ _ _⟩
 refine (ztb (h:=h) (r:={ h with Mons:=up h.Mons m y }) hm rfl rfl kp i).trans ?_
 by_cases e:i=m
 .subst e;rw[zbi.2 rfl,cond_true,cond_true];unfold zA;rw[hm,hg];rfl
 .rw [zbH.2 e];rfl
theorem zeF {h:Host}{m:Int}(hm:hasB m (ln h.Mons)=true):zA h m=⟨zcc h m 8 0,(ix h.Mons m mZ).Guests,(ix h.Mons m mZ).Outs,(ix h.Mons m mZ).Pending⟩:=by
 unfold zA;rw[hm];rfl
theorem zZ6 {h:Host}(S:Safe h){m:Int}(hm:hasB m (ln h.Mons)=true):SimT h (owned h m) m id:=by
 unfold owned;cases hc:ilt (ix h.Mons m mZ).Own 1000000000 with
 | false=>exact SimT.refl S m
 | true =>
  rw[cond_true];have X:=S.ok.mon hm;have ho:=zcm.1 X.own;have hlt:(ix h.Mons m mZ).Own<1000000000:=qE hc;have kp:KeepP (ix h.Mons m mZ) { ix h.Mons m mZ with Own:=zG .i64 (ix h.Mons m mZ).Own 1 }:=⟨rfl,rfl⟩;refine (zS8 S hm kp (zjP X kp rfl rfl rfl X.outs X.pend X.tr ?_ X.gs) rfl rfl).congr ?_
  .show win (zG .i64 (ix h.Mons m mZ).Own 1) 0 1000000000=true
   rw[zNb (by omega) (by omega),zcm];omega
  .rw [zeF hm];rfl
theorem zXW {h:Host}(S:Safe h){m:Int}(hm:hasB m (ln h.Mons)=true)(n:Int):SimT h (znh h m n) m (fun b=>znk b n):=by
 unfold znh;have X:=S.ok.mon hm;cases hc:ilt (ln (ix h.Mons m mZ).Outs) 40 with
 | false =>
  refine (SimT.refl S m).congr ?_;rw[zeF hm];unfold znk;rw[hc];rfl
 | true =>
  rw[cond_true];have hlt:ln (ix h.Mons m mZ).Outs<40:=qE hc;have kp:KeepP (ix h.Mons m mZ) { ix h.Mons m mZ with Outs:=ap (ix h.Mons m mZ).Outs [n] }:=⟨rfl,rfl⟩;refine (zS8 S hm kp (zjP X kp rfl rfl rfl ?_ X.pend X.tr X.own X.gs) rfl rfl).congr ?_
  .show (ap (ix h.Mons m mZ).Outs [n]).length<=40
   unfold ln ap at *;simp;omega
  .rw [zeF hm];unfold znk;rw[hc];rfl
theorem zsg {h:Host}{m g:Int}(hm:hasB m (ln h.Mons)=true)(hg:hasB g (ln (ix h.Mons m mZ).Guests)=true):gAt (zA h m) g=gOf h m g:=by
 rw[zeF hm];unfold gAt
 show (cond (hasB g (ln (ix h.Mons m mZ).Guests)) _ _)=_
 rw[hg];rfl
theorem zNc {x:Guest}(h:zS x=3\/zS x=4\/zS x=5\/zS x=6):(zcb x.Prog x.Pc).Op=zS x:=by
 unfold zS at h ⊢;cases hc:canRun x with
 | false=>simp[hc]at h
 | true =>
  simp only[hc,cond_true]at h ⊢;cases ht:zhC x with
  | true=>simp[ht]at h
  | false =>
   simp only[ht,cond_false]at h ⊢;unfold zv7 at h ⊢
   by_cases e3:(zcb x.Prog x.Pc).Op=3
   .rw [e3];rfl
   .rw [zbH.2 e3,cond_false]at h ⊢
    by_cases e4:(zcb x.Prog x.Pc).Op=4
    .rw [e4];rfl
    .rw [zbH.2 e4,cond_false]at h ⊢
     by_cases e5:(zcb x.Prog x.Pc).Op=5
     .rw [e5];rfl
     .rw [zbH.2 e5,cond_false]at h ⊢
      by_cases e6:(zcb x.Prog x.Pc).Op=6
      .rw [e6];rfl
      .rw [zbH.2 e6,cond_false]at h ⊢;cases h7:ieq (zcb x.Prog x.Pc).Op 7<;>simp [h7]at h
theorem z3V {x:Guest}(X:GOk x){w:Int}(hw:zS x=w)(h:w=3\/w=4):0<=address x/\address x<=15:=by
 have e:address x=(zcb x.Prog x.Pc).X:=by
  unfold address;rcases h with e|e
  .rw [hw,e];rfl
  .rw [hw,e];rfl
 rw[e];exact z6n (zGO X.prog _) (by rw[zNc (by omega),hw];exact h)
theorem z3W {a:Int}(h0:0<=a)(h1:a<=15):win (zbc a) 0 3=true/\hasB (zcQ a) 4=true :=
 zIg (n:=16) (P:=fun a=>win (zbc a) 0 3=true/\hasB (zcQ a) 4=true) (by decide) h0 (by omega)
theorem zWR {p:Int}(h:win p 0 3=true)(w:Bool):zgy (zp2 p w)=true:=by
 unfold zgy zp2;simp[ieq,h]
theorem zYZ {n:Int}(h:win n 0 99=true):zgy (zw3 n)=true:=by
 unfold zgy zw3;simp[ieq,h]
theorem z1e {n:Int}(h:win n 0 99=true):zgy (zv8 n)=true:=by
 unfold zgy zv8;simp[ieq,h]
theorem z1k {x:Guest}(X:GOk x)(t:Int){w:Int}(hw:zS x=w):GKeep x (ziG x t w):=by
 have hi:=zGO X.prog x.Pc;unfold ziG
 by_cases e6:w=6
 .rw [zbi.2 e6];exact zil X (zYZ (zcm.2 (zZh hi (by rw[zNc (by omega),hw];omega))))
 .rw [zbH.2 e6,cond_false]
  by_cases e5:w=5
  .rw [zbi.2 e5];cases zgp t 1 with
   | true=>exact zil X (z1e (zcm.2 (zZh hi (by rw[zNc (by omega),hw];omega))))
   | false=>rw[e5];exact zik X
  .rw [zbH.2 e5];rw[Bool.false_and,cond_false];cases hc:(ieq w 7&&zgp t 2) with
   | true=>exact zil X rfl
   | false =>
    rw[cond_false];cases ieq w 7
    .exact zik X
    .exact zVD X
theorem zVM {α:Type}(g:Int):hasB g (ln ([]:List α))=false:=by
 cases h:hasB g (ln ([]:List α)) with
 | false=>rfl
 | true=>have:=zq.1 h;simp[ln] at this;omega
theorem z0C {m:List (List Int)}(h:∀c∈m,zb6 c=true)(p c:Int):win (cellAt m p c) 0 99=true:=by
 unfold cellAt zg8;cases hp:hasB p (ln m) with
 | false=>rfl
 | true =>
  rw[cond_true];cases hc:hasB c (ln (ix m p [])) with
  | false=>rfl
  | true =>
   rw[cond_true];exact (zru.1 (h _ (zku hp []))).1 _ (zku hc 0)
theorem HOk.seenG {h:Host}(H:HOk h){m g:Int}(hm:hasB m (ln h.Mons)=true)(hg:hasB g (ln (ix h.Mons m mZ).Guests)=true):GOk (gOf h m g):=H.guest hm hg
theorem zTi {h:Host}(S:Safe h){m g:Int}(hm:hasB m (ln h.Mons)=true)(hg:hasB g (ln (ix h.Mons m mZ).Guests)=true)(w:Bool)(hw:zS (gOf h m g)=bif w then 4 else 3) :
 SimT h (ziF (zlN h m g (gOf h m g) w) m g (gOf h m g) w) m (fun b=>zmK b g (gOf h m g) w):=by
 have X:=S.ok.seenG hm hg;have ha:=z3V X hw (by cases w<;>simp)
 have hap:=z3W ha.1 ha.2;have hn:zbZ w=1\/zbZ w=2:=by cases w<;>simp [zbZ]
 unfold ziF zlN;cases hl:zbU h m g (zbc (address (gOf h m g))) (zbZ w) with
 | false =>
  have e:lookOf h h.Buffer m g (zbc (address (gOf h m g))) (zbZ w) false=(h,-1,false):=by unfold lookOf;rw[hl];rfl
  have hw2:ze0 (gOf h m g).Live (zbc (address (gOf h m g))) (zbZ w)=false:=by
   cases hc:ze0 (gOf h m g).Live (zbc (address (gOf h m g))) (zbZ w) with
   | false=>rfl
   | true=>exact Bool.noConfusion (hl.symm.trans (zph.2 ⟨ziI.2 ⟨S.ok,hm,hg⟩,hn,hc⟩))
  rw[e];refine (zoZ S hm hg (zil X (zWR hap.1 w))).congr ?_;unfold zmK;rw[hw2];rfl
 | true =>
  obtain ⟨L,hL⟩:=zN7 S false hl S.rt.e1;obtain ⟨_,_,hwk⟩:=zph.1 hl;have hwk':ze0 (gOf h m g).Live (zbc (address (gOf h m g))) (zbZ w)=true:=hwk;have W:=walked X hwk;rw[hL,cond_true];have S1:=L.op.safe S;have hm1:hasB m (ln (lookOf h h.Buffer m g (zbc (address (gOf h m g))) (zbZ w) false).1.Mons)=true:=by rw[L.op.like.has];exact hm
  have hgs:=L.op.like.g m hm;have q8:hasB (zcj (zcs h m g) (zbc (address (gOf h m g))) (zbZ w)) 8=true:=W.q8;obtain ⟨k1,k2⟩:=zuL S1 hm1 q8 L.inn L.ne (zcQ (address (gOf h m g))) (gOf h m g).A;rw[L.op.like.seen m] at k2;cases w with
  | true =>
   rw[cond_true];have k0:=L.op.sim S m;have hmm:hasB m (ln ({ (lookOf h h.Buffer m g (zbc (address (gOf h m g))) (zbZ true) false).1 with Memory:=zbx (lookOf h h.Buffer m g (zbc (address (gOf h m g))) (zbZ true) false).1.Memory (lookOf h h.Buffer m g (zbc (address (gOf h m g))) (zbZ true) false).2.1 (zcQ (address (gOf h m g))) (gOf h m g).A }:Host).Mons)=true:=hm1;have hgg:hasB g (ln (ix ({ (lookOf h h.Buffer m g (zbc (address (gOf h m g))) (zbZ true) false).1 with Memory:=zbx (lookOf h h.Buffer m g (zbc (address (gOf h m g))) (zbZ true) false).1.Memory (lookOf h h.Buffer m g (zbc (address (gOf h m g))) (zbZ true) false).2.1 (zcQ (address (gOf h m g))) (gOf h m g).A }:Host).Mons m mZ).Guests)=true:=by
    show hasB g (ln (ix (lookOf h h.Buffer m g (zbc (address (gOf h m g))) (zbZ true) false).1.Mons m mZ).Guests)=true
    rw[hgs];exact hg
   have kk:GKeep (gOf { (lookOf h h.Buffer m g (zbc (address (gOf h m g))) (zbZ true) false).1 with Memory:=zbx (lookOf h h.Buffer m g (zbc (address (gOf h m g))) (zbZ true) false).1.Memory (lookOf h h.Buffer m g (zbc (address (gOf h m g))) (zbZ true) false).2.1 (zcQ (address (gOf h m g))) (gOf h m g).A } m g) (zbY (gOf h m g)):=by
    have:gOf { (lookOf h h.Buffer m g (zbc (address (gOf h m g))) (zbZ true) false).1 with Memory:=zbx (lookOf h h.Buffer m g (zbc (address (gOf h m g))) (zbZ true) false).1.Memory (lookOf h h.Buffer m g (zbc (address (gOf h m g))) (zbZ true) false).2.1 (zcQ (address (gOf h m g))) (gOf h m g).A } m g=gOf h m g:=by
     show ix (ix (lookOf h h.Buffer m g (zbc (address (gOf h m g))) (zbZ true) false).1.Mons m mZ).Guests g gZ=_
     rw[hgs];rfl
    rw[this];exact zik X
   refine ((k0.trans k1).trans (zoZ k1.safe hmm hgg kk)).congr ?_;unfold zmK;rw[hwk'];rfl
  | false =>
   rw[cond_false];have k0:=L.op.sim S m;have hgg:hasB g (ln (ix (lookOf h h.Buffer m g (zbc (address (gOf h m g))) (zbZ false) false).1.Mons m mZ).Guests)=true:=by rw[hgs];exact hg
   have kk:GKeep (gOf (lookOf h h.Buffer m g (zbc (address (gOf h m g))) (zbZ false) false).1 m g) (loaded (gOf h m g) (cellAt (lookOf h h.Buffer m g (zbc (address (gOf h m g))) (zbZ false) false).1.Memory (lookOf h h.Buffer m g (zbc (address (gOf h m g))) (zbZ false) false).2.1 (zcQ (address (gOf h m g))))):=by
    have:gOf (lookOf h h.Buffer m g (zbc (address (gOf h m g))) (zbZ false) false).1 m g=gOf h m g:=by
     show ix (ix (lookOf h h.Buffer m g (zbc (address (gOf h m g))) (zbZ false) false).1.Mons m mZ).Guests g gZ=_
     rw[hgs];rfl
    rw[this];exact zY8 X (z0C S1.ok.pgs _ _)
   refine (k0.trans (zoZ S1 hm1 hgg kk)).congr ?_;unfold zmK;rw[hwk',k2];rfl
theorem z1j {h r:Host}{m g:Int}(e:(ix r.Mons m mZ).Guests=(ix h.Mons m mZ).Guests):gOf r m g=gOf h m g:=by unfold gOf;rw[e]
theorem z5k (h:Host)(m:Int)(hm:hasB m (ln h.Mons)=true):(ix (owned h m).Mons m mZ).Guests=(ix h.Mons m mZ).Guests:=by
 unfold owned;cases ilt (ix h.Mons m mZ).Own 1000000000 with
 | false=>rfl
 | true=>show (ix (up h.Mons m _) m mZ).Guests=_;rw[zV hm]
theorem z1C (h:Host)(m n:Int)(hm:hasB m (ln h.Mons)=true):(ix (znh h m n).Mons m mZ).Guests=(ix h.Mons m mZ).Guests:=by
 unfold znh;cases ilt (ln (ix h.Mons m mZ).Outs) 40 with
 | false=>rfl
 | true=>show (ix (up h.Mons m _) m mZ).Guests=_;rw[zV hm]
theorem zZ8 {h:Host}(S:Safe h){m:Int}(hm:hasB m (ln h.Mons)=true)(x:Guest)(w:Int):SimT h (zfM h m x w) m id/\(ix (zfM h m x w).Mons m mZ).Guests=(ix h.Mons m mZ).Guests:=by
 unfold zfM;cases (cond (ine w 6) (ieq (zxJ (ix h.Mons m mZ).Traps x.Ctl.Traps (zwV w)) 2) false) with
 | false=>exact ⟨SimT.refl S m,rfl⟩
 | true=>exact ⟨zZ6 S hm,z5k h m hm⟩
theorem zZ7 {h:Host}(S:Safe h){m:Int}(hm:hasB m (ln h.Mons)=true)(x:Guest)(w:Int):SimT h (zfL h m x w) m (fun b=>bif (cond (zjq x.Ctl.Traps w) (ieq w 5) false) then znk b (zcb x.Prog x.Pc).X else b)/\(ix (zfL h m x w).Mons m mZ).Guests=(ix h.Mons m mZ).Guests:=by
 unfold zfL;cases (cond (zjq x.Ctl.Traps w) (ieq w 5) false) with
 | false=>exact ⟨SimT.refl S m,rfl⟩
 | true=>exact ⟨zXW S hm _,z1C h m _ hm⟩
theorem zCa {h:Host}(S:Safe h){m g:Int}(hm:hasB m (ln h.Mons)=true)(hg:hasB g (ln (ix h.Mons m mZ).Guests)=true){w:Int}(hw:zS (gOf h m g)=w) :
 SimT h (zuP h m g (gOf h m g) w) m (fun b=>zCP b g (gOf h m g) w):=by
 have X:=S.ok.seenG hm hg;obtain ⟨k0,e0⟩:=zZ8 S hm (gOf h m g) w;have hm0:hasB m (ln (zfM h m (gOf h m g) w).Mons)=true:=by rw[k0.has];exact hm
 obtain ⟨k1,e1⟩:=zZ7 k0.safe hm0 (gOf h m g) w;have hm1:hasB m (ln (zfL (zfM h m (gOf h m g) w) m (gOf h m g) w).Mons)=true:=by rw[k1.has];exact hm0
 have hg1:hasB g (ln (ix (zfL (zfM h m (gOf h m g) w) m (gOf h m g) w).Mons m mZ).Guests)=true:=by rw[e1,e0];exact hg
 have kk:GKeep (gOf (zfL (zfM h m (gOf h m g) w) m (gOf h m g) w) m g) (ziG (gOf h m g) (gOf h m g).Ctl.Traps w):=by
  rw[z1j (e1.trans e0)];exact z1k X _ hw
 exact ((k0.trans k1).trans (zoZ k1.safe hm1 hg1 kk)).congr rfl
theorem zX8 (x:Guest):zS x=0\/zS x=1\/zS x=2\/zS x=3\/zS x=4\/zS x=5\/zS x=6\/zS x=7:=by
 unfold zS zv7;cases canRun x<;>cases zhC x<;>cases ieq (zcb x.Prog x.Pc).Op 3<;>cases ieq (zcb x.Prog x.Pc).Op 4<;>cases ieq (zcb x.Prog x.Pc).Op 5<;>cases ieq (zcb x.Prog x.Pc).Op 6<;>cases ieq (zcb x.Prog x.Pc).Op 7<;>simp
theorem zQI {h:Host}(H:HOk h)(m g:Int):zkj (zA h m) g=bif zbI h m g then !ieq (zS (gOf h m g)) 0 else false:=by
 unfold zkj zbI;rw[zff.2 H,cond_true];cases hm:hasB m (ln h.Mons) with
 | false =>
  have:(zA h m).Guests=[]:=by unfold zA;rw[hm];rfl
  rw[this,zVM];rfl
 | true =>
  rw[cond_true,zwQ H hm,cond_true];have:(zA h m).Guests=(ix h.Mons m mZ).Guests:=by rw[zeF hm]
  rw[this];cases hg:hasB g (ln (ix h.Mons m mZ).Guests) with
  | false=>rfl
  | true=>rw[cond_true,cond_true,zsg hm hg]
theorem step_ok {h:Host}(S:Safe h)(m g:Int):SimT h (zbs h m g).1 m (fun b=>zhm b g)/\(zbs h m g).2=zkj (zA h m) g:=by
 have hc:=zQI S.ok m g;unfold zbs;cases hh:zbI h m g with
 | false =>
  rw[hh,cond_false]at hc;refine ⟨(SimT.refl S m).congr ?_,hc.symm⟩;unfold zhm;rw[hc];rfl
 | true =>
  rw[hh,cond_true]at hc;rw[cond_true];obtain ⟨_,hm,hg⟩:=ziI.1 hh;have X:=S.ok.seenG hm hg;have hgs:=zsg hm hg;have hf:∀w,zS (gOf h m g)=w->w≠0->zhm (zA h m) g=stepped (zA h m) g (gOf h m g) w:=by
   intro w hw h0;unfold zhm;rw[hc,hw,zbH.2 h0,hgs,hw];rfl
  rcases zX8 (gOf h m g) with e|e|e|e|e|e|e|e
  .rw [e];rw[e]at hc;refine ⟨(SimT.refl S m).congr ?_,hc.symm⟩;unfold zhm;rw[hc];rfl
  .rw [e]at hc ⊢;exact ⟨(zoZ S hm hg (zKR X)).congr (hf 1 e (by decide)).symm,hc.symm⟩
  .rw [e]at hc ⊢;exact ⟨(zoZ S hm hg (zW2 X)).congr (hf 2 e (by decide)).symm,hc.symm⟩
  .rw [e]at hc ⊢;exact ⟨(zTi S hm hg false e).congr (hf 3 e (by decide)).symm,hc.symm⟩
  .rw [e]at hc ⊢;exact ⟨(zTi S hm hg true e).congr (hf 4 e (by decide)).symm,hc.symm⟩
  .rw [e]at hc ⊢;exact ⟨(zCa S hm hg e).congr (hf 5 e (by decide)).symm,hc.symm⟩
  .rw [e]at hc ⊢;exact ⟨(zCa S hm hg e).congr (hf 6 e (by decide)).symm,hc.symm⟩
  .rw [e]at hc ⊢;exact ⟨(zCa S hm hg e).congr (hf 7 e (by decide)).symm,hc.symm⟩
structure BackOk (b c:Bare):Prop where
 m:c.Memory=b.Memory
 o:c.Outs=b.Outs
 n:c.Guests.length=b.Guests.length
 g:∀j,hasB j (ln b.Guests)=true->GKeep (ix b.Guests j gZ) (ix c.Guests j gZ)
 p:zcJ b.Pending=true->zcJ c.Pending=true
theorem z1T {h:Host}(S:Safe h){m:Int}(hm:hasB m (ln h.Mons)=true){c:Bare}(k:BackOk (zA h m) c):SimT h (zcL h m c) m (fun _=>c):=by
 have X:=S.ok.mon hm;have hf:=zeF hm;have hG:(zA h m).Guests=(ix h.Mons m mZ).Guests:=by rw[hf]
 have hn:c.Guests.length=(ix h.Mons m mZ).Guests.length:=by rw[k.n,hG]
 have hg:∀j,hasB j (ln (ix h.Mons m mZ).Guests)=true->GKeep (ix (ix h.Mons m mZ).Guests j gZ) (ix c.Guests j gZ):=fun j hj=>by
  have:=k.g j (by rw[hG];exact hj)
  rwa [hG] at this
 have kp:KeepP (ix h.Mons m mZ) (ztv (ix h.Mons m mZ) c):=⟨rfl,rfl⟩;have hp:zcJ c.Pending=true:=k.p (by rw[hf];exact X.pend)
 refine ⟨zuK S hm kp (zjP X kp hn rfl rfl X.outs hp X.tr X.own fun z hz=>?_) hn (fun j hj=>(hg j hj).live) rfl,fun i=>?_,zbz _ _ _⟩
 .obtain ⟨j,hj,rfl⟩:=zA6 hz gZ;exact zrT.2 (hg j (by unfold ln at hj ⊢;rw[<- hn];exact hj)).ok
 .refine (ztb (h:=h) (r:=zcL h m c) hm rfl rfl kp i).trans ?_
  by_cases e:i=m
  .subst e;rw[zbi.2 rfl,cond_true,cond_true]
   show Bare.mk (zA h i).Memory c.Guests (ix h.Mons i mZ).Outs c.Pending=c
   have h1:=k.m;have h2:=k.o;rw[hf]at h2;cases c
   simp_all
  .rw [zbH.2 e];rfl
theorem seen_none {h:Host}{m:Int}(hm:hasB m (ln h.Mons)=false):zA h m=⟨[],[],[],0⟩:=by unfold zA;rw[hm];rfl
theorem zrZ:zbX ⟨[],[],[],0⟩=false:=by decide
theorem zr5 {b:Bare}(h:zbX b=false)(g:Int):zb0 b g=false:=by unfold zb0;rw[h];rfl
theorem zg0 {b:Bare}(h:zbX b=true):BackOk b b:=⟨rfl,rfl,rfl,fun j hj=>⟨zrT.1 (by
 unfold zbX at h;rw[zbW,qM]at h;exact h.1 _ (zku hj _)),rfl⟩,id⟩
theorem zYi {b:Bare}(h:zbX b=true){g:Int}(hg:hasB g (ln b.Guests)=true){y:Guest}(k:GKeep (gAt b g) y):BackOk b (zdV b g y):=by
 have e:gAt b g=ix b.Guests g gZ:=by unfold gAt;rw[hg];rfl
 refine ⟨rfl,rfl,zbz _ _ _,fun j hj=>?_,id⟩
 show GKeep _ (ix (up b.Guests g y) j gZ)
 by_cases hc:g=j
 .subst hc;rw[zV hg,<- e];exact k
 .rw [zbj (zq.1 hg).1 (zq.1 hj).1 hc];exact (zg0 h).g j hj
theorem zpX {b:Bare}(h:zbX b=true){g:Int}{c:Bool}{y:Guest}(k:hasB g (ln b.Guests)=true->c=true->GOk (gAt b g)->GKeep (gAt b g) y):BackOk b (chg b g c y):=by
 unfold chg zb0;rw[h,cond_true];cases hg:hasB g (ln b.Guests) with
 | false=>exact zg0 h
 | true =>
  rw[cond_true];cases c with
  | false=>exact zg0 h
  | true =>
   refine zYi h hg (k hg rfl ?_);have:=(zg0 h).g g hg;unfold gAt;rw[hg];exact this.ok
theorem zoG {h:Host}(S:Safe h)(m:Int){F:Bare->Bare}(hF:∀b,zbX b=true->BackOk b (F b))(h0:F ⟨[],[],[],0⟩=⟨[],[],[],0⟩):SimT h (zei h m (F (zA h m))) m F:=by
 unfold zei zb2;rw[zff.2 S.ok,cond_true];cases hm:hasB m (ln h.Mons) with
 | false =>
  refine (SimT.refl S m).congr ?_;rw[seen_none hm];exact h0.symm
 | true=>exact (z1T S hm (hF _ (zwQ S.ok hm))).congr rfl
theorem zjX {h:Host}(S:Safe h)(m:Int){t:Bare->Bool}(h0:t ⟨[],[],[],0⟩=false):zdE h m (t (zA h m))=t (zA h m):=by
 unfold zdE zb2;rw[zff.2 S.ok,cond_true];cases hm:hasB m (ln h.Mons) with
 | false=>rw[cond_false,seen_none hm,h0]
 | true=>rfl
theorem zoh (g:Int)(c:Bool)(y:Guest):chg ⟨[],[],[],0⟩ g c y=⟨[],[],[],0⟩:=by unfold chg;rw[zr5 zrZ];rfl
theorem zih (g:Int)(c:Bool):zbM ⟨[],[],[],0⟩ g c=false:=by unfold zbM;rw[zr5 zrZ];rfl
theorem zTk {t:List Slot}{n q:Int}(h:zcw t n q=true){p:Int}{s:Slot}(hs:zde s q=true):zcw (zdL t p s) n q=true:=by
 unfold zdL;cases hasB p (ln t) with
 | false=>exact h
 | true =>
  rw[cond_true];rw[zpT]at h ⊢;rw[zdc];refine ⟨fun x hx=>?_,h.2⟩;rcases qZ hx with h1|h1
  .exact h.1 x h1
  .rw [h1];exact hs
theorem z4M {x:Guest}(X:GOk x){p:Int}{s:Slot}(h:zq5 p s=true):GKeep x (zx5 x p s):=by
 unfold zq5 at h;rw[zbW]at h;exact ⟨⟨X.prog,X.a,X.pc,zTk X.w h.2,X.l,X.ctl,X.pend,X.ex,X.seen⟩,rfl⟩
theorem z4J {x:Guest}(X:GOk x){v:Int}(h:zqz x v=true):GKeep x (zuT x v):=by
 unfold zqz at h;rw[zbW]at h;unfold zuT;cases ieq x.Exit.Kind 2 with
 | true =>
  rw[cond_true];have h1:=zil (zW0 X h.1) (e:=zjR) rfl;have h2:=zik h1.ok;exact ⟨h2.ok,h2.live⟩
 | false =>
  rw[cond_false];have h1:=zil X (e:=zjR) rfl;have h2:=zik h1.ok;exact ⟨h2.ok,h2.live.trans h1.live⟩
theorem z4L {x:Guest}(X:GOk x):GKeep x (zu7 x):=by
 unfold zu7;have h1:=zil X (e:=zjR) rfl;cases ieq x.Exit.Kind 1 with
 | true=>exact h1
 | false =>
  have h2:=zVD h1.ok;exact ⟨h2.ok,h2.live.trans h1.live⟩
theorem zVE {x:Guest}(X:GOk x)(n:Int):GKeep x (zl6 x n):=zVF X (zOl X.pend n)
theorem z4K {x:Guest}(X:GOk x){c:Ctl}(h:zgK c=true):GKeep x (zFs x c):=⟨⟨X.prog,X.a,X.pc,X.w,X.l,h,X.pend,X.ex,X.seen⟩,rfl⟩
theorem zAh (n:Int):∀(ks:List Int) (b:Bare) (l:List Guest),(∀k∈ks,hasB k (ln b.Guests)=true)->BackOk b { b with Guests:=l }->BackOk b { b with Guests:=zkC n ks l }
 | [],b,l,_,h=>h
 | k :: ks,b,l,hk,h=>by
  show BackOk b { b with Guests:=zkC n ks (zCH n l k) }
  refine zAh n ks b _ (fun j hj=>hk j (qY _ hj)) ⟨h.m,h.o,by show (up l k _).length=_;rw[zbz];exact h.n,fun j hj=>?_,h.p⟩
  show GKeep _ (ix (up l k _) j gZ)
  have hl:l.length=b.Guests.length:=h.n;have hkl:hasB k (ln l)=true:=by unfold ln;rw[hl];exact hk k jJ
  by_cases e:k=j
  .subst e;rw[zV hkl];have h1:=h.g k hj;have h2:=zVE h1.ok n;exact ⟨h2.ok,h2.live.trans h1.live⟩
  .rw [zbj (zq.1 hkl).1 (zq.1 hj).1 e];exact h.g j hj
theorem zWp {b:Bare}(h:zbX b=true)(n:Int):BackOk b (ziw b n):=by
 unfold ziw zes zCI;rw[h,cond_true];cases hasB n 8 with
 | false=>exact zg0 h
 | true =>
  rw[cond_true];cases ieq (ln (zdH b.Guests n)) 0 with
  | true =>
   have:=zg0 h;exact ⟨rfl,rfl,rfl,this.g,fun hp=>zOl hp n⟩
  | false =>
   rw[cond_false];refine zAh n _ b b.Guests (fun k hk=>?_) (zg0 h);unfold zdH at hk;obtain ⟨j,hj,rfl,_⟩:=(zGq (d:=gZ)).1 hk;exact zq.2 ⟨by omega,by unfold ln;omega⟩
theorem zYh {b:Bare}(h:zbX b=true):BackOk b (zk1 b):=by
 unfold zk1;rw[h,cond_true];exact ⟨rfl,rfl,rfl,(zg0 h).g,fun hp=>zOm hp⟩
theorem z1I {h:Host}(S:Safe h)(m p c v:Int):SimT h (zl2 h m p c v) m (fun b=>zQi b p c v)/\zeK h m p c v=zv9 (zA h m) p c v:=by
 have e:zeK h m p c v=zv9 (zA h m) p c v:=by
  unfold zeK zv9 zbQ z3J;rw[zff.2 S.ok,cond_true];cases hm:hasB m (ln h.Mons) with
  | false=>rw[seen_none hm,zrZ];rfl
  | true=>rw[zwQ S.ok hm,cond_true];rfl
 refine ⟨?_,e⟩;unfold zl2;cases hc:zeK h m p c v with
 | false =>
  refine (SimT.refl S m).congr ?_;unfold zQi;rw[<- e,hc];rfl
 | true =>
  rw[cond_true];have hc':=hc;unfold zeK at hc';rw[zbW,zbW]at hc';obtain ⟨h1,_,_⟩:=hc';obtain ⟨_,hm,hp⟩:=zjU.1 h1;have M:=zOf S.ok (m:=m) (p:=p) 2 hm hp;have k0:=M.op.sim S m;have hm1:hasB m (ln (mended h m p 2).Mons)=true:=by rw[k0.has];exact hm
  obtain ⟨k1,_⟩:=zuL k0.safe hm1 hp rfl M.inn c v;refine (k0.trans k1).congr ?_;unfold zQi;rw[<- e,hc];rfl
theorem zZv {h:Host}(S:Safe h)(m g page need:Int):zbU h m g page need=(cond (zb0 (zA h m) g) (cond (ziK need) (ze0 (gAt (zA h m) g).Live page need) false) false):=by
 have e:zbI h m g=zb0 (zA h m) g:=by
  unfold zbI zb0;rw[zff.2 S.ok,cond_true];cases hm:hasB m (ln h.Mons) with
  | false=>rw[seen_none hm,zrZ,cond_false,cond_false]
  | true =>
   rw[cond_true,zwQ S.ok hm,cond_true];have:(zA h m).Guests=(ix h.Mons m mZ).Guests:=by rw[zeF hm]
   rw[this]
 unfold zbU;rw[<- e];cases hg:zbI h m g with
 | false=>rw[cond_false,cond_false]
 | true =>
  obtain ⟨_,hm,hg⟩:=ziI.1 hg;have:(gAt (zA h m) g).Live=zcs h m g:=by rw[zsg hm hg];rfl
  rw[this]
theorem zFC {h:Host}(S:Safe h)(m g a n:Int)(hn:n=1\/n=2):zmY (zA h m) g a n=bif win a 0 15 then zbU h m g (zbc a) n else false:=by
 rw[zZv S];unfold zmY;rw[zEB.2 hn,cond_true];cases zb0 (zA h m) g<;>cases win a 0 15<;>rfl
theorem zQ7 {h:Host}(S:Safe h){m g a n:Int}(hn:n=1\/n=2)(hd:zmY (zA h m) g a n=true) :
 Looked h (zAX h m g a n).1 m g (zbc a) n (zCs (zA h m) g a n) (zAX h m g a n).2.1/\hasB m (ln h.Mons)=true/\hasB (zCs (zA h m) g a n) 8=true:=by
 rw[zFC S m g a n hn,zbW]at hd;obtain ⟨L,_⟩:=zN7 S true hd.2 S.rt.e2;obtain ⟨h1,_,hw⟩:=zph.1 hd.2;obtain ⟨_,hm,hg⟩:=ziI.1 h1;have e:zCs (zA h m) g a n=zcj (zcs h m g) (zbc a) n:=by
  unfold zCs;rw[zsg hm hg];rfl
 rw[e];exact ⟨L,hm,(walked (S.ok.guest hm hg) hw).q8⟩
theorem z6k {h:Host}(S:Safe h)(m g a v:Int):SimT h (zop h m g a v) m (fun b=>zWO b g a v)/\zf7 h m g a v=zxf (zA h m) g a v:=by
 have e:zf7 h m g a v=zxf (zA h m) g a v:=by
  unfold zf7 zxf;rw[zFC S m g a 2 (.inr rfl)];cases win a 0 15<;>cases win v 0 99<;>cases zbU h m g (zbc a) 2<;>rfl
 refine ⟨?_,e⟩;unfold zop;cases hc:zf7 h m g a v with
 | false =>
  refine (SimT.refl S m).congr ?_;unfold zWO;rw[<- e,hc];rfl
 | true =>
  rw[cond_true];have hd:zmY (zA h m) g a 2=true:=by
   have:=e.symm.trans hc;unfold zxf at this;exact (zbW.1 this).1
  obtain ⟨L,hm,hq⟩:=zQ7 S (.inr rfl) hd;have k0:=L.op.sim S m;obtain ⟨k1,_⟩:=zuL k0.safe (by rw[k0.has];exact hm) hq L.inn L.ne (zcQ a) v
  refine (k0.trans k1).congr ?_;unfold zWO;rw[<- e,hc];rfl
theorem z5m {h:Host}(S:Safe h)(m g a:Int):SimT h (zl3 h m g a) m id/\zfn h m g a=zmY (zA h m) g a 1/\zqa h m g a=zQm (zA h m) g a:=by
 have e:zfn h m g a=zmY (zA h m) g a 1:=by
  unfold zfn;rw[zFC S m g a 1 (.inl rfl)]
 unfold zl3 zqa zQm;rw[e];cases hd:zmY (zA h m) g a 1 with
 | false=>exact ⟨SimT.refl S m,rfl,rfl⟩
 | true =>
  obtain ⟨L,hm,hq⟩:=zQ7 S (.inl rfl) hd;have k0:=L.op.sim S m;obtain ⟨_,k2⟩:=zuL k0.safe (by rw[k0.has];exact hm) hq L.inn L.ne (zcQ a) 0
  rw[L.op.like.seen m] at k2;exact ⟨k0,rfl,k2⟩
theorem zZj {k:Kept}{inner outer:List Slot}(h:KOk k inner outer)(p:Int)(s:Slot):KOk (zbG k p) (zdL inner p s) outer:=by
 have hl:=zjE k p;have hw:(zdL inner p s).length=inner.length:=by unfold zdL;cases hasB p (ln inner)<;>simp [zbz]
 refine ⟨by rw[hl.1,hw,h.l1],by rw[hl.2,hw,h.l2],fun i hi=>?_⟩
 have hi1:hasB i (ln inner)=true:=by unfold ln at hi ⊢;rwa [<- hw]
 have hi':hasB i (ln k.Known)=true:=by unfold ln at hi1 ⊢;rwa [h.l1]
 have ha:=zuY (q:=p) (by rw[h.l1,h.l2]) hi'
 rw[ha.1,ha.2]
 by_cases e:p=i
 .subst e;rw[zbi.2 rfl];rfl
 .rw [zbH.2 e,cond_false,cond_false,h.at' i hi1];have:ix (zdL inner p s) i sZ=ix inner i sZ:=by
   unfold zdL;cases hp:hasB p (ln inner) with
   | false=>rfl
   | true=>exact zbj (zq.1 hp).1 (zq.1 hi1).1 e _ _
  rw[this]
theorem z6A {t m g:Int}(h1:zc2 t=m)(h2:zdK t=g)(hm:0<=m):t=zel m g:=by
 subst h1;subst h2
 by_cases h:1<=t/\t<=6
 .have e:t=1\/t=2\/t=3\/t=4\/t=5\/t=6:=by omega
  rcases e with rfl|rfl|rfl|rfl|rfl|rfl<;>decide
 .exfalso;have:zc2 t = -1:=by
   unfold zc2 ige ile;rw[show (decide (t≥1)&&decide (t<=6))=false by simp;omega];rfl
  omega
theorem zU7 {t:List Slot}{p q:Int}{s:Slot}(h:q≠p):zbm (zdL t p s) q=zbm t q:=by
 unfold zdL;cases hp:hasB p (ln t) with
 | false=>rfl
 | true=>exact zOw (zq.1 hp).1 h
theorem z1U {t:List Slot}(h:zcw t 4 8=true)(p:Int):zde (zbm t p) 8=true:=by
 unfold zbm;cases hp:hasB p (ln t) with
 | false=>rfl
 | true=>exact (zpT.1 h).1 _ (zku hp _)
theorem zY7 {x:Guest}(X:GOk x)(p:Int):GOk (zdn x p):=⟨X.prog,X.a,X.pc,X.w,zTk X.l (z1U X.w p),X.ctl,X.pend,X.ex,X.seen⟩
theorem z1h {h:Host}(S:Safe h)(m g p:Int):SimT h (zjH h m g p) m (fun b=>chg b g (hasB p 4) (zdn (gAt b g) p))/\zdE h m (zbM (zA h m) g (hasB p 4))=zbM (zA h m) g (hasB p 4):=by
 refine ⟨?_,zjX S m (t:=fun b=>zbM b g (hasB p 4)) (zih g _)⟩;unfold zjH zb2;rw[zff.2 S.ok,cond_true];cases hm:hasB m (ln h.Mons) with
 | false =>
  refine (SimT.refl S m).congr ?_;rw[seen_none hm,zoh];rfl
 | true =>
  rw[cond_true];cases hc:zbM (zA h m) g (hasB p 4) with
  | false =>
   refine (SimT.refl S m).congr ?_
   show zA h m=chg (zA h m) g (hasB p 4) (zdn (gAt (zA h m) g) p)
   have hc':=hc;unfold zbM at hc';unfold chg;rw[hc'];rfl
  | true =>
   rw[cond_true];have hc':=hc;unfold zbM zb0 at hc';rw[zwQ S.ok hm,cond_true,zbW,zeF hm]at hc';have hg:hasB g (ln (ix h.Mons m mZ).Guests)=true:=hc'.1;have X:=S.ok.mon hm;have G:=S.ok.seenG hm hg;have e1:chg (zA h m) g (hasB p 4) (zdn (gAt (zA h m) g) p)=zdV (zA h m) g (zdn (gOf h m g) p):=by
    have h1:=hc;unfold zbM at h1;unfold chg;rw[h1,zsg hm hg];rfl
   rw[e1];have htg:hasB g (ln (ix h.Mons m mZ).Tables)=true:=by unfold ln;rw[X.gt];exact hg
   have hM:(zAv (zcL h m (zdV (zA h m) g (zdn (gOf h m g) p))) m g p).Mons=up h.Mons m { ix h.Mons m mZ with Guests:=up (ix h.Mons m mZ).Guests g (zdn (gOf h m g) p),Tables:=up (ix h.Mons m mZ).Tables g (zbG (ix (ix h.Mons m mZ).Tables g kZ) p) }:=by
    show up (up h.Mons m _) m _=_
    rw[z0p];have e2:ix (zcL h m (zdV (zA h m) g (zdn (gOf h m g) p))).Mons m mZ=ztv (ix h.Mons m mZ) (zdV (zA h m) g (zdn (gOf h m g) p)):=zV hm _ _;rw[e2];unfold ztv zdV;rw[zeF hm]
   have kp:KeepP (ix h.Mons m mZ) { ix h.Mons m mZ with Guests:=up (ix h.Mons m mZ).Guests g (zdn (gOf h m g) p),Tables:=up (ix h.Mons m mZ).Tables g (zbG (ix (ix h.Mons m mZ).Tables g kZ) p) }:=⟨rfl,rfl⟩;have hy:MOk { ix h.Mons m mZ with Guests:=up (ix h.Mons m mZ).Guests g (zdn (gOf h m g) p),Tables:=up (ix h.Mons m mZ).Tables g (zbG (ix (ix h.Mons m mZ).Tables g kZ) p) }:=zjP X kp (zbz _ _ _) (zbz _ _ _) rfl X.outs X.pend X.tr X.own fun z hz=>by
    rcases qZ hz with h|h
    .exact X.gs z h
    .rw [h];exact zrT.2 (zY7 G p)
   have hH:HOk (zAv (zcL h m (zdV (zA h m) g (zdn (gOf h m g) p))) m g p):=S.ok.up hm hy hM S.ok.m12 S.ok.pgs (zw1 S.ok.b1 _) (zw1 S.ok.b2 _) fun q _=>.inl (qW _);have key:∀b:List Entry,(∀e∈b,zcA h e=true)->∀e∈zco b (zel m g) p,zcA (zAv (zcL h m (zdV (zA h m) g (zdn (gOf h m g) p))) m g p) e=true:=by
    intro b hb e he;obtain ⟨he1,he2⟩:=zxi.1 he;obtain ⟨h1,h2,h3⟩:=ze5.1 (hb e he1);rw[ze5,hM,zdc];refine ⟨h1,?_⟩
    by_cases hcm:m=zc2 e.Tag
    .rw [<- hcm]at h1 h2 h3 ⊢;rw[zV hm]
     show hasB (zdK e.Tag) (ln (up _ _ _))=true/\below' _ (zbn (zbm (ix (up (ix h.Mons m mZ).Guests g _) (zdK e.Tag) gZ).Live e.Page) (ix h.Mons m mZ).Outer)=true
     rw[zdc];refine ⟨h2,?_⟩
     by_cases hcg:g=zdK e.Tag
     .rw [<- hcg]at h2 h3 ⊢;rw[zV hg];have hne:e.Page≠p:=fun hp=>he2 ⟨z6A hcm.symm hcg.symm (zq.1 hm).1,hp⟩
      show below' _ (zbn (zbm (zdL (gOf h m g).Live p _) e.Page) _)=true
      rw[zU7 hne];exact h3
     .rw [zbj (zq.1 hg).1 (zq.1 h2).1 hcg];exact h3
    .rw [zbj (zq.1 hm).1 (zq.1 h1).1 hcm];exact ⟨h2,h3⟩
   refine ⟨⟨hH,⟨fun i hi=>?_,key _ S.rt.e1,key _ S.rt.e2⟩⟩,fun i=>?_,by rw[hM,zbz]⟩
   .rw [hM]at hi ⊢;rw[zdc]at hi
    by_cases hcm:m=i
    .subst hcm;rw[zV hm];intro j hj
     show KOk (ix (up (ix h.Mons m mZ).Tables g _) j kZ) (ix (up (ix h.Mons m mZ).Guests g _) j gZ).Live (ix h.Mons m mZ).Outer
     have hj':hasB j (ln (ix h.Mons m mZ).Guests)=true:=by
      have:hasB j (ln (up (ix h.Mons m mZ).Guests g (zdn (gOf h m g) p)))=true:=hj
      rwa [zdc] at this
     by_cases e:g=j
     .subst e;rw[zV htg,zV hg];exact zZj (S.rt.t m hm g hg) p _
     .rw [zbj (zq.1 hg).1 (zq.1 hj').1 e,zbj (zq.1 hg).1 (zq.1 hj').1 e];exact S.rt.t m hm j hj'
    .rw [zbj (zq.1 hm).1 (zq.1 hi).1 hcm];exact S.rt.t i hi
   .refine (ztb (h:=h) hm hM rfl kp i).trans ?_
    by_cases e:i=m
    .subst e;rw[zbi.2 rfl,cond_true,cond_true,e1,zeF hm];rfl
    .rw [zbH.2 e];rfl
theorem zOE (g:Int):zhm ⟨[],[],[],0⟩ g=⟨[],[],[],0⟩/\zkj ⟨[],[],[],0⟩ g=false:=by
 have:zkj ⟨[],[],[],0⟩ g=false:=by unfold zkj;rw[zVM];rfl
 refine ⟨?_,this⟩;unfold zhm;rw[this];rfl
theorem z1o {h:Host}(S:Safe h)(a:GAct):SimT h (zss h a) a.M (fun b=>zHW b a)/\zAV h a=zHX (zA h a.M) a:=by
 have hn:=zrZ;unfold zss zAV zHW zHX;cases ieq a.Kind 1 with
 | true =>
  obtain ⟨k,e⟩:=step_ok S a.M a.G;exact ⟨k,by rw[cond_true,cond_true,e]⟩
 | false =>
  simp only[cond_false];cases ieq a.Kind 2 with
  | true =>
   exact ⟨zoG S a.M (F:=fun b=>chg b a.G (zq5 a.X ⟨a.Y,a.Z⟩) (zx5 (gAt b a.G) a.X ⟨a.Y,a.Z⟩)) (fun b hb=>zpX hb fun _ hc G=>z4M G hc) (zoh _ _ _),
    congrArg (fun t=>Told.mk t 0) (zjX S a.M (t:=fun b=>zbM b a.G (zq5 a.X ⟨a.Y,a.Z⟩)) (zih _ _))⟩
  | false =>
   simp only[cond_false];cases ieq a.Kind 3 with
   | true =>
    obtain ⟨k,e⟩:=z1h S a.M a.G a.X;exact ⟨k,congrArg (fun t=>Told.mk t 0) e⟩
   | false =>
    simp only[cond_false];cases ieq a.Kind 4 with
    | true =>
     exact ⟨zoG S a.M (F:=fun b=>chg b a.G (zqz (gAt b a.G) a.X) (zuT (gAt b a.G) a.X)) (fun b hb=>zpX hb fun _ hc G=>z4J G hc) (zoh _ _ _),
      congrArg (fun t=>Told.mk t 0) (zjX S a.M (t:=fun b=>zbM b a.G (zqz (gAt b a.G) a.X)) (zih _ _))⟩
    | false =>
     simp only[cond_false];cases ieq a.Kind 5 with
     | true =>
      exact ⟨zoG S a.M (F:=fun b=>chg b a.G (zu6 (gAt b a.G)) (zu7 (gAt b a.G))) (fun b hb=>zpX hb fun _ _ G=>z4L G) (zoh _ _ _),
       congrArg (fun t=>Told.mk t 0) (zjX S a.M (t:=fun b=>zbM b a.G (zu6 (gAt b a.G))) (zih _ _))⟩
     | false =>
      simp only[cond_false];cases ieq a.Kind 6 with
      | true =>
       exact ⟨zoG S a.M (F:=fun b=>chg b a.G (zfD (gAt b a.G).Pending a.X) (zl6 (gAt b a.G) a.X)) (fun b hb=>zpX hb fun _ _ G=>zVE G _) (zoh _ _ _),
        congrArg (fun t=>Told.mk t 0) (zjX S a.M (t:=fun b=>zbM b a.G (zfD (gAt b a.G).Pending a.X)) (zih _ _))⟩
      | false =>
       simp only[cond_false];cases ieq a.Kind 7 with
       | true =>
        exact ⟨zoG S a.M (F:=fun b=>chg b a.G (zgK ⟨a.X,a.Y,ieq a.Z 1⟩) (zFs (gAt b a.G) ⟨a.X,a.Y,ieq a.Z 1⟩)) (fun b hb=>zpX hb fun _ hc G=>z4K G hc) (zoh _ _ _),
         congrArg (fun t=>Told.mk t 0) (zjX S a.M (t:=fun b=>zbM b a.G (zgK ⟨a.X,a.Y,ieq a.Z 1⟩)) (zih _ _))⟩
       | false =>
        simp only[cond_false];cases ieq a.Kind 8 with
        | true =>
         obtain ⟨k,e⟩:=z1I S a.M a.X a.Y a.Z;exact ⟨k,congrArg (fun t=>Told.mk t 0) e⟩
        | false =>
         simp only[cond_false];cases ieq a.Kind 9 with
         | true =>
          exact ⟨zoG S a.M (F:=fun b=>ziw b a.X) (fun b hb=>zWp hb _) (by unfold ziw zes;rw[hn];rfl),
           congrArg (fun t=>Told.mk t 0) (zjX S a.M (t:=fun b=>zes b a.X) (by unfold zes;rw[hn];rfl))⟩
         | false =>
          simp only[cond_false];cases ieq a.Kind 10 with
          | true =>
           refine ⟨zoG S a.M (F:=zk1) (fun b hb=>zYh hb) (by unfold zk1;rw[hn];rfl),?_⟩
           have e:=zjX S a.M (t:=zkg) (by unfold zkg;rw[hn];rfl)
           show Told.mk (zdE h a.M (zkg (zA h a.M))) (cond (zb2 h a.M) (zqy (zA h a.M)) (-1))=⟨zkg (zA h a.M),zqy (zA h a.M)⟩
           rw[e]
           congr 1
           unfold zb2;rw[zff.2 S.ok,cond_true];cases hm:hasB a.M (ln h.Mons) with
           | true=>rfl
           | false=>rw[seen_none hm];unfold zqy;rw[hn];rfl
          | false =>
           simp only[cond_false];cases ieq a.Kind 11 with
           | true =>
            obtain ⟨k,e⟩:=z6k S a.M a.G a.X a.Y;exact ⟨k,congrArg (fun t=>Told.mk t 0) e⟩
           | false =>
            obtain ⟨k,e1,e2⟩:=z5m S a.M a.G a.X;exact ⟨k,by simp only[cond_false];rw[e1,e2]⟩
theorem z1D {h:Host}(S:Safe h)(a:GAct):Safe (zlp h a)/\(∀i,zA (zlp h a) i=zA h i)/\(zlp h a).Mons.length=h.Mons.length:=by
 unfold zlp;have k:∀r,Op h r->Safe r/\(∀i,zA r i=zA h i)/\r.Mons.length=h.Mons.length:=fun r k=>⟨k.safe S,fun i=>k.like.seen i,k.like.len⟩;cases ieq a.Kind 13 with
 | true=>exact k _ (zXq S.ok _ _)
 | false =>
  simp only[cond_false];cases ieq a.Kind 14 with
  | true=>exact k _ (zZI S.ok _ _)
  | false =>
   simp only[cond_false];cases ieq a.Kind 15 with
   | true=>exact k _ (zOe S.ok _ _)
   | false =>
    simp only[cond_false];cases ieq a.Kind 16 with
    | true =>
     obtain ⟨h1,h2⟩:=zPU S a.M a.X;refine ⟨h1,h2,?_⟩;simp only[cond_true];unfold ziD;cases zbJ h<;>cases hasB a.M (ln h.Mons)<;>cases win a.X 0 3<;>first|rfl|exact zbz _ _ _
    | false=>exact k _ (z5i S.ok)
def zjl (a:GAct):Bool:=bif win a.Kind 1 17 then !win a.Kind 13 17 else false
theorem zYc {h:Host}(S:Safe h)(a:GAct):Safe (zd1 h a)/\(zd1 h a).Mons.length=h.Mons.length /\
 (∀i,zA (zd1 h a) i=bif (cond (zjl a) (ieq i a.M) false) then zHW (zA h i) a else zA h i)/\(zjl a=true->zin h a=zHX (zA h a.M) a):=by
 unfold zd1 zin zjl;cases win a.Kind 1 17 with
 | false=>exact ⟨S,rfl,fun _=>rfl,fun e=>by cases e⟩
 | true =>
  simp only[cond_true];cases win a.Kind 13 17 with
  | true =>
   obtain ⟨h1,h2,h3⟩:=z1D S a;exact ⟨h1,h3,fun i=>by simp only[cond_true,jH,cond_false];exact h2 i,fun e=>by cases e⟩
  | false =>
   obtain ⟨k,e⟩:=z1o S a;exact ⟨k.safe,k.len,fun i=>by simp only[cond_false,jL,cond_true];exact k.seen i,fun _=>e⟩
def zck (h:Host):List Bare:=(List.range h.Mons.length).map fun (i:Nat)=>zA h (i:Int)
theorem zf6 (h:Host):(zck h).length=h.Mons.length:=by simp[zck]
theorem zlc (h:Host)(m:Int):hasB m (ln (zck h))=hasB m (ln h.Mons):=by unfold ln;rw[zf6]
theorem zkh {h:Host}{m:Int}(hm:hasB m (ln h.Mons)=true)(d:Bare):ix (zck h) m d=zA h m:=by
 have hm':=zq.1 hm;unfold ln at hm';have hk:m.toNat<(zck h).length:=by rw[zf6];omega
 have:=zli hk d;rw[show ((m.toNat:Nat):Int)=m by omega] at this
 rw[this];simp[zck,show max m 0=m by omega]
theorem zHT {h r:Host}(hl:r.Mons.length=h.Mons.length)(e:∀i,zA r i=zA h i):zck r=zck h:=by
 unfold zck;rw[hl];exact List.map_congr_left fun i _=>e _
theorem zTS {h:Host}(S:Safe h)(a:GAct):zck (zd1 h a)=zHY (zck h) a/\(zjl a=true->zin h a=zWo (zck h) a):=by
 obtain ⟨_,hl,hs,ht⟩:=zYc S a;have key:zjl a=true->zck (zd1 h a)=(cond (hasB a.M (ln h.Mons)) (up (zck h) a.M (zHW (zA h a.M) a)) (zck h)):=by
  intro hi;rw[hi]at hs;cases hm:hasB a.M (ln h.Mons) with
  | false =>
   rw[cond_false];refine zrX ⟨[],[],[],0⟩ (by rw[zf6,zf6,hl]) fun i hi'=>?_
   rw[zlc]at hi';rw[zkh hi'];have hi2:hasB i (ln h.Mons)=true:=by unfold ln at hi' ⊢;rwa [<- hl]
   rw[zkh hi2,hs i];have:ieq i a.M=false:=zbH.2 fun e=>by rw[e,hm]at hi2;cases hi2
   rw[this];rfl
  | true =>
   rw[cond_true];refine zrX ⟨[],[],[],0⟩ (by rw[zbz,zf6,zf6,hl]) fun i hi'=>?_
   rw[zlc]at hi';rw[zkh hi',hs i];have hi2:hasB i (ln h.Mons)=true:=by unfold ln at hi' ⊢;rwa [<- hl]
   by_cases e:i=a.M
   .rw [e,zbi.2 rfl,zV (by rw[zlc];exact hm)];rfl
   .rw [zbH.2 e,zbj (zq.1 hm).1 (zq.1 hi2).1 (Ne.symm e),zkh hi2];rfl
 have e2:zjl a=false->zck (zd1 h a)=zck h:=fun hi=>zHT hl fun i=>by rw[hs i,hi];rfl
 have ke:zjl a=true->win a.Kind 1 17=true/\win a.Kind 13 17=false:=by
  intro hi;unfold zjl at hi;cases h1:win a.Kind 1 17<;>cases h2:win a.Kind 13 17<;>rw [h1,h2]at hi<;>first|exact ⟨rfl,rfl⟩|cases hi
 constructor
 .unfold zHY;cases hi:zjl a with
  | true =>
   obtain ⟨h1,h2⟩:=ke hi;rw[h1,h2,cond_true,cond_false,zlc,key hi];cases hm:hasB a.M (ln h.Mons) with
   | true=>rw[cond_true,cond_true,zkh hm]
   | false=>rfl
  | false =>
   rw[e2 hi];unfold zjl at hi;cases h1:win a.Kind 1 17 with
   | false=>rfl
   | true =>
    cases h2:win a.Kind 13 17 with
    | true=>rfl
    | false=>rw[h1,h2]at hi;cases hi
 .intro hi;rw[ht hi];obtain ⟨h1,h2⟩:=ke hi;unfold zWo;rw[h1,h2,cond_true,cond_false,zlc];cases hm:hasB a.M (ln h.Mons) with
  | true=>rw[cond_true,zkh hm]
  | false =>
   rw[cond_false,seen_none hm];have hs1:=(zOE a.G).2;have hn:=zrZ;unfold zHX;simp only[hs1,zih];unfold zv9 zes zkg zqy zxf zQm zmY;simp only[hn,zr5 hn,cond_false];cases h10:ieq a.Kind 10 with
   | true =>
    have:a.Kind=10:=zbi.1 h10;rw[this];rfl
   | false =>
    cases ieq a.Kind 1<;>cases ieq a.Kind 2<;>cases ieq a.Kind 3<;>cases ieq a.Kind 4<;>cases ieq a.Kind 5<;>cases ieq a.Kind 6<;>cases ieq a.Kind 7<;>cases ieq a.Kind 8<;>cases ieq a.Kind 9<;>cases ieq a.Kind 11<;>rfl
def zJb:List GAct->List Told->List Told
 | a :: l,t :: ts=>bif zjl a then t :: zJb l ts else zJb l ts
 | _,_=>[]
structure Live (u:Host×List Told) (v:List Bare×List Told):Prop where
 safe:Safe u.1
 seen:zck u.1=v.1
def zCg:List GAct->Host->List Told
 | [],_=>[]
 | a :: l,h=>zin h a :: zCg l (zd1 h a)
def z0n:List GAct->List Bare->List Told
 | [],_=>[]
 | a :: l,b=>zWo b a :: z0n l (zHY b a)
def ztC:List GAct->Host->Host
 | [],h=>h
 | a :: l,h=>ztC l (zd1 h a)
def z1d:List GAct->List Bare->List Bare
 | [],b=>b
 | a :: l,b=>z1d l (zHY b a)
theorem zVV:∀(l:List GAct) (u:Host×List Told),zBd l u=(ztC l u.1,u.2++zCg l u.1)
 | [],u=>by simp[zBd,ztC,zCg]
 | a :: l,u=>by rw[zBd,zVV l];simp[ztC,zCg,ap]
theorem zYY:∀(l:List GAct) {h:Host},Safe h->Safe (ztC l h)/\zck (ztC l h)=z1d l (zck h)/\zJb l (zCg l h)=zJb l (z0n l (zck h))/\(ztC l h).Mons.length=h.Mons.length
 | [],h,S=>⟨S,rfl,rfl,rfl⟩
 | a :: l,h,S=>by
  have h1:=zYc S a;have h2:=zTS S a;obtain ⟨e1,e2,e3,e4⟩:=zYY l h1.1;refine ⟨e1,by show zck (ztC l (zd1 h a))=z1d l (zHY (zck h) a);rw[e2,h2.1],?_,e4.trans h1.2.1⟩
  show (cond (zjl a) _ _)=(cond (zjl a) _ _)
  cases hi:zjl a with
  | false=>rw[cond_false,cond_false,e3,h2.1]
  | true=>rw[cond_true,cond_true,e3,h2.1,h2.2 hi]
theorem cz8 (q:Int)(hq:0<=q):zte.countP (fun s=>ieq s.Page q)=0:=by
 rw[uH];intro s hs;have:=(uN.1 hs).2;rw[this]
 show ¬ ieq (-1) q=true
 rw[zbi];omega
theorem zT9 {p:List Ins}(h:zcP p=true):GOk (zem p):=⟨h,rfl,rfl,rfl,rfl,rfl,rfl,rfl,rfl⟩
theorem zZC {ps:List (List Ins)}(h1:1<=ps.length)(h:∀p∈ps,zcP p=true):MOk (zfV ps):=by
 have e8:∀s∈zte,s=noSlot:=fun s hs=>(uN.1 hs).2;refine ⟨?_,?_,?_,rfl,fun s hs=>.inl (e8 s hs),rfl,rfl,jV _,rfl,rfl,rfl,fun g hg=>?_,fun p hp=>?_⟩
 .show 1<=((ps.take 2).map zem).length
  simp;omega
 .show ((ps.take 2).map zem).length<=2
  simp;omega
 .show ((ps.take 2).map (fun _=>zi3)).length=((ps.take 2).map zem).length
  simp
 .obtain ⟨p,hp,rfl⟩:=jA.1 hg;exact zrT.2 (zT9 (h p (jY hp)))
 .have hp':=zq.1 hp;have e:p=0\/p=1\/p=2\/p=3\/p=4\/p=5\/p=6\/p=7:=by omega
  rcases e with rfl|rfl|rfl|rfl|rfl|rfl|rfl|rfl<;>rfl
def z3U (ps:List (List (List Ins))):Prop:=1<=ps.length/\∀p∈ps,1<=p.length/\∀x∈p,zcP x=true
theorem zW5 {ps:List (List (List Ins))}(h:z3U ps):Safe (ze2 ps):=by
 have hmem:∀x∈(ze2 ps).Mons,∃p∈ps,x=zfV p:=fun x hx=>by
  obtain ⟨p,hp,rfl⟩:=jA.1 hx;exact ⟨p,jY hp,rfl⟩
 have hO:∀x∈(ze2 ps).Mons,x.Outer=zte:=fun x hx=>by
  obtain ⟨p,_,rfl⟩:=hmem x hx;rfl
 have H:HOk (ze2 ps):=by
  refine ⟨rfl,fun c hc=>?_,?_,?_,rfl,rfl,fun x hx=>?_,fun q hq=>?_⟩
  .have:c=[0,0,0,0]:=(uN.1 hc).2;rw[this];rfl
  .show 1<=((ps.take 3).map zfV).length
   have:=h.1;simp;omega
  .show ((ps.take 3).map zfV).length<=3
   simp;omega
  .obtain ⟨p,hp,rfl⟩:=hmem x hx;exact zZC (h.2 p hp).1 (h.2 p hp).2
  .have:zey (ze2 ps).Mons q=0:=by
    unfold zey;have:(ze2 ps).Mons.map (fun x=>cPg x q)=(ze2 ps).Mons.map (fun _=>0):=List.map_congr_left fun x hx=>by
     unfold cPg;rw[hO x hx];exact cz8 q hq
    rw[this];generalize (ze2 ps).Mons=l
    induction l with
    | nil=>rfl
    | cons x l ih=>rw[jB,uG,ih]
   omega
 refine ⟨H,fun m hm g hg=>?_,fun e he=>(by cases he),fun e he=>(by cases he)⟩
 obtain ⟨p,hp,e⟩:=hmem _ (zku hm mZ);rw[e]at hg ⊢;have hg1:hasB g (ln ((p.take 2).map zem))=true:=hg;have ht:ix (zfV p).Tables g kZ=zi3:=by
  have:hasB g (ln ((p.take 2).map (fun _=>zi3)))=true:=by
   unfold ln at hg1 ⊢;simpa using hg1
  obtain ⟨k,hk,_,e2⟩:=zxB this kZ
  show ix ((p.take 2).map (fun _=>zi3)) g kZ=_
  rw[e2];simp
 have hl:(ix (zfV p).Guests g gZ).Live=zkc:=by
  obtain ⟨k,hk,_,e2⟩:=zxB hg1 gZ
  show (ix ((p.take 2).map zem) g gZ).Live=_
  rw[e2];simp[zem]
 rw[ht,hl]
 show KOk zi3 zkc zte
 refine ⟨rfl,rfl,fun i hi=>?_⟩;have hi':=zq.1 hi;have:ln zkc=4:=rfl;rw[this]at hi';have e4:i=0\/i=1\/i=2\/i=3:=by omega
 rcases e4 with rfl|rfl|rfl|rfl<;>rfl
def z3u:zO:=[(68,zu9),(69,zsM),(182,zqT)]++zlX
theorem zxc:zF z3u:=zh zyE (zh zvU (zh ztN zdA))
theorem zl0 (l:List Int):eqI l l=true:=by
 unfold eqI
 induction l with
 | nil=>rfl
 | cons x l ih=>rw[all2,zcC,ih];rfl
def ziP (x y:List Slot):Bool:=pc (x=y)
def zjc (_ _:List Slot):Bool:=true
def zuf:Run:=rF2 (dS .slot) (dS .slot) fun b c=>(ziP b c,[aB (zjc b c)])
def zyy (N:Nat)(a0 a1:lS):OA:=
 (cond (ine (ln a0) (ln a1)) oF (iter (σ:=(Int×(lS×(lS×Unit)))) N (fun r3 s4=>let y1:=(ix s4.2.1 s4.1 zJ);let y0:=(ix s4.2.2.1 s4.1 zJ); (cond (ilt s4.1 (ln s4.2.1)) (oN (inb s4.1 (ln s4.2.1)) (oN (inb s4.1 (ln s4.2.2.1)) (cond (nB (cond (ieq y1.Page y0.Page) (ieq y1.Rights y0.Rights) false)) oF (r3 ((zG .i64 s4.1 1),(s4.2.1,(s4.2.2.1,()))))))) oT)) (0,(a0,(a1,())))))
def zKC:FuncId->Nat->Option Tmpl:=zo [(284,0,{ n:=26,tm:=[(0,.sl 0 []),(1,.sl 1 []),(5,ti)],lo:=[],ro:=[(0,.slot,false),(1,.slot,false)] })]
theorem zJB (a0 a1:List Slot)(hb:zbB big [aS .slot a0,aS .slot a1])(hc:ziP a0 a1=true):∃N,zyy N a0 a1=some [aB (zjc a0 a1)]:=by
 have:=zC.1 hc;subst this;have hl:=(len0 hb);refine ⟨a0.length+1,?_⟩;unfold zyy oN nB
 conv=>zeta
 rw[zbS];refine zgm a0 zJ _ _ hl (fun i hi rec=>?_) (fun rec=>?_) (jP _)
 .simp only [zbh hi,zN hi,zZ hi,zl0,ziv,zbS,zcC,zcV,cT,cF,jH,jL]
 .simp only [zbb,cF,zjc]
theorem zDb:vF 284 zuf:=hF2 zxc zW zl zn zKC zJB
def znQ (x y:List Ins):Bool:=pc (x=y)
def znP (_ _:List Ins):Bool:=true
def zwC:Run:=rF2 (dS .ins) (dS .ins) fun b c=>(znQ b c,[aB (znP b c)])
def zz3 (N:Nat)(a0 a1:lI):OA:=
 (cond (ine (ln a0) (ln a1)) oF (iter (σ:=(Int×(lI×(lI×Unit)))) N (fun r3 s4=>let y1:=(ix s4.2.1 s4.1 zn6);let y0:=(ix s4.2.2.1 s4.1 zn6); (cond (ilt s4.1 (ln s4.2.1)) (oN (inb s4.1 (ln s4.2.1)) (oN (inb s4.1 (ln s4.2.2.1)) (cond (nB (cond (ieq y1.Op y0.Op) (ieq y1.X y0.X) false)) oF (r3 ((zG .i64 s4.1 1),(s4.2.1,(s4.2.2.1,()))))))) oT)) (0,(a0,(a1,())))))
def zM4:FuncId->Nat->Option Tmpl:=zo [(283,0,{ n:=26,tm:=[(0,.sl 0 []),(1,.sl 1 []),(5,ti)],lo:=[],ro:=[(0,.ins,false),(1,.ins,false)] })]
theorem zMg (a0 a1:List Ins)(hb:zbB big [aS .ins a0,aS .ins a1])(hc:znQ a0 a1=true):∃N,zz3 N a0 a1=some [aB (znP a0 a1)]:=by
 have:=zC.1 hc;subst this;have hl:=(len0 hb);refine ⟨a0.length+1,?_⟩;unfold zz3 oN nB
 conv=>zeta
 rw[zbS];refine zgm a0 zn6 _ _ hl (fun i hi rec=>?_) (fun rec=>?_) (jP _)
 .simp only [zbh hi,zN hi,zZ hi,zl0,ziv,zbS,zcC,zcV,cT,cF,jH,jL]
 .simp only [zbb,cF,znP]
theorem zGa:vF 283 zwC:=hF2 zxc zW zl zn zM4 zMg
def zpJ (x y:List (List Int)):Bool:=pc (x=y)
def zqq (_ _:List (List Int)):Bool:=true
def zy1:Run:=rF2 (dS (.sl .int)) (dS (.sl .int)) fun b c=>(zpJ b c,[aB (zqq b c)])
def zD9 (N:Nat)(a0:lM)(a1:lM):OA:=
 (cond (ine (ln a0) (ln a1)) oF (iter (σ:=(Int×(lM×(lM×Unit)))) N (fun r3 s4=>(cond (ilt s4.1 (ln s4.2.1)) (oN (inb s4.1 (ln s4.2.1)) (oN (inb s4.1 (ln s4.2.2.1)) (oN (zgf (ix s4.2.1 s4.1 []) (ix s4.2.2.1 s4.1 [])) (cond (nB (zhe (ix s4.2.1 s4.1 []) (ix s4.2.2.1 s4.1 []))) oF (r3 ((zG .i64 s4.1 1),(s4.2.1,(s4.2.2.1,())))))))) oT)) (0,(a0,(a1,())))))
def zP2:FuncId->Nat->Option Tmpl:=zo [(180,0,{ n:=27,tm:=[(0,.sl 0 []),(1,.sl 1 []),(5,ti)],lo:=[],ro:=[(0,(.sl .int),false),(1,(.sl .int),false)] })]
theorem zPw (a0:List (List Int))(a1:List (List Int))(hb:zbB big [aS (.sl .int) a0,aS (.sl .int) a1])(hc:zpJ a0 a1=true):∃N,zD9 N a0 a1=some [aB (zqq a0 a1)]:=by
 have:=zC.1 hc;subst this;have hl:=(len0 hb);refine ⟨a0.length+1,?_⟩;unfold zD9 oN nB;rw[zbS];refine zgm a0 (Ty.dflt (.sl .int)) _ _ hl (fun i hi rec=>?_) (fun rec=>?_) (jP _)
 .simp only [zbh hi,zN hi,zZ hi,zgf,zhe,zl0,ziv,zbS,zcC,zcV,cT,cF,jH,jL]
 .simp only [zbb,cF,zqq]
theorem zIR:vF 180 zy1:=hF2 zxc zW zl zn zP2 zPw
def z3v:zO:=[(284,zuf),(283,zwC),(180,zy1)]++z3u
theorem zQZ:zF z3v:=zh zDb (zh zGa (zh zIR zxc))
def zlU (x y:Guest):Bool:=pc (x=y)
def zly (_ _:Guest):Bool:=true
def zue:Run:=rF2 (dT .guest) (dT .guest) fun b c=>(zlU b c,[aB (zly b c)])
def zyx (N:Nat)(a0 a1:Guest):OA:=
 (oN (znQ a0.Prog a1.Prog) (cond (znP a0.Prog a1.Prog) (cond (ieq a0.A a1.A) (cond (ieq a0.Pc a1.Pc) (oN (ziP a0.Written a1.Written) (cond (zjc a0.Written a1.Written) (oN (ziP a0.Live a1.Live) (cond (zjc a0.Live a1.Live) (cond (cond (ieq a0.Ctl.Traps a1.Ctl.Traps) (cond (ieq a0.Ctl.Post a1.Ctl.Post) (zif a0.Ctl.Open a1.Ctl.Open) false) false) (cond (ieq a0.Pending a1.Pending) (cond (cond (ieq a0.Exit.Kind a1.Exit.Kind) (cond (ieq a0.Exit.Page a1.Exit.Page) (cond (zif a0.Exit.Write a1.Exit.Write) (ieq a0.Exit.N a1.Exit.N) false) false) false) (cond (zif a0.Halted a1.Halted) (oN (zgf a0.Seen a1.Seen) (some [(aB (zhe a0.Seen a1.Seen))])) oF) oF) oF) oF) oF)) oF)) oF) oF) oF))
theorem zJA (a0 a1:Guest)(hc:zlU a0 a1=true):∃N,zyx N a0 a1=some [aB (zly a0 a1)]:=by
 have:=zC.1 hc;subst this;refine ⟨0,?_⟩;simp only[zyx,znQ,znP,ziP,zjc,zgf,zhe,zl0,ziv,zbS,zcC,zcV,cT,cF,jH,jL,zly]
theorem zDa:vF 230 zue:=kF2 zQZ zW zl zn (zo []) zJA
def z3w:zO:=[(230,zue)]++z3v
theorem zQ0:zF z3w:=zh zDa zQZ
def zhF (x y:List Guest):Bool:=pc (x=y)
def zhh (_ _:List Guest):Bool:=true
def zoa:Run:=rF2 (dS .guest) (dS .guest) fun b c=>(zhF b c,[aB (zhh b c)])
def zq9 (N:Nat)(a0 a1:lG):OA:=
 (cond (ine (ln a0) (ln a1)) oF (iter (σ:=(Int×(lG×(lG×Unit)))) N (fun r3 s4=>let y1:=(ix s4.2.1 s4.1 zx);let y0:=(ix s4.2.2.1 s4.1 zx); (cond (ilt s4.1 (ln s4.2.1)) (oN (inb s4.1 (ln s4.2.1)) (oN (inb s4.1 (ln s4.2.2.1)) (oN (zlU y1 y0) (cond (nB (zly y1 y0)) oF (r3 ((zG .i64 s4.1 1),(s4.2.1,(s4.2.2.1,())))))))) oT)) (0,(a0,(a1,())))))
def zzB:FuncId->Nat->Option Tmpl:=zo [(181,0,{ n:=27,tm:=[(0,.sl 0 []),(1,.sl 1 []),(5,ti)],lo:=[],ro:=[(0,.guest,false),(1,.guest,false)] })]
theorem zzA (a0 a1:List Guest)(hb:zbB big [aS .guest a0,aS .guest a1])(hc:zhF a0 a1=true):∃N,zq9 N a0 a1=some [aB (zhh a0 a1)]:=by
 have:=zC.1 hc;subst this;have hl:=(len0 hb);refine ⟨a0.length+1,?_⟩;unfold zq9 oN nB
 conv=>zeta
 rw[zbS];refine zgm a0 zx _ _ hl (fun i hi rec=>?_) (fun rec=>?_) (jP _)
 .simp only [zbh hi,zN hi,zZ hi,zlU,zly,zl0,ziv,zbS,zcC,zcV,cT,cF,jH,jL]
 .simp only [zbb,cF,zhh]
theorem zvV:vF 181 zoa:=hF2 zQ0 zW zl zn zzB zzA
def z3x:zO:=[(181,zoa)]++z3w
theorem zQ1:zF z3x:=zh zvV zQ0
def zs4 (x y:Bare):Bool:=pc (x=y)
def zrE (_ _:Bare):Bool:=true
def zwB:Run:=rF2 (dT .bare) (dT .bare) fun b c=>(zs4 b c,[aB (zrE b c)])
def zz2 (N:Nat)(a0 a1:Bare):OA:=
 (oN (zpJ a0.Memory a1.Memory) (cond (zqq a0.Memory a1.Memory) (oN (zhF a0.Guests a1.Guests) (cond (zhh a0.Guests a1.Guests) (oN (zgf a0.Outs a1.Outs) (cond (zhe a0.Outs a1.Outs) (some [(aB (ieq a0.Pending a1.Pending))]) oF)) oF)) oF))
theorem zMf (a0 a1:Bare)(hc:zs4 a0 a1=true):∃N,zz2 N a0 a1=some [aB (zrE a0 a1)]:=by
 have:=zC.1 hc;subst this;refine ⟨0,?_⟩;simp only[zz2,zpJ,zqq,zhF,zhh,zgf,zhe,zl0,ziv,zbS,zcC,zcV,cT,cF,jH,jL,zrE]
theorem zF9:vF 139 zwB:=kF2 zQ1 zW zl zn (zo []) zMf
def z3y:zO:=[(139,zwB)]++z3x
theorem zQ2:zF z3y:=zh zF9 zQ1
@[simp] abbrev zrF (h:Host)(m:Int):Bool:=pc (zbA h)
@[simp] abbrev zmh (h:Host)(m:Int):Bare:=zA h m
def zBL:Run:=rF2 dH dI fun b c=>(zrF b c,[aT .bare (zmh b c)])
def zHF (N:Nat)(a0:Host)(a1:Int):OA:=
 (oN (zB5 a0 a1) (cond (nB (zqn a0 a1)) (some [(aT .bare (⟨[],[],[],0⟩:Bare))]) (iter (σ:=(Int×(Int×(Int×(Int×(lM×(lN×(lE×(lE×(lM×(lG×((List Int)×(lM×(lG×((List Int)×Unit))))))))))))))) N (fun r3 s4=>let y3:=s4.2.2.2.2.2.2.2.2.2.2.2.2.1;let y2:=s4.2.2.2.2.2.2.2.2.2.2.2.2.2.1;let y0:=(⟨s4.2.2.2.2.1,s4.2.2.2.2.2.1,s4.2.2.2.2.2.2.1,s4.2.2.2.2.2.2.2.1⟩:Host);let y1:=(ap s4.2.2.2.2.2.2.2.2.2.2.2.1 [(zxU y0 s4.1 s4.2.1)]); (cond (ilt s4.2.1 8) (oN (zxV y0 s4.1 s4.2.1) (oN (few (ln y1)) (r3 (s4.1,((zG .i64 s4.2.1 1),(s4.2.2.1,(s4.2.2.2.1,(s4.2.2.2.2.1,(s4.2.2.2.2.2.1,(s4.2.2.2.2.2.2.1,(s4.2.2.2.2.2.2.2.1,(s4.2.2.2.2.2.2.2.2.1,(s4.2.2.2.2.2.2.2.2.2.1,(s4.2.2.2.2.2.2.2.2.2.2.1,(y1,(y3,(y2,()))))))))))))))))) (some [(aT .bare (⟨s4.2.2.2.2.2.2.2.2.2.2.2.1,y3,y2,s4.2.2.2.1⟩:Bare))]))) (a1,(0,(0,((zet a0 a1).Pending,(a0.Memory,(a0.Mons,(a0.Buffer,(a0.IoBuffer,([],([],([],([],((zet a0 a1).Guests,((zet a0 a1).Outs,())))))))))))))))))
def zTD:FuncId->Nat->Option Tmpl:=zo [(20,0,{ n:=39,tm:=[(1,ti),(2,.lp 0 0),(4,.lp 1 0),(7,.lp 2 0),(8,ti)],lo:=[(0,[.sl 0 [],.sl 1 [],.sl 2 [],.sl 3 []]),(1,[.sl 4 [],.sl 5 [],.sl 6 [],ti]),(2,[.sl 7 [],.sl 8 [],.sl 9 [],ti])],ro:=[(0,(.sl .int),false),(1,.mon,false),(2,.entry,false),(3,.entry,false),(4,(.sl .int),true),(5,.guest,true),(6,.int,true),(7,(.sl .int),true),(8,.guest,true),(9,.int,true)] })]
theorem zR9 (a0:Host)(a1:Int)(hc:zrF a0 a1=true):∃N,zHF N a0 a1=some [aT .bare (zmh a0 a1)]:=by
 have hs:=zC.1 hc;refine zbT fun N hNN=>?_;unfold zHF zmh zA oN nB
 conv=>zeta
 refine must (zbp hs) ?_;rw[show zqn a0 a1=hasB a1 (ln a0.Mons) from rfl]
 cases hh:hasB a1 (ln a0.Mons)
 .rfl
 .refine zc6 rfl ?_;refine (zov 8 (fun i (t:lM)=>(a1,(i:Int),0,(zet a0 a1).Pending,a0.Memory,a0.Mons,a0.Buffer,a0.IoBuffer,[],[],[],t,(zet a0 a1).Guests,(zet a0 a1).Outs,())) _ (fun i (acc:List (List Int)) κ=>bif few (ln (ap acc [zbR a0 a1 (i:Int)])) then κ (ap acc [zbR a0 a1 (i:Int)]) else none) (fun (t:lM)=>(some [(.agg (Ty.cells .bare (⟨t,(zet a0 a1).Guests,(zet a0 a1).Outs,(zet a0 a1).Pending⟩:Bare)))])) (fun i hi t rec=>?_) (fun t rec=>?_) _ ([]) (hNN (by decide))).trans ?_
  .simp only [show ilt (i:Int) 8=true from qK (by omega),zU hi (show 8<=big by decide),cT]
   exact must (zbp hs) rfl
  .simp only [show ilt (((8:Nat)):Int) 8=false from qJ (by omega),cF]
  rw[zN4 a0 a1 _ 8 0 [] (by decide)]
  simp only[zet,hh,cT,jQ]
theorem zLt:vF 20 zBL:=kF2 zQ2 zW zl zn zTD zR9
def z3z:zO:=[(20,zBL)]++z3y
theorem zQ3:zF z3z:=zh zLt zQ2
theorem zRj {ρ:Type}(h:Host)(K:List Bare->Option ρ):∀(l:List Mon) (i:Nat) (acc:List Bare),acc.length+l.length<=2147483648 ->
 goL (fun i (_:Mon) acc κ=>bif few (ln (ap acc [zA h (i:Int)])) then κ (ap acc [zA h (i:Int)]) else none) K l i acc=K (acc++(List.range' i l.length).map fun (i:Nat)=>zA h (i:Int))
 | [],_,acc,_=>by simp[goL]
 | x :: l,i,acc,hl=>by
  simp only[qU]at hl;simp only[goL];rw[zfU (by simp[ap];omega),cT,zRj h K l (i+1) _ (by simp[ap];omega)]
  simp[ap,uW]
@[simp] abbrev zqY (h:Host):Bool:=pc (zbA h)
@[simp] abbrev zpq (h:Host):List Bare:=zck h
def zt3:Run:=rF1 dH fun b=>(zqY b,[aS .bare (zpq b)])
def zyo (N:Nat)(a0:Host):OA:=
 (iter (σ:=(Int×(lR×(lM×(lN×(lE×(lE×Unit))))))) N (fun r2 s3=>let y0:=(⟨s3.2.2.1,s3.2.2.2.1,s3.2.2.2.2.1,s3.2.2.2.2.2.1⟩:Host);let y1:=(ap s3.2.1 [(zmh y0 s3.1)]); (cond (ilt s3.1 (ln s3.2.2.2.1)) (oN (zrF y0 s3.1) (oN (few (ln y1)) (r2 ((zG .i64 s3.1 1),(y1,(s3.2.2.1,(s3.2.2.2.1,(s3.2.2.2.2.1,(s3.2.2.2.2.2.1,()))))))))) (some [(aS .bare s3.2.1)]))) (0,([],(a0.Memory,(a0.Mons,(a0.Buffer,(a0.IoBuffer,())))))))
def zKw:FuncId->Nat->Option Tmpl:=zo [(77,0,{ n:=20,tm:=[(1,.lp 0 0),(3,.sl 0 []),(4,ti)],lo:=[(0,[.sl 1 [],.sl 2 [],.sl 3 [],.sl 4 []])],ro:=[(0,.bare,true),(1,(.sl .int),false),(2,.mon,false),(3,.entry,false),(4,.entry,false)] })]
theorem zJr (a0:Host)(hc:zqY a0=true):∃N,zyo N a0=some [aS .bare (zpq a0)]:=by
 have hs:=zC.1 hc;have hl:a0.Mons.length<=big:=(zcd ((zM a0).1 hs).2.1.1).1;refine zbT fun N hNN=>?_;unfold zyo oN
 conv=>zeta
 refine (zba a0.Mons (fun i (t:lR)=>((i:Int),t,a0.Memory,a0.Mons,a0.Buffer,a0.IoBuffer,())) _ (fun i (x:Mon) (t:List Bare) κ=>bif few (ln (ap t [zA a0 (i:Int)])) then κ (ap t [zA a0 (i:Int)]) else none) (fun (t:lR)=>(some [(.one (.s .bare t))])) (fun i hi t rec=>?_) (fun t rec=>?_) _ ([]) (hNN hl)).trans ?_
 .simp only [zbh hi,zN hi,zZ hi,zU hi hl,cT];exact must (zbp hs) rfl
 .simp only [zbb,cF]
 rw[zRj a0 _ _ 0 [] (by simpa using (zcd ((zM a0).1 hs).2.1.1).2)]
 simp[zck,u1]
theorem zC2:vF 77 zt3:=kF1 zQ3 zW zl zn zKw zJr
def z3A:zO:=[(77,zt3)]++z3z
theorem zQ4:zF z3A:=zh zC2 zQ3
theorem zVH {α ρ:Type}(K:Unit->Option ρ):∀(l:List α) (i:Nat),goL (fun _ _ (_:Unit) κ=>κ ()) K l i ()=K ()
 | [],_=>rfl
 | _ :: l,i=>zVH K l (i+1)
@[simp] abbrev zsY (h:Host)(l:List Bare):Bool:=pc (zbA h/\l=zck h)
@[simp] abbrev zxR (_:Host)(_:List Bare):Bool:=true
def zwx:Run:=rF2 dH (dS .bare) fun b c=>(zsY b c,[aB (zxR b c)])
def zzZ (N:Nat)(a0:Host)(a1:lR):OA:=
 (cond (ine (ln a1) (ln a0.Mons)) oF (iter (σ:=(Int×(lR×(lM×(lN×(lE×(lE×Unit))))))) N (fun r3 s4=>let y1:=(ix s4.2.1 s4.1 zKH);let y0:=(⟨s4.2.2.1,s4.2.2.2.1,s4.2.2.2.2.1,s4.2.2.2.2.2.1⟩:Host); (cond (ilt s4.1 (ln s4.2.1)) (oN (zrF y0 s4.1) (oN (inb s4.1 (ln s4.2.1)) (oN (zs4 (zmh y0 s4.1) y1) (cond (nB (zrE (zmh y0 s4.1) y1)) oF (r3 ((zG .i64 s4.1 1),(s4.2.1,(s4.2.2.1,(s4.2.2.2.1,(s4.2.2.2.2.1,(s4.2.2.2.2.2.1,()))))))))))) oT)) (0,(a1,(a0.Memory,(a0.Mons,(a0.Buffer,(a0.IoBuffer,()))))))))
def zM2:FuncId->Nat->Option Tmpl:=zo [(76,0,{ n:=27,tm:=[(1,.sl 0 []),(2,.lp 0 0),(5,ti)],lo:=[(0,[.sl 1 [],.sl 2 [],.sl 3 [],.sl 4 []])],ro:=[(0,.bare,false),(1,(.sl .int),false),(2,.mon,false),(3,.entry,false),(4,.entry,false)] })]
theorem zMb (a0:Host)(a1:List Bare)(hc:zsY a0 a1=true):∃N,zzZ N a0 a1=some [aB (zxR a0 a1)]:=by
 obtain ⟨hs,he⟩:=zC.1 hc;have hl:a1.length<=big:=by rw[he,zf6];exact (zcd ((zM a0).1 hs).2.1.1).1
 refine zbT fun N hNN=>?_;unfold zzZ oN nB
 conv=>zeta
 rw[show ine (ln a1) (ln a0.Mons)=false by unfold ln;rw[he,zf6];exact zbS _]
 refine zc6 rfl ?_;refine (zba a1 (fun i (t:Unit)=>((i:Int),a1,a0.Memory,a0.Mons,a0.Buffer,a0.IoBuffer,())) _ (fun i (x:Bare) (_:Unit) κ=>κ ()) (fun (t:Unit)=>(some [(.one (.b true))])) (fun i hi t rec=>?_) (fun t rec=>?_) _ () (hNN hl)).trans ?_
 .simp only [zbh hi,zN hi,zZ hi,zU hi hl,cT];have e:zmh a0 (i:Int)=a1[i]:=by simp[he,zck]
  refine must (zbp hs) ?_;rw[e];exact must (zY rfl) rfl
 .simp only [zbb,cF]
 rw[zVH]
theorem zF5:vF 76 zwx:=kF2 zQ4 zW zl zn zM2 zMb
def z6L:zO:=[(76,zwx)]++z3A
theorem z08:zF z6L:=zh zF5 zQ4
@[simp] abbrev zs5 (a b:Host):Bool:=pc (zbA a/\zbA b/\zck a=zck b)
@[simp] abbrev zxX (_ _:Host):Bool:=true
def zwD:Run:=rF2 dH dH fun b c=>(zs5 b c,[aB (zxX b c)])
def zz4 (N:Nat)(a0 a1:Host):OA:=
 (oN (zqY a1) (oN (zsY a0 (zpq a1)) (some [(aB (zxR a0 (zpq a1)))])))
theorem zMh (a0 a1:Host)(hc:zs5 a0 a1=true):∃N,zz4 N a0 a1=some [aB (zxX a0 a1)]:=by
 obtain ⟨h1,h2,h3⟩:=zC.1 hc;refine ⟨0,?_⟩;unfold zz4 oN;exact must (zbp h2) (must (zbp ⟨h1,h3.symm⟩) rfl)
theorem zGb:vF 26 zwD:=kF2 z08 zW zl zn (zo []) zMh
theorem zqe {α:Type}(P:α->Bool):∀(l:List α) (i:Nat),(idxs P l i).length=l.countP P
 | [],i=>rfl
 | x :: l,i=>by
  rw[idxs,kX];cases P x with
  | true=>rw[cond_true,qU,zqe P l];simp
  | false=>rw[cond_false,zqe P l];simp
theorem zSy {h:Host}{m:Int}(hm:hasB m (ln h.Mons)=true):zkz h m=ix h.Mons m mZ:=by unfold zkz;rw[hm];rfl
structure Clear (h:Host) (m p:Int):Prop where
 d:ix (ix h.Mons m mZ).Dirty p false=false
 s:(ix (ix h.Mons m mZ).Outer p sZ).Page≠-1->(ix (ix h.Mons m mZ).Outer p sZ).Rights=1/\(∀e∈h.Buffer,e.Host≠(ix (ix h.Mons m mZ).Outer p sZ).Page)/\(∀e∈h.IoBuffer,e.Host≠(ix (ix h.Mons m mZ).Outer p sZ).Page) /\
  ∀g i,hasB g (ln (ix h.Mons m mZ).Guests)=true->hasB i (ln (ix (ix h.Mons m mZ).Guests g gZ).Live)=true->(ix (ix (ix h.Mons m mZ).Guests g gZ).Live i sZ).Page=p->ix (ix (ix h.Mons m mZ).Tables g kZ).Known i false=false
theorem zAz {h:Host}(H:HOk h){m p:Int}(hm:hasB m (ln h.Mons)=true)(hp:hasB p 8=true) :
 ((ix (ix h.Mons m mZ).Outer p sZ).Page = -1/\zdo h m p=zev h m p)\/((ix (ix h.Mons m mZ).Outer p sZ).Page≠-1/\zdo h m p=zbL (zev h m p) m p ⟨(ix (ix h.Mons m mZ).Outer p sZ).Page,1⟩):=by
 have hh:zbQ h m p=true:=zjU.2 ⟨H,hm,hp⟩;unfold zdo;rw[hh,cond_true]
 by_cases e:(ix (ix h.Mons m mZ).Outer p sZ).Page = -1
 .exact .inl ⟨e,by rw[show zcq (ix (ix h.Mons m zf).Outer p zJ) noSlot=true from zkY.2 (((H.mon hm).slot hp).none e),cond_true]⟩
 .exact .inr ⟨e,by rw[show zcq (ix (ix h.Mons m zf).Outer p zJ) noSlot=false from zmJ.2 (fun h=>e (by rw[show ix (ix _ m mZ).Outer p sZ=noSlot from h];rfl)),cond_false]⟩
theorem zrP {h:Host}{m:Int}(hm:hasB m (ln h.Mons)=true)(p:Int):ix (zev h m p).Mons m mZ=zlH (ix h.Mons m mZ) p:=zV hm _ _
theorem zVg {h:Host}{m:Int}(p i:Int):hasB i (ln (zev h m p).Mons)=hasB i (ln h.Mons):=by show hasB i (ln (up h.Mons m _))=_;rw[zdc]
theorem zE8 {h:Host}{m p:Int}(hm:hasB m (ln h.Mons)=true)(s:Slot):ix (zbL (zev h m p) m p s).Mons m mZ=zgM (zlH (ix h.Mons m mZ) p) p s:=by
 rw[ziW,zV (by rw[zVg];exact hm),zrP hm]
theorem zT7 {h:Host}(S:Safe h){m p q:Int}(hm:hasB m (ln h.Mons)=true)(hp:hasB p 8=true)(hq:hasB q 8=true)(hc:p=q\/Clear h m p):Clear (zdo h m q) m p:=by
 have H:=S.ok;have X:=H.mon hm;have hd:ix (up (ix h.Mons m mZ).Dirty q false) p false=false:=by
  by_cases e:q=p
  .subst e;exact zV (X.hasD hq) _ _
  .rw [zbj (zq.1 hq).1 (zq.1 hp).1 e];rcases hc with e'|e'
   .exact absurd e'.symm e
   .exact e'.d
 rcases zAz H hm hq with ⟨e,eg⟩|⟨e,eg⟩
 .rw [eg];refine ⟨by rw[zrP hm];exact hd,?_⟩
  rw[zrP hm]
  show (ix (ix h.Mons m mZ).Outer p sZ).Page≠-1->_
  intro hn;rcases hc with e'|e'
  .subst e';exact absurd e hn
  .exact e'.s hn
 .rw [eg];have hb:=zuN (zev h m q) m q ⟨(ix (ix h.Mons m mZ).Outer q sZ).Page,1⟩;rw[zrP hm,show (ix (zlH (ix h.Mons m mZ) q).Outer q sZ).Page=(ix (ix h.Mons m mZ).Outer q sZ).Page from rfl,zbH.2 e,cond_false,cond_false]at hb
  have hO:ix (up (ix h.Mons m mZ).Outer q ⟨(ix (ix h.Mons m mZ).Outer q sZ).Page,1⟩) p sZ=(if p=q then ⟨(ix (ix h.Mons m mZ).Outer q sZ).Page,1⟩ else ix (ix h.Mons m mZ).Outer p sZ):=by
   by_cases e':p=q
   .subst e';rw[if_pos rfl];exact zV (X.hasO hq) _ _
   .rw [if_neg e',zbj (zq.1 hq).1 (zq.1 hp).1 (Ne.symm e')]
  refine ⟨by rw[zE8 hm];exact hd,?_⟩
  rw[zE8 hm,hb.1,hb.2]
  show (ix (up (ix h.Mons m mZ).Outer q ⟨(ix (ix h.Mons m mZ).Outer q sZ).Page,1⟩) p sZ).Page≠-1->(ix (up (ix h.Mons m mZ).Outer q ⟨(ix (ix h.Mons m mZ).Outer q sZ).Page,1⟩) p sZ).Rights=1/\(∀e∈flushed h.Buffer _,e.Host≠(ix (up (ix h.Mons m mZ).Outer q ⟨(ix (ix h.Mons m mZ).Outer q sZ).Page,1⟩) p sZ).Page)/\(∀e∈flushed h.IoBuffer _,e.Host≠(ix (up (ix h.Mons m mZ).Outer q ⟨(ix (ix h.Mons m mZ).Outer q sZ).Page,1⟩) p sZ).Page)/\∀g i,hasB g (ln (ix h.Mons m mZ).Guests)=true->hasB i (ln (ix (ix h.Mons m mZ).Guests g gZ).Live)=true->(ix (ix (ix h.Mons m mZ).Guests g gZ).Live i sZ).Page=p->ix (ix (zgO (ix h.Mons m mZ).Guests q (ix h.Mons m mZ).Tables.length (ix h.Mons m mZ).Tables) g kZ).Known i false=false
  rw[hO];have hT:∀g i,hasB g (ln (ix h.Mons m mZ).Guests)=true->hasB i (ln (ix (ix h.Mons m mZ).Guests g gZ).Live)=true->(ix (ix (ix h.Mons m mZ).Guests g gZ).Live i sZ).Page=p->(p≠q->ix (ix (ix h.Mons m mZ).Tables g kZ).Known i false=false)->ix (ix (zgO (ix h.Mons m mZ).Guests q (ix h.Mons m mZ).Tables.length (ix h.Mons m mZ).Tables) g kZ).Known i false=false:=by
   intro g i hg hi hpg hk;have hg':=zq.1 hg;unfold ln at hg';have K:=S.rt.t m hm g hg;rw[zwT _ _ _ _ (qW _) _ hg'.1,if_pos (by have:=X.gt;omega)]
   have hi':hasB i (ln (ix (ix h.Mons m mZ).Tables g kZ).Known)=true:=by unfold ln at hi ⊢;rwa [K.l1]
   have ha:=zjD (zn3 (ix (ix h.Mons m mZ).Guests g gZ).Live q) (by rw[K.l1,K.l2]) hi'
   unfold zdP
   by_cases e':p=q
   .exact (ha.1 (zke.2 ⟨hi,by rw[hpg,e']⟩)).1
   .rw [(ha.2 (fun hh=>e' (by rw[<- hpg,(zke.1 hh).2]))).1]
    exact hk e'
  by_cases e':p=q
  .rw [if_pos e'];exact fun _=>⟨rfl,fun x hx=>by have:=(kT.1 hx).2;simpa [ieq] using this,fun x hx=>by have:=(kT.1 hx).2;simpa [ieq] using this,fun g i hg hi hpg=>hT g i hg hi hpg (fun hn=>absurd e' hn)⟩
  .rw [if_neg e'];intro hn;have C:Clear h m p:=hc.resolve_left e';obtain ⟨c1,c2,c3,c4⟩:=C.s hn;exact ⟨c1,fun x hx=>c2 x (kT.1 hx).1,fun x hx=>c3 x (kT.1 hx).1,fun g i hg hi hpg=>hT g i hg hi hpg (fun _=>c4 g i hg hi hpg)⟩
theorem zAw {b:List Entry}{p:Int}(h:∀e∈b,e.Host≠p):flushed b p=b:=List.filter_eq_self.2 fun e he=>by simp[ieq,h e he]
theorem zT6 {k:Kept}{l o:List Slot}(K:KOk k l o){p:Int}(h:∀i,hasB i (ln l)=true->(ix l i sZ).Page=p->ix k.Known i false=false):zdP k l p=k:=by
 have hl:=zqC (zn3 l p) k;have e1:(zdP k l p).Known=k.Known:=zrX false hl.1 fun i hi=>by
  have hi':hasB i (ln k.Known)=true:=by unfold ln at hi ⊢;rw[<- hl.1];exact hi
  have hi2:hasB i (ln l)=true:=by unfold ln at hi' ⊢;rw[<- K.l1];exact hi'
  have ha:=zjD (zn3 l p) (by rw[K.l1,K.l2]) hi'
  by_cases e:(ix l i sZ).Page=p
  .exact (ha.1 (zke.2 ⟨hi2,e⟩)).1.trans (h i hi2 e).symm
  .exact (ha.2 (fun hh=>e (zke.1 hh).2)).1
 have e2:(zdP k l p).Slots=k.Slots:=zrX sZ hl.2 fun i hi=>by
  have hi2:hasB i (ln l)=true:=by unfold ln at hi ⊢;rw[<- K.l2,<- hl.2];exact hi
  have hi':hasB i (ln k.Known)=true:=by unfold ln at hi2 ⊢;rw[K.l1];exact hi2
  have ha:=zjD (zn3 l p) (by rw[K.l1,K.l2]) hi'
  by_cases e:(ix l i sZ).Page=p
  .exact (ha.1 (zke.2 ⟨hi2,e⟩)).2.trans (by rw[K.at' i hi2,h i hi2 e];rfl)
  .exact (ha.2 (fun hh=>e (zke.1 hh).2)).2
 cases hk:zdP k l p with
 | mk a b =>
  rw[hk] at e1 e2;cases k;cases e1;cases e2;rfl
theorem zZd {h:Host}(S:Safe h){m p:Int}(hm:hasB m (ln h.Mons)=true)(hp:hasB p 8=true)(C:Clear h m p):zdo h m p=h:=by
 have H:=S.ok;have X:=H.mon hm;have hu:zlH (ix h.Mons m mZ) p=ix h.Mons m mZ:=by
  unfold zlH;have:=zmr (X.hasD hp) false;rw[C.d] at this;rw[this]
 have hU:zev h m p=h:=by
  unfold zev;rw[show zlH (ix h.Mons m zf) p=ix h.Mons m mZ from hu,zmr hm mZ]
 rcases zAz H hm hp with ⟨e,eg⟩|⟨e,eg⟩
 .rw [eg,hU]
 .obtain ⟨c1,c2,c3,c4⟩:=C.s e;have hs:(⟨(ix (ix h.Mons m mZ).Outer p sZ).Page,1⟩:Slot)=ix (ix h.Mons m mZ).Outer p sZ:=zGW rfl c1.symm;have hb:=zuN h m p ⟨(ix (ix h.Mons m mZ).Outer p sZ).Page,1⟩;rw[zbH.2 e,cond_false,cond_false,zAw c2,zAw c3]at hb;have hT:zgO (ix h.Mons m mZ).Guests p (ix h.Mons m mZ).Tables.length (ix h.Mons m mZ).Tables=(ix h.Mons m mZ).Tables:=zrX kZ (zqs _ _ _ _) fun g hg=>by
   have hg':=zq.1 hg;unfold ln at hg';rw[zqs]at hg';have hg2:hasB g (ln (ix h.Mons m mZ).Guests)=true:=zq.2 (by have:=X.gt;unfold ln;omega)
   rw[zwT _ _ _ _ (qW _) _ hg'.1,if_pos (by omega)]
   exact zT6 (S.rt.t m hm g hg2) (c4 g · hg2)
  have hX:zgM (ix h.Mons m mZ) p ⟨(ix (ix h.Mons m mZ).Outer p sZ).Page,1⟩=ix h.Mons m mZ:=by
   unfold zgM zgI;rw[hT,hs,zmr (X.hasO hp)]
  have hM:=ziW h m p ⟨(ix (ix h.Mons m mZ).Outer p sZ).Page,1⟩;rw[hX,zmr hm]at hM;have hY:=zpR h m p ⟨(ix (ix h.Mons m mZ).Outer p sZ).Page,1⟩;rw[eg,hU];generalize zbL h m p ⟨(ix (ix h.Mons m mZ).Outer p sZ).Page,1⟩=r at hb hM hY;cases r;cases h;cases hb.1;cases hb.2;cases hM;cases hY;rfl
theorem zw5 (m:Int):∀(n i:Nat) {h:Host},Safe h->hasB m (ln h.Mons)=true->i+n<=8->(∀p:Int,0<=p->p<i->Clear h m p) ->
 Op h (zfd m n i h)/\∀p:Int,0<=p->p<(i+n:Nat)->Clear (zfd m n i h) m p
 | 0,i,h,S,hm,hi,hc=>⟨Op.refl S.ok,hc⟩
 | n+1,i,h,S,hm,hi,hc=>by
  have k:=zOe S.ok m (i:Int);have hi8:hasB (i:Int) 8=true:=zq.2 (by omega)
  obtain ⟨k1,k2⟩:=zw5 m n (i+1) (h:=zdo h m (i:Int)) (k.safe S) (by rw[k.like.has];exact hm) (by omega) fun p h0 h1=>by
   refine zT7 S hm (zq.2 (by omega)) hi8 ?_
   by_cases e:p=i
   .exact .inl e
   .exact .inr (hc p h0 (by omega))
  exact ⟨k.trans k1,fun p h0 h1=>k2 p h0 (by omega)⟩
theorem zEo (m:Int):∀(n i:Nat) {h:Host},Safe h->hasB m (ln h.Mons)=true->i+n<=8->(∀p:Int,0<=p->p<8->Clear h m p)->zfd m n i h=h
 | 0,i,h,S,hm,hi,hc=>rfl
 | n+1,i,h,S,hm,hi,hc=>by
  have e:=zZd S hm (zq.2 (by omega)) (hc (i:Int) (by omega) (by omega))
  rw[zfd,e];exact zEo m n (i+1) S hm (by omega) hc
theorem zWt {h:Host}(S:Safe h){m:Int}(hm:hasB m (ln h.Mons)=true) :
 Safe (cleaned h m)/\zck (cleaned h m)=zck h/\(∀i,zA (cleaned h m) i=zA h i)/\(cleaned h m).Mons.length=h.Mons.length/\cleaned (cleaned h m) m=cleaned h m/\∀p:Int,0<=p->p<8->Clear (cleaned h m) m p:=by
 have hh:zb2 h m=true:=zbO.2 ⟨zff.2 S.ok,hm⟩;obtain ⟨k,c⟩:=zw5 m 8 0 S hm (by omega) (fun p h0 h1=>absurd h1 (by omega))
 have e:cleaned h m=zfd m 8 0 h:=by unfold cleaned;rw[hh,cond_true]
 have hm2:hasB m (ln (zfd m 8 0 h).Mons)=true:=by rw[k.like.has];exact hm
 have hh2:zb2 (zfd m 8 0 h) m=true:=zbO.2 ⟨zff.2 k.ok,hm2⟩;rw[e];refine ⟨k.safe S,zHT k.like.len fun i=>k.like.seen i,fun i=>k.like.seen i,k.like.len,?_,fun p h0 h1=>c p h0 (by omega)⟩
 unfold cleaned;rw[hh2,cond_true];exact zEo m 8 0 (k.safe S) hm2 (by omega) fun p h0 h1=>c p h0 (by omega)
theorem zWu {h:Host}(S:Safe h){m:Int}(hm:hasB m (ln h.Mons)=true):Op h (cleaned h m):=by
 have hh:zb2 h m=true:=zbO.2 ⟨zff.2 S.ok,hm⟩;unfold cleaned;rw[hh,cond_true];exact (zw5 m 8 0 S hm (by omega) (fun p h0 h1=>absurd h1 (by omega))).1
theorem zT1 {h:Host}{m:Int}(H:HOk h)(hm:hasB m (ln h.Mons)=true)(c:∀p:Int,0<=p->p<8->Clear h m p):zKO h m=[]:=by
 refine uS.1 ?_;unfold zKO zAs;rw[zqe,zSy hm,uH];intro b hb;obtain ⟨i,hi,e⟩:=zA6 hb false;have hi':=zq.1 hi;unfold ln at hi';rw[(H.mon hm).d8]at hi';rw[<- e,(c i hi'.1 (by omega)).d]
 simp
theorem zOF {h:Host}{m:Int}(H:HOk h)(hm:hasB m (ln h.Mons)=true)(c:∀p:Int,0<=p->p<8->Clear h m p):(zp6 h m).length+(outOf h m).length=8:=by
 unfold zp6 outOf;rw[zqe,zqe,zSy hm];have h8:=(H.mon hm).o8;have hall:∀s∈(ix h.Mons m mZ).Outer,s.Page≠-1->s.Rights=1:=by
  intro s hs hn;obtain ⟨i,hi,e⟩:=zA6 hs sZ;have hi':=zq.1 hi;unfold ln at hi';rw[h8]at hi';rw[<- e]at hn ⊢;exact ((c i hi'.1 (by omega)).s hn).1
 have:∀o:List Slot,(∀s∈o,s.Page≠-1->s.Rights=1)->o.countP zim+(o.countP fun s=>ieq s.Page (-1))=o.length:=by
  intro o
  induction o with
  | nil=>intro _;rfl
  | cons s o ih =>
   intro ha;have:=ih fun x hx=>ha x (qY _ hx);rw[kX,kX,qU]
   by_cases hs:s.Page = -1
   .have hg:zim s=false:=by unfold zim;rw[show ine s.Page (-1)=false by simp[ine,hs]];rfl
    rw[if_pos (zbi.2 hs),if_neg (by rw[hg];decide)];omega
   .have hr:=ha s jJ hs;have hg:zim s=true:=by unfold zim;rw[hr,zvZ.2 hs];rfl
    rw[if_pos hg,if_neg (by rw[zbi];exact hs)];omega
 have:=this _ hall;omega
def zfA (x y:List Int):Bool:=pc (x=y)
def zf1 (_ _:List Int):Bool:=true
def zwk:Run:=rF2 (dS .int) (dS .int) fun b c=>(zfA b c,[aB (zf1 b c)])
def zzM (N:Nat)(a0 a1:List Int):OA:=
 (cond (ine (ln a0) (ln a1)) oF (iter (σ:=(Int×((List Int)×((List Int)×Unit)))) N (fun r3 s4=>(cond (ilt s4.1 (ln s4.2.1)) (oN (inb s4.1 (ln s4.2.1)) (oN (inb s4.1 (ln s4.2.2.1)) (cond (ine (ix s4.2.1 s4.1 0) (ix s4.2.2.1 s4.1 0)) oF (r3 ((zG .i64 s4.1 1),(s4.2.1,(s4.2.2.1,()))))))) oT)) (0,(a0,(a1,())))))
def zMW:FuncId->Nat->Option Tmpl:=zo [(67,0,{ n:=26,tm:=[(0,.sl 0 []),(1,.sl 1 []),(5,ti)],lo:=[],ro:=[(0,.int,false),(1,.int,false)] })]
theorem zLX (a0 a1:List Int)(hb:zbB big [aS .int a0,aS .int a1])(hc:zfA a0 a1=true):∃N,zzM N a0 a1=some [aB (zf1 a0 a1)]:=by
 have:=zC.1 hc;subst this;have hl:=(len0 hb);refine ⟨a0.length+1,?_⟩;unfold zzM oN;rw[zbS];refine zgm a0 z7i _ _ hl (fun i hi rec=>?_) (fun rec=>?_) (jP _)
 .simp only [zbh hi,zN hi,zZ hi,ziv,zbS,zcC,zcV,cT,cF,jH,jL]
 .simp only [zbb,cF,zf1]
theorem zFS:vF 67 zwk:=hF2 zdA zW zl zn zMW zLX
def zgS (x y:List Bool):Bool:=pc (x=y)
def zht (_ _:List Bool):Bool:=true
def ztY:Run:=rF2 (dS .bool) (dS .bool) fun b c=>(zgS b c,[aB (zht b c)])
def zyj (N:Nat)(a0 a1:lB):OA:=
 (cond (ine (ln a0) (ln a1)) oF (iter (σ:=(Int×(lB×(lB×Unit)))) N (fun r3 s4=>(cond (ilt s4.1 (ln s4.2.1)) (oN (inb s4.1 (ln s4.2.1)) (oN (inb s4.1 (ln s4.2.2.1)) (cond (nB (zif (ix s4.2.1 s4.1 false) (ix s4.2.2.1 s4.1 false))) oF (r3 ((zG .i64 s4.1 1),(s4.2.1,(s4.2.2.1,()))))))) oT)) (0,(a0,(a1,())))))
def zKs:FuncId->Nat->Option Tmpl:=zo [(163,0,{ n:=26,tm:=[(0,.sl 0 []),(1,.sl 1 []),(5,ti)],lo:=[],ro:=[(0,.bool,false),(1,.bool,false)] })]
theorem zJm (a0 a1:List Bool)(hb:zbB big [aS .bool a0,aS .bool a1])(hc:zgS a0 a1=true):∃N,zyj N a0 a1=some [aB (zht a0 a1)]:=by
 have:=zC.1 hc;subst this;have hl:=(len0 hb);refine ⟨a0.length+1,?_⟩;unfold zyj oN nB;rw[zbS];refine zgm a0 z6E _ _ hl (fun i hi rec=>?_) (fun rec=>?_) (jP _)
 .simp only [zbh hi,zN hi,zZ hi,ziv,zbS,zcC,zcV,cT,cF,jH,jL]
 .simp only [zbb,cF,zht]
theorem zCX:vF 163 ztY:=hF2 zdA zW zl zn zKs zJm
def zeg (x y:List Slot):Bool:=pc (x=y)
def zeA (_ _:List Slot):Bool:=true
def zt2:Run:=rF2 (dS .slot) (dS .slot) fun b c=>(zeg b c,[aB (zeA b c)])
def zyn (N:Nat)(a0 a1:lS):OA:=
 (cond (ine (ln a0) (ln a1)) oF (iter (σ:=(Int×(lS×(lS×Unit)))) N (fun r3 s4=>let y1:=(ix s4.2.1 s4.1 zJ);let y0:=(ix s4.2.2.1 s4.1 zJ); (cond (ilt s4.1 (ln s4.2.1)) (oN (inb s4.1 (ln s4.2.1)) (oN (inb s4.1 (ln s4.2.2.1)) (cond (nB (cond (ieq y1.Page y0.Page) (ieq y1.Rights y0.Rights) false)) oF (r3 ((zG .i64 s4.1 1),(s4.2.1,(s4.2.2.1,()))))))) oT)) (0,(a0,(a1,())))))
def zKv:FuncId->Nat->Option Tmpl:=zo [(162,0,{ n:=26,tm:=[(0,.sl 0 []),(1,.sl 1 []),(5,ti)],lo:=[],ro:=[(0,.slot,false),(1,.slot,false)] })]
theorem zJq (a0 a1:List Slot)(hb:zbB big [aS .slot a0,aS .slot a1])(hc:zeg a0 a1=true):∃N,zyn N a0 a1=some [aB (zeA a0 a1)]:=by
 have:=zC.1 hc;subst this;have hl:=(len0 hb);refine ⟨a0.length+1,?_⟩;unfold zyn oN nB
 conv=>zeta
 rw[zbS];refine zgm a0 zJ _ _ hl (fun i hi rec=>?_) (fun rec=>?_) (jP _)
 .simp only [zbh hi,zN hi,zZ hi,ziv,zbS,zcC,zcV,cT,cF,jH,jL]
 .simp only [zbb,cF,zeA]
theorem zC1:vF 162 zt2:=hF2 zdA zW zl zn zKv zJq
def zhP (x y:List Entry):Bool:=pc (x=y)
def zhO (_ _:List Entry):Bool:=true
def zsE:Run:=rF2 (dS .entry) (dS .entry) fun b c=>(zhP b c,[aB (zhO b c)])
def zvx (N:Nat)(a0 a1:lE):OA:=
 (cond (ine (ln a0) (ln a1)) oF (iter (σ:=(Int×(lE×(lE×Unit)))) N (fun r3 s4=>let y1:=(ix s4.2.1 s4.1 zew);let y0:=(ix s4.2.2.1 s4.1 zew); (cond (ilt s4.1 (ln s4.2.1)) (oN (inb s4.1 (ln s4.2.1)) (oN (inb s4.1 (ln s4.2.2.1)) (cond (nB (cond (ieq y1.Tag y0.Tag) (cond (ieq y1.Page y0.Page) (cond (ieq y1.Host y0.Host) (ieq y1.Rights y0.Rights) false) false) false)) oF (r3 ((zG .i64 s4.1 1),(s4.2.1,(s4.2.2.1,()))))))) oT)) (0,(a0,(a1,())))))
def zG3:FuncId->Nat->Option Tmpl:=zo [(39,0,{ n:=26,tm:=[(0,.sl 0 []),(1,.sl 1 []),(5,ti)],lo:=[],ro:=[(0,.entry,false),(1,.entry,false)] })]
theorem zGv (a0 a1:List Entry)(hb:zbB big [aS .entry a0,aS .entry a1])(hc:zhP a0 a1=true):∃N,zvx N a0 a1=some [aB (zhO a0 a1)]:=by
 have:=zC.1 hc;subst this;have hl:=(len0 hb);refine ⟨a0.length+1,?_⟩;unfold zvx oN nB
 conv=>zeta
 rw[zbS];refine zgm a0 zew _ _ hl (fun i hi rec=>?_) (fun rec=>?_) (jP _)
 .simp only [zbh hi,zN hi,zZ hi,ziv,zbS,zcC,zcV,cT,cF,jH,jL]
 .simp only [zbb,cF,zhO]
theorem zAE:vF 39 zsE:=hF2 zdA zW zl zn zG3 zGv
def zna (x y:List Ins):Bool:=pc (x=y)
def zm9 (_ _:List Ins):Bool:=true
def zwj:Run:=rF2 (dS .ins) (dS .ins) fun b c=>(zna b c,[aB (zm9 b c)])
def zzL (N:Nat)(a0 a1:lI):OA:=
 (cond (ine (ln a0) (ln a1)) oF (iter (σ:=(Int×(lI×(lI×Unit)))) N (fun r3 s4=>let y1:=(ix s4.2.1 s4.1 zn6);let y0:=(ix s4.2.2.1 s4.1 zn6); (cond (ilt s4.1 (ln s4.2.1)) (oN (inb s4.1 (ln s4.2.1)) (oN (inb s4.1 (ln s4.2.2.1)) (cond (nB (cond (ieq y1.Op y0.Op) (ieq y1.X y0.X) false)) oF (r3 ((zG .i64 s4.1 1),(s4.2.1,(s4.2.2.1,()))))))) oT)) (0,(a0,(a1,())))))
def zMV:FuncId->Nat->Option Tmpl:=zo [(177,0,{ n:=26,tm:=[(0,.sl 0 []),(1,.sl 1 []),(5,ti)],lo:=[],ro:=[(0,.ins,false),(1,.ins,false)] })]
theorem zLW (a0 a1:List Ins)(hb:zbB big [aS .ins a0,aS .ins a1])(hc:zna a0 a1=true):∃N,zzL N a0 a1=some [aB (zm9 a0 a1)]:=by
 have:=zC.1 hc;subst this;have hl:=(len0 hb);refine ⟨a0.length+1,?_⟩;unfold zzL oN nB
 conv=>zeta
 rw[zbS];refine zgm a0 zn6 _ _ hl (fun i hi rec=>?_) (fun rec=>?_) (jP _)
 .simp only [zbh hi,zN hi,zZ hi,ziv,zbS,zcC,zcV,cT,cF,jH,jL]
 .simp only [zbb,cF,zm9]
theorem zFR:vF 177 zwj:=hF2 zdA zW zl zn zMV zLW
def zYP:zO:=[(67,zwk),(163,ztY),(162,zt2),(39,zsE),(177,zwj)]++zlX
theorem ztz:zF zYP:=zh zFS (zh zCX (zh zC1 (zh zAE (zh zFR zdA))))
def zgT (x y:List (List Int)):Bool:=pc (x=y)
def zhu (_ _:List (List Int)):Bool:=true
def zt1:Run:=rF2 (dS (.sl .int)) (dS (.sl .int)) fun b c=>(zgT b c,[aB (zhu b c)])
def zym (N:Nat)(a0:lM)(a1:lM):OA:=
 (cond (ine (ln a0) (ln a1)) oF (iter (σ:=(Int×(lM×(lM×Unit)))) N (fun r3 s4=>(cond (ilt s4.1 (ln s4.2.1)) (oN (inb s4.1 (ln s4.2.1)) (oN (inb s4.1 (ln s4.2.2.1)) (oN (zfA (ix s4.2.1 s4.1 []) (ix s4.2.2.1 s4.1 [])) (cond (nB (zf1 (ix s4.2.1 s4.1 []) (ix s4.2.2.1 s4.1 []))) oF (r3 ((zG .i64 s4.1 1),(s4.2.1,(s4.2.2.1,())))))))) oT)) (0,(a0,(a1,())))))
def zKu:FuncId->Nat->Option Tmpl:=zo [(37,0,{ n:=27,tm:=[(0,.sl 0 []),(1,.sl 1 []),(5,ti)],lo:=[],ro:=[(0,(.sl .int),false),(1,(.sl .int),false)] })]
theorem zJp (a0:List (List Int))(a1:List (List Int))(hb:zbB big [aS (.sl .int) a0,aS (.sl .int) a1])(hc:zgT a0 a1=true):∃N,zym N a0 a1=some [aB (zhu a0 a1)]:=by
 have:=zC.1 hc;subst this;have hl:=(len0 hb);refine ⟨a0.length+1,?_⟩;unfold zym oN nB;rw[zbS];refine zgm a0 (Ty.dflt (.sl .int)) _ _ hl (fun i hi rec=>?_) (fun rec=>?_) (jP _)
 .simp only [zbh hi,zN hi,zZ hi,zfA,zf1,ziv,zbS,zcC,zcV,cT,cF,jH,jL]
 .simp only [zbb,cF,zhu]
theorem zC0:vF 37 zt1:=hF2 ztz zW zl zn zKu zJp
def znc (x y:Kept):Bool:=pc (x=y)
def znb (_ _:Kept):Bool:=true
def zwl:Run:=rF2 (dT .kept) (dT .kept) fun b c=>(znc b c,[aB (znb b c)])
def zzN (N:Nat)(a0 a1:Kept):OA:=
 (oN (zgS a0.Known a1.Known) (cond (zht a0.Known a1.Known) (oN (zeg a0.Slots a1.Slots) (some [(aB (zeA a0.Slots a1.Slots))])) oF))
theorem zLY (a0 a1:Kept)(hc:znc a0 a1=true):∃N,zzN N a0 a1=some [aB (znb a0 a1)]:=by
 have:=zC.1 hc;subst this;refine ⟨0,?_⟩;simp only[zzN,zgS,zht,zeg,zeA,ziv,zbS,zcC,zcV,cT,cF,jH,jL,znb]
theorem zFT:vF 222 zwl:=kF2 ztz zW zl zn (zo []) zLY
def zlK (x y:Guest):Bool:=pc (x=y)
def zlj (_ _:Guest):Bool:=true
def ztZ:Run:=rF2 (dT .guest) (dT .guest) fun b c=>(zlK b c,[aB (zlj b c)])
def zyk (N:Nat)(a0 a1:Guest):OA:=
 (oN (zna a0.Prog a1.Prog) (cond (zm9 a0.Prog a1.Prog) (cond (ieq a0.A a1.A) (cond (ieq a0.Pc a1.Pc) (oN (zeg a0.Written a1.Written) (cond (zeA a0.Written a1.Written) (oN (zeg a0.Live a1.Live) (cond (zeA a0.Live a1.Live) (cond (cond (ieq a0.Ctl.Traps a1.Ctl.Traps) (cond (ieq a0.Ctl.Post a1.Ctl.Post) (zif a0.Ctl.Open a1.Ctl.Open) false) false) (cond (ieq a0.Pending a1.Pending) (cond (cond (ieq a0.Exit.Kind a1.Exit.Kind) (cond (ieq a0.Exit.Page a1.Exit.Page) (cond (zif a0.Exit.Write a1.Exit.Write) (ieq a0.Exit.N a1.Exit.N) false) false) false) (cond (zif a0.Halted a1.Halted) (oN (zfA a0.Seen a1.Seen) (some [(aB (zf1 a0.Seen a1.Seen))])) oF) oF) oF) oF) oF)) oF)) oF) oF) oF))
theorem zJn (a0 a1:Guest)(hc:zlK a0 a1=true):∃N,zyk N a0 a1=some [aB (zlj a0 a1)]:=by
 have:=zC.1 hc;subst this;refine ⟨0,?_⟩;simp only[zyk,zna,zm9,zeg,zeA,zfA,zf1,ziv,zbS,zcC,zcV,cT,cF,jH,jL,zlj]
theorem zCY:vF 135 ztZ:=kF2 ztz zW zl zn (zo []) zJn
def zYQ:zO:=[(37,zt1),(222,zwl),(135,ztZ)]++zYP
theorem zAq:zF zYQ:=zh zC0 (zh zFT (zh zCY ztz))
def zlL (x y:List Kept):Bool:=pc (x=y)
def zlk (_ _:List Kept):Bool:=true
def zt0:Run:=rF2 (dS .kept) (dS .kept) fun b c=>(zlL b c,[aB (zlk b c)])
def zyl (N:Nat)(a0 a1:lK):OA:=
 (cond (ine (ln a0) (ln a1)) oF (iter (σ:=(Int×(lK×(lK×Unit)))) N (fun r3 s4=>let y1:=(ix s4.2.1 s4.1 zee);let y0:=(ix s4.2.2.1 s4.1 zee); (cond (ilt s4.1 (ln s4.2.1)) (oN (inb s4.1 (ln s4.2.1)) (oN (inb s4.1 (ln s4.2.2.1)) (oN (znc y1 y0) (cond (nB (znb y1 y0)) oF (r3 ((zG .i64 s4.1 1),(s4.2.1,(s4.2.2.1,())))))))) oT)) (0,(a0,(a1,())))))
def zKt:FuncId->Nat->Option Tmpl:=zo [(164,0,{ n:=27,tm:=[(0,.sl 0 []),(1,.sl 1 []),(5,ti)],lo:=[],ro:=[(0,.kept,false),(1,.kept,false)] })]
theorem zJo (a0 a1:List Kept)(hb:zbB big [aS .kept a0,aS .kept a1])(hc:zlL a0 a1=true):∃N,zyl N a0 a1=some [aB (zlk a0 a1)]:=by
 have:=zC.1 hc;subst this;have hl:=(len0 hb);refine ⟨a0.length+1,?_⟩;unfold zyl oN nB
 conv=>zeta
 rw[zbS];refine zgm a0 zee _ _ hl (fun i hi rec=>?_) (fun rec=>?_) (jP _)
 .simp only [zbh hi,zN hi,zZ hi,znc,znb,ziv,zbS,zcC,zcV,cT,cF,jH,jL]
 .simp only [zbb,cF,zlk]
theorem zCZ:vF 164 zt0:=hF2 zAq zW zl zn zKt zJo
def zkw (x y:List Guest):Bool:=pc (x=y)
def zjO (_ _:List Guest):Bool:=true
def zsF:Run:=rF2 (dS .guest) (dS .guest) fun b c=>(zkw b c,[aB (zjO b c)])
def zvy (N:Nat)(a0 a1:lG):OA:=
 (cond (ine (ln a0) (ln a1)) oF (iter (σ:=(Int×(lG×(lG×Unit)))) N (fun r3 s4=>let y1:=(ix s4.2.1 s4.1 zx);let y0:=(ix s4.2.2.1 s4.1 zx); (cond (ilt s4.1 (ln s4.2.1)) (oN (inb s4.1 (ln s4.2.1)) (oN (inb s4.1 (ln s4.2.2.1)) (oN (zlK y1 y0) (cond (nB (zlj y1 y0)) oF (r3 ((zG .i64 s4.1 1),(s4.2.1,(s4.2.2.1,())))))))) oT)) (0,(a0,(a1,())))))
def zG4:FuncId->Nat->Option Tmpl:=zo [(66,0,{ n:=27,tm:=[(0,.sl 0 []),(1,.sl 1 []),(5,ti)],lo:=[],ro:=[(0,.guest,false),(1,.guest,false)] })]
theorem zGw (a0 a1:List Guest)(hb:zbB big [aS .guest a0,aS .guest a1])(hc:zkw a0 a1=true):∃N,zvy N a0 a1=some [aB (zjO a0 a1)]:=by
 have:=zC.1 hc;subst this;have hl:=(len0 hb);refine ⟨a0.length+1,?_⟩;unfold zvy oN nB
 conv=>zeta
 rw[zbS];refine zgm a0 zx _ _ hl (fun i hi rec=>?_) (fun rec=>?_) (jP _)
 .simp only [zbh hi,zN hi,zZ hi,zlK,zlj,ziv,zbS,zcC,zcV,cT,cF,jH,jL]
 .simp only [zbb,cF,zjO]
theorem zAF:vF 66 zsF:=hF2 zAq zW zl zn zG4 zGw
def zYR:zO:=[(164,zt0),(66,zsF)]++zYQ
theorem zNT:zF zYR:=zh zCZ (zh zAF zAq)
def zpg (x y:Mon):Bool:=pc (x=y)
def zqg (_ _:Mon):Bool:=true
def zyK:Run:=rF2 (dT .mon) (dT .mon) fun b c=>(zpg b c,[aB (zqg b c)])
def zDP (N:Nat)(a0 a1:Mon):OA:=
 (oN (zeg a0.Outer a1.Outer) (cond (zeA a0.Outer a1.Outer) (oN (zgT a0.Out a1.Out) (cond (zhu a0.Out a1.Out) (oN (zgS a0.Dirty a1.Dirty) (cond (zht a0.Dirty a1.Dirty) (oN (zkw a0.Guests a1.Guests) (cond (zjO a0.Guests a1.Guests) (oN (zfA a0.Outs a1.Outs) (cond (zf1 a0.Outs a1.Outs) (cond (ieq a0.Pending a1.Pending) (cond (ieq a0.Traps a1.Traps) (oN (zlL a0.Tables a1.Tables) (cond (zlk a0.Tables a1.Tables) (some [(aB (ieq a0.Own a1.Own))]) oF)) oF) oF) oF)) oF)) oF)) oF)) oF))
theorem zPb (a0 a1:Mon)(hc:zpg a0 a1=true):∃N,zDP N a0 a1=some [aB (zqg a0 a1)]:=by
 have:=zC.1 hc;subst this;refine ⟨0,?_⟩;simp only[zDP,zeg,zeA,zgT,zhu,zgS,zht,zkw,zjO,zfA,zf1,zlL,zlk,ziv,zbS,zcC,zcV,cT,cF,jH,jL,zqg]
theorem zIA:vF 105 zyK:=kF2 zNT zW zl zn (zo []) zPb
def zYS:zO:=[(105,zyK)]++zYR
theorem zNU:zF zYS:=zh zIA zNT
def zne (x y:List Mon):Bool:=pc (x=y)
def znd (_ _:List Mon):Bool:=true
def zwm:Run:=rF2 (dS .mon) (dS .mon) fun b c=>(zne b c,[aB (znd b c)])
def zzO (N:Nat)(a0 a1:lN):OA:=
 (cond (ine (ln a0) (ln a1)) oF (iter (σ:=(Int×(lN×(lN×Unit)))) N (fun r3 s4=>let y1:=(ix s4.2.1 s4.1 zf);let y0:=(ix s4.2.2.1 s4.1 zf); (cond (ilt s4.1 (ln s4.2.1)) (oN (inb s4.1 (ln s4.2.1)) (oN (inb s4.1 (ln s4.2.2.1)) (oN (zpg y1 y0) (cond (nB (zqg y1 y0)) oF (r3 ((zG .i64 s4.1 1),(s4.2.1,(s4.2.2.1,())))))))) oT)) (0,(a0,(a1,())))))
def zMX:FuncId->Nat->Option Tmpl:=zo [(38,0,{ n:=27,tm:=[(0,.sl 0 []),(1,.sl 1 []),(5,ti)],lo:=[],ro:=[(0,.mon,false),(1,.mon,false)] })]
theorem zLZ (a0 a1:List Mon)(hb:zbB big [aS .mon a0,aS .mon a1])(hc:zne a0 a1=true):∃N,zzO N a0 a1=some [aB (znd a0 a1)]:=by
 have:=zC.1 hc;subst this;have hl:=(len0 hb);refine ⟨a0.length+1,?_⟩;unfold zzO oN nB
 conv=>zeta
 rw[zbS];refine zgm a0 zf _ _ hl (fun i hi rec=>?_) (fun rec=>?_) (jP _)
 .simp only [zbh hi,zN hi,zZ hi,zpg,zqg,ziv,zbS,zcC,zcV,cT,cF,jH,jL]
 .simp only [zbb,cF,znd]
theorem zFU:vF 38 zwm:=hF2 zNU zW zl zn zMX zLZ
def z6b:zO:=[(38,zwm)]++zYS
theorem zYT:zF z6b:=zh zFU zNU
def zsu (x y:Host):Bool:=pc (x=y)
def zrp (_ _:Host):Bool:=true
def zwi:Run:=rF2 dH dH fun b c=>(zsu b c,[aB (zrp b c)])
def zzK (N:Nat)(a0 a1:Host):OA:=
 (oN (zgT a0.Memory a1.Memory) (cond (zhu a0.Memory a1.Memory) (oN (zne a0.Mons a1.Mons) (cond (znd a0.Mons a1.Mons) (oN (zhP a0.Buffer a1.Buffer) (cond (zhO a0.Buffer a1.Buffer) (oN (zhP a0.IoBuffer a1.IoBuffer) (some [(aB (zhO a0.IoBuffer a1.IoBuffer))])) oF)) oF)) oF))
theorem zLV (a0 a1:Host)(hc:zsu a0 a1=true):∃N,zzK N a0 a1=some [aB (zrp a0 a1)]:=by
 have:=zC.1 hc;subst this;refine ⟨0,?_⟩;simp only[zzK,zgT,zhu,zne,znd,zhP,zhO,ziv,zbS,zcC,zcV,cT,cF,jH,jL,zrp]
theorem zFQ:vF 12 zwi:=kF2 zYT zW zl zn (zo []) zLV
def Ends {ρ:Type}(G:ρ->Prop)(o:Option ρ):Prop:=∃a,o=some a/\G a
section
variable {ρ:Type} {G:ρ->Prop}
theorem zbF {c:Bool}{a b:Option ρ}(h:c=true)(k:Ends G a):Ends G (cond c a b):=by rw[h];exact k
theorem zdi {c:Bool}{a b:Option ρ}(h1:c=true->Ends G a)(h2:c=false->Ends G b):Ends G (cond c a b):=by
 cases c
 .exact h2 rfl
 .exact h1 rfl
theorem zlZ {x:Option ρ}{f:Option ρ->Option ρ}(h:Ends G x)(k:∀t,Ends G t->Ends G (f t)):Ends G (share x f):=k x h
theorem zId {a:ρ}(h:G a):Ends G (some a):=⟨a,rfl,h⟩
theorem zIc {σ:Type}{F:(σ->Option ρ)->σ->Option ρ}(I:Nat->σ->Prop)(h:∀n s rec,I n s->(∀k s',k<n->I k s'->Ends G (rec s'))->Ends G (F rec s)):∀(N n:Nat) (s:σ),I n s->n<N->Ends G (iter N F s)
 | 0,n,s,_,hn=>absurd hn (Nat.not_lt_zero n)
 | N+1,n,s,hI,hn=>h n s (iter N F) hI fun k s' hk hs=>zIc I h N k s' hs (by omega)
theorem z4G {G:Ans->Prop}{o:OA}{r:Ans}(h:Ends (fun a=>a=r) o):o=some r:=by
 obtain ⟨a,h1,h2⟩:=h;rw[h1,h2]
end
instance:Inhabited Cur:=⟨⟨[],0,0⟩⟩
instance:Inhabited Ins:=⟨⟨0,0⟩⟩
instance:Inhabited GAct:=⟨⟨0,0,0,0,0,0⟩⟩
instance:Inhabited Ctl:=⟨⟨0,0,false⟩⟩
instance:Inhabited Host:=⟨⟨[],[],[],[]⟩⟩
def zdr (c:Cur):Prop:=0<=c.i/\c.b.length<=big
theorem zkn {T:Type}(av:T->AV){good:T->Prop}{b:List Int}{x y:Int}{v:T}(h:0<=x)(g:good v):Ends (fun a=>∃s v0,a=(AV.agg (zbE s) :: [av v0])/\(s.b=b/\0<=s.i)/\good v0) (some (AV.agg [.s .u8 b,.i .i64 x,.i .i64 y] :: [av v])) :=
 ⟨_,rfl,⟨b,x,y⟩,v,rfl,⟨rfl,h⟩,g⟩
def zk7 (N:Nat)(c:Cur)  : OA :=
 let y0:=(zG .i64 (zn4 .i64 c.h 6364136223846793005) 1442695040888963407);let y1:=(wand .i64 (z2k .i64 (zCk .i64 y0 33) (zCk .i64 y0 45)) 255); (oN (ile 0 33) (oN (ile 0 45) (cond (ilt c.i (ln c.b)) (oN (inb c.i (ln c.b)) (some [(.agg [(.s .u8 c.b),(.i .i64 (zG .i64 c.i 1)),(.i .i64 y0)]),(aI (wand .i64 (zG .i64 y1 (wcv .i64 (ix c.b c.i 0))) 255))])) (some [(.agg [(.s .u8 c.b),(.i .i64 c.i),(.i .i64 y0)]),(aI y1)]))))
theorem zSA (N:Nat)(c:Cur)  : zfZ (cQ zlX zl8 zMG zk6) (zo []) N 12 88 [false,true,true] (zbE c) []=zk7 N c:=by kernel_rfl
def zj3 (c:Cur)(s:Cur)(v0:Int):Prop:=(∃N,zk7 N c=some (AV.agg (zbE s) :: [aI v0]))/\(s.b=c.b/\0<=s.i)/\(0<=v0/\v0<=255)
def zcX (c:Cur)  : Bool:=pc (∃s v0,zj3 c s v0)
def zpL (c:Cur)  : Cur×Int:=Classical.epsilon fun r=>zj3 c r.1 r.2
def zch (c:Cur)  : Cur:=bif zcX c then (zpL c).1 else ⟨[],0,0⟩
def ze9 (c:Cur)  : Int:=(zpL c).2
theorem zjf {c:Cur}(h:zcX c=true):zj3 c (zch c) (ze9 c):=by
 obtain ⟨s,v0,h2⟩:=zC.1 h;have h3:zj3 c (zpL c).1 (zpL c).2:=Classical.epsilon_spec (p:=fun r=>zj3 c r.1 r.2) ⟨(s,v0),h2⟩;unfold zch;rw[h,cT];exact h3
theorem zlB (c:Cur)  : 0<=(zch c).i:=by
 unfold zch;cases h:zcX c with
 | false=>exact j4 0
 | true =>
  have:=(zjf h).2.1.2;unfold zch at this
  rwa [h] at this
theorem zUT (c:Cur)(h:∃N,Ends (fun a=>∃s v0,a=(AV.agg (zbE s) :: [aI v0])/\(s.b=c.b/\0<=s.i)/\(0<=v0/\v0<=255)) (zk7 N c)):zcX c=true:=by
 obtain ⟨N,a,e,s,v0,rfl,h⟩:=h;exact zY ⟨s,v0,⟨N,e⟩,h⟩
def zoA:List CV->List AV->Option (Bool×List CV×List AV)
 | [.s .u8 b,.i .i64 c,.i .i64 d],[]=>some ((zcX (⟨b,c,d⟩:Cur)),zbE (zch (⟨b,c,d⟩:Cur)),[aI (ze9 (⟨b,c,d⟩:Cur))])
 | _,_=>none
theorem zPA (c:Cur)(hb:zbB big (.agg (zbE c) :: []))(hc:zcX c=true):∃N,zk7 N c=some (.agg (zbE (zch c)) :: [aI (ze9 c)]):=by
 exact (zjf hc).1
theorem zIV:zdm Tryz.prog 88 [false,true,true] zoA:=by
 refine zb4 (zcS zdA zW zl zn) (zef (by kernel_rfl)) ?_
 intro cs avs cs' rs hl hr h;have hb:=zcn hr;unfold zoA at h;split at h
 .obtain ⟨hc,rfl,rfl⟩:=zcH h;obtain ⟨N,hN⟩:=zPA _ (by exact hb) hc
  exact ⟨rfl,_,N,12,(zSA N _ ).trans hN⟩
 .cases h
theorem zOA {x m:Int}(h0:0<=m)(h1:m<9223372036854775808):0<=wand .i64 x m/\wand .i64 x m<=m:=by
 have hm:(BitVec.ofInt 64 m).toNat=m.toNat:=by
  rw[BitVec.toNat_ofInt];omega
 have hle:(BitVec.ofInt 64 x &&& BitVec.ofInt 64 m).toNat<=m.toNat:=by
  rw[BitVec.toNat_and,hm];exact Nat.and_le_right
 unfold wand
 show 0<=IntKind.wrap .i64 ((BitVec.ofInt 64 x &&& BitVec.ofInt 64 m).toNat:Int)/\IntKind.wrap .i64 ((BitVec.ofInt 64 x &&& BitVec.ofInt 64 m).toNat:Int)<=m
 rw[zr4 (by omega) (by omega)]
 omega
@[simp] theorem zH3 {c:Cur}(h:zdr c):zcX c=true:=by
 refine zUT c ⟨0,?_⟩;unfold zk7 oN
 conv=>zeta
 refine zbF rfl (zbF rfl (zdi (fun h0=>zbF (qK ⟨h.1,qE h0⟩) (zkn aI ?_ (zOA (by omega) (by omega)))) (fun _=>zkn aI h.1 (zOA (by omega) (by omega)))))
 have h1:c.i<ln c.b:=qE h0;have h2:=h.2;have h3:=h.1;rw[zvH]at h2;unfold ln at h1;rw[zo2 (by omega) (by omega)]
 omega
def zXv:zdw:=[(88,([false,true,true],zoA))]++zMG
theorem zSL:zcI zXv:=zdZ zl (by
 intro x hx;simp only[qH,qX,or_false]at hx;rcases hx with rfl
 .exact zIV)
theorem zFA {b:List Int}{i h:Int}(h0:0<=i)(hb:b.length<=big):zdr ⟨b,i,h⟩:=⟨h0,hb⟩
theorem zWh {x n:Int}(h0:0<=x)(hn:0<n):0<=zo4 x n/\zo4 x n<n:=by
 unfold zo4;exact ⟨Int.tmod_nonneg _ h0,Int.tmod_lt_of_pos _ hn⟩
def zjr (N:Nat)(c:Cur)(a0:Int):OA:=
 let y2:=({ (zch c) with b:=c.b }:Cur);let y0:=({ (zch y2) with b:=c.b }:Cur);let y1:=({ (zch y0) with b:=c.b }:Cur); (cond (ile a0 0) (some [(.agg [(.s .u8 c.b),(.i .i64 c.i),(.i .i64 c.h)]),(aI 0)]) (cond (ile a0 256) (oN (zcX c) (oN (ine a0 0) (some [(.agg [(.s .u8 c.b),(.i .i64 (zch c).i),(.i .i64 (zch c).h)]),(aI (zo4 (ze9 c) a0))]))) (oN (zcX c) (oN (zcX y2) (oN (zcX y0) (oN (zcX y1) (oN (ine a0 0) (some [(.agg [(.s .u8 c.b),(.i .i64 (zch y1).i),(.i .i64 (zch y1).h)]),(aI (zo4 (zG .i64 (zG .i64 (zG .i64 (zn4 .i64 (ze9 c) 16777216) (zn4 .i64 (ze9 y2) 65536)) (zn4 .i64 (ze9 y0) 256)) (ze9 y1)) a0))]))))))))
theorem zPS (N:Nat)(c:Cur)(a0:Int):zfZ (cQ zlX zl8 zXv zk6) (zo []) N 12 33 [false,true,true] (zbE c) [aI a0]=zjr N c a0:=by kernel_rfl
def ziS (c:Cur)(a0:Int)(s:Cur)(v0:Int):Prop:=(∃N,zjr N c a0=some (AV.agg (zbE s) :: [aI v0]))/\(s.b=c.b/\0<=s.i)/\((0<a0->0<=v0/\v0<a0))
def zbd (c:Cur)(a0:Int):Bool:=pc (∃s v0,ziS c a0 s v0)
def znW (c:Cur)(a0:Int):Cur×Int:=Classical.epsilon fun r=>ziS c a0 r.1 r.2
def zD (c:Cur)(a0:Int):Cur:=bif zbd c a0 then (znW c a0).1 else ⟨[],0,0⟩
def zbe (c:Cur)(a0:Int):Int:=(znW c a0).2
theorem znV {c:Cur}{a0:Int}(h:zbd c a0=true):ziS c a0 (zD c a0) (zbe c a0):=by
 obtain ⟨s,v0,h2⟩:=zC.1 h;have h3:ziS c a0 (znW c a0).1 (znW c a0).2:=Classical.epsilon_spec (p:=fun r=>ziS c a0 r.1 r.2) ⟨(s,v0),h2⟩;unfold zD;rw[h,cT];exact h3
theorem zcx (c:Cur)(a0:Int):0<=(zD c a0).i:=by
 unfold zD;cases h:zbd c a0 with
 | false=>exact j4 0
 | true =>
  have:=(znV h).2.1.2;unfold zD at this
  rwa [h] at this
theorem zS3 (c:Cur)(a0:Int)(h:∃N,Ends (fun a=>∃s v0,a=(AV.agg (zbE s) :: [aI v0])/\(s.b=c.b/\0<=s.i)/\((0<a0->0<=v0/\v0<a0))) (zjr N c a0)):zbd c a0=true:=by
 obtain ⟨N,a,e,s,v0,rfl,h⟩:=h;exact zY ⟨s,v0,⟨N,e⟩,h⟩
def zni:List CV->List AV->Option (Bool×List CV×List AV)
 | [.s .u8 b,.i .i64 c,.i .i64 d],[.one (.i .i64 e)]=>some ((zbd (⟨b,c,d⟩:Cur) e),zbE (zD (⟨b,c,d⟩:Cur) e),[aI (zbe (⟨b,c,d⟩:Cur) e)])
 | _,_=>none
theorem zMo (c:Cur)(a0:Int)(hb:zbB big (.agg (zbE c) :: [aI a0]))(hc:zbd c a0=true):∃N,zjr N c a0=some (.agg (zbE (zD c a0)) :: [aI (zbe c a0)]):=by
 exact (znV hc).1
theorem zGh:zdm Tryz.prog 33 [false,true,true] zni:=by
 refine zb4 (zcS zdA zW zSL zn) (zef (by kernel_rfl)) ?_
 intro cs avs cs' rs hl hr h;have hb:=zcn hr;unfold zni at h;split at h
 .obtain ⟨hc,rfl,rfl⟩:=zcH h;obtain ⟨N,hN⟩:=zMo _ _ (by exact hb) hc
  exact ⟨rfl,_,N,12,(zPS N _ _ ).trans hN⟩
 .cases h
theorem ziY {c:Cur}(h:zdr c)(n:Int):zbd c n=true:=by
 refine zS3 c n ⟨0,?_⟩;have k1:=zH3 h;have k2:zcX { zch c with b:=c.b }=true:=zH3 (zFA (zlB _) h.2);have k3:zcX { zch { zch c with b:=c.b } with b:=c.b }=true:=zH3 (zFA (zlB _) h.2);have k4:zcX { zch { zch { zch c with b:=c.b } with b:=c.b } with b:=c.b }=true:=zH3 (zFA (zlB _) h.2);have b1:=(zjf k1).2.2;have b2:=(zjf k2).2.2;have b3:=(zjf k3).2.2;have b4:=(zjf k4).2.2;unfold zjr oN
 conv=>zeta
 refine zdi (fun h0=>zkn aI h.1 (fun hn=>absurd (qE h0) (by omega))) (fun h0=>?_)
 have hn:¬ n<=0:=j3 h0;have hz:ine n 0=true:=by simp[ine];omega
 refine zdi (fun h1=>zbF k1 (zbF hz (zkn aI (zlB _) (fun hp=>zWh b1.1 hp)))) (fun h1=>?_);refine zbF k1 (zbF k2 (zbF k3 (zbF k4 (zbF hz (zkn aI (zlB _) (fun hp=>zWh ?_ hp))))));generalize ze9 c=x1 at b1;generalize ze9 _=x2 at b2;generalize ze9 _=x3 at b3;generalize ze9 _=x4 at b4;have w1:zn4 .i64 x1 16777216=x1*16777216:=zr4 (by omega) (by omega)
 have w2:zn4 .i64 x2 65536=x2*65536:=zr4 (by omega) (by omega)
 have w3:zn4 .i64 x3 256=x3*256:=zr4 (by omega) (by omega)
 rw[w1,w2,w3,zo2 (x:=x1*16777216) (by omega) (by omega),zo2 (x:=x1*16777216+x2*65536) (by omega) (by omega),zo2 (by omega) (by omega)]
 omega
def zQh:zdw:=[(33,([false,true,true],zni))]++zXv
theorem zGL:zcI zQh:=zdZ zSL (by
 intro x hx;simp only[qH,qX,or_false]at hx;rcases hx with rfl
 .exact zGh)
def zk8 (N:Nat)(c:Cur)(a0:Int):OA:=
 (oN (zbd c a0) (some [(.agg [(.s .u8 c.b),(.i .i64 (zD c a0).i),(.i .i64 (zD c a0).h)]),(aB (ieq (zbe c a0) 0))]))
theorem zSB (N:Nat)(c:Cur)(a0:Int):zfZ (cQ zlX zl8 zQh zk6) (zo []) N 12 147 [false,true,true] (zbE c) [aI a0]=zk8 N c a0:=by kernel_rfl
def zj5 (c:Cur)(a0:Int)(s:Cur)(v0:Bool):Prop:=(∃N,zk8 N c a0=some (AV.agg (zbE s) :: [aB v0]))/\(s.b=c.b/\0<=s.i)/\(True)
def zd9 (c:Cur)(a0:Int):Bool:=pc (∃s v0,zj5 c a0 s v0)
def zpM (c:Cur)(a0:Int):Cur×Bool:=Classical.epsilon fun r=>zj5 c a0 r.1 r.2
def zcl (c:Cur)(a0:Int):Cur:=bif zd9 c a0 then (zpM c a0).1 else ⟨[],0,0⟩
def zj4 (c:Cur)(a0:Int):Bool:=(zpM c a0).2
theorem zE3 {c:Cur}{a0:Int}(h:zd9 c a0=true):zj5 c a0 (zcl c a0) (zj4 c a0):=by
 obtain ⟨s,v0,h2⟩:=zC.1 h;have h3:zj5 c a0 (zpM c a0).1 (zpM c a0).2:=Classical.epsilon_spec (p:=fun r=>zj5 c a0 r.1 r.2) ⟨(s,v0),h2⟩;unfold zcl;rw[h,cT];exact h3
theorem zhz (c:Cur)(a0:Int):0<=(zcl c a0).i:=by
 unfold zcl;cases h:zd9 c a0 with
 | false=>exact j4 0
 | true =>
  have:=(zE3 h).2.1.2;unfold zcl at this
  rwa [h] at this
theorem zUU (c:Cur)(a0:Int)(h:∃N,Ends (fun a=>∃s v0,a=(AV.agg (zbE s) :: [aB v0])/\(s.b=c.b/\0<=s.i)/\(True)) (zk8 N c a0)):zd9 c a0=true:=by
 obtain ⟨N,a,e,s,v0,rfl,h⟩:=h;exact zY ⟨s,v0,⟨N,e⟩,h⟩
def zoB:List CV->List AV->Option (Bool×List CV×List AV)
 | [.s .u8 b,.i .i64 c,.i .i64 d],[.one (.i .i64 e)]=>some ((zd9 (⟨b,c,d⟩:Cur) e),zbE (zcl (⟨b,c,d⟩:Cur) e),[aB (zj4 (⟨b,c,d⟩:Cur) e)])
 | _,_=>none
theorem zPB (c:Cur)(a0:Int)(hb:zbB big (.agg (zbE c) :: [aI a0]))(hc:zd9 c a0=true):∃N,zk8 N c a0=some (.agg (zbE (zcl c a0)) :: [aB (zj4 c a0)]):=by
 exact (zE3 hc).1
theorem zIW:zdm Tryz.prog 147 [false,true,true] zoB:=by
 refine zb4 (zcS zdA zW zGL zn) (zef (by kernel_rfl)) ?_
 intro cs avs cs' rs hl hr h;have hb:=zcn hr;unfold zoB at h;split at h
 .obtain ⟨hc,rfl,rfl⟩:=zcH h;obtain ⟨N,hN⟩:=zPB _ _ (by exact hb) hc
  exact ⟨rfl,_,N,12,(zSB N _ _ ).trans hN⟩
 .cases h
theorem zSI {c:Cur}(h:zdr c)(n:Int):zd9 c n=true:=by
 refine zUU c n ⟨0,?_⟩;unfold zk8 oN;exact zbF (ziY h _) (zkn aB (zcx _ _) trivial)
def zhG (N:Nat)(c:Cur)(a0:List Int):OA:=
 (oN (zbd c (ln a0)) (oN (inb (zbe c (ln a0)) (ln a0)) (some [(.agg [(.s .u8 c.b),(.i .i64 (zD c (ln a0)).i),(.i .i64 (zD c (ln a0)).h)]),(aI (ix a0 (zbe c (ln a0)) 0))])))
theorem zJK (N:Nat)(c:Cur)(a0:List Int):zfZ (cQ zlX zl8 zQh zk6) (zo []) N 12 204 [false,true,true] (zbE c) [aS .int a0]=zhG N c a0:=by kernel_rfl
def zhd (c:Cur)(a0:List Int)(s:Cur)(v0:Int):Prop:=(∃N,zhG N c a0=some (AV.agg (zbE s) :: [aI v0]))/\(s.b=c.b/\0<=s.i)/\((0<a0.length->v0∈a0))
def zdd (c:Cur)(a0:List Int):Bool:=pc (∃s v0,zhd c a0 s v0)
def zkW (c:Cur)(a0:List Int):Cur×Int:=Classical.epsilon fun r=>zhd c a0 r.1 r.2
def zbV (c:Cur)(a0:List Int):Cur:=bif zdd c a0 then (zkW c a0).1 else ⟨[],0,0⟩
def zeV (c:Cur)(a0:List Int):Int:=(zkW c a0).2
theorem zoW {c:Cur}{a0:List Int}(h:zdd c a0=true):zhd c a0 (zbV c a0) (zeV c a0):=by
 obtain ⟨s,v0,h2⟩:=zC.1 h;have h3:zhd c a0 (zkW c a0).1 (zkW c a0).2:=Classical.epsilon_spec (p:=fun r=>zhd c a0 r.1 r.2) ⟨(s,v0),h2⟩;unfold zbV;rw[h,cT];exact h3
theorem zkV (c:Cur)(a0:List Int):0<=(zbV c a0).i:=by
 unfold zbV;cases h:zdd c a0 with
 | false=>exact j4 0
 | true =>
  have:=(zoW h).2.1.2;unfold zbV at this
  rwa [h] at this
theorem zMM (c:Cur)(a0:List Int)(h:∃N,Ends (fun a=>∃s v0,a=(AV.agg (zbE s) :: [aI v0])/\(s.b=c.b/\0<=s.i)/\((0<a0.length->v0∈a0))) (zhG N c a0)):zdd c a0=true:=by
 obtain ⟨N,a,e,s,v0,rfl,h⟩:=h;exact zY ⟨s,v0,⟨N,e⟩,h⟩
def zk5:List CV->List AV->Option (Bool×List CV×List AV)
 | [.s .u8 b,.i .i64 c,.i .i64 d],[.one (.s .int e)]=>some ((zdd (⟨b,c,d⟩:Cur) e),zbE (zbV (⟨b,c,d⟩:Cur) e),[aI (zeV (⟨b,c,d⟩:Cur) e)])
 | _,_=>none
theorem zGF (c:Cur)(a0:List Int)(hb:zbB big (.agg (zbE c) :: [aS .int a0]))(hc:zdd c a0=true):∃N,zhG N c a0=some (.agg (zbE (zbV c a0)) :: [aI (zeV c a0)]):=by
 exact (zoW hc).1
theorem zAL:zdm Tryz.prog 204 [false,true,true] zk5:=by
 refine zb4 (zcS zdA zW zGL zn) (zef (by kernel_rfl)) ?_
 intro cs avs cs' rs hl hr h;have hb:=zcn hr;unfold zk5 at h;split at h
 .obtain ⟨hc,rfl,rfl⟩:=zcH h;obtain ⟨N,hN⟩:=zGF _ _ (by exact hb) hc
  exact ⟨rfl,_,N,12,(zJK N _ _ ).trans hN⟩
 .cases h
theorem zJU {c:Cur}(h:zdr c){l:List Int}(hl:l≠[]):zdd c l=true:=by
 refine zMM c l ⟨0,?_⟩;have hp:0<ln l:=by unfold ln;have:=kM.2 hl;omega
 have g:=(znV (ziY h (ln l))).2.2 hp;have hb:inb (zbe c (ln l)) (ln l)=true:=qK ⟨g.1,g.2⟩;unfold zhG oN;exact zbF (ziY h _) (zbF hb (zkn aI (zcx _ _) (fun _=>zbr hb 0)))
def zXw:zdw:=[(147,([false,true,true],zoB)),(204,([false,true,true],zk5))]++zQh
theorem zSM:zcI zXw:=zdZ zGL (by
 intro x hx;simp only[qH,qX,or_false]at hx;rcases hx with rfl|rfl
 .exact zIW
 .exact zAL)
theorem zfb {c:Cur}{i k:Int}(h:zdr c)(h0:0<=i):zdr ⟨c.b,i,k⟩:=⟨h0,h.2⟩
theorem z5l {c:Cur}(h:zdr c){l:List Int}(hl:l≠[]):zeV c l∈l:=(zoW (zJU h hl)).2.2 (kM.2 hl)
theorem zog {c:Cur}(h:zdr c){n:Int}(hn:0<n):0<=zbe c n/\zbe c n<n:=(znV (ziY h n)).2.2 hn
theorem zJc {o x:Int}(h:(o=1\/o=2\/o=5\/o=6)/\0<=x/\x<=99\/(o=3\/o=4)/\0<=x/\x<=15\/o=8/\0<=x/\x<=11):zds ⟨o,x⟩=true:=by
 have w:∀{a b:Int},a<=x->x<=b->win x a b=true:=fun h1 h2=>by simp only[win,ige,ile,qD,qV];exact ⟨h1,h2⟩
 rcases h with ⟨h|h|h|h,h1,h2⟩|⟨h|h,h1,h2⟩|⟨h,h1,h2⟩<;>subst h<;>exact w h1 h2
def zmQ (N:Nat)(c:Cur)  : OA :=
 let y1:=(zeV c [1,2,3,3,3,4,4,4,5,6,8]);let y0:=({ (zbV c [1,2,3,3,3,4,4,4,5,6,8]) with b:=c.b }:Cur); (share (oN (zbd y0 16) (some [(.agg [(.s .u8 c.b),(.i .i64 (zD y0 16).i),(.i .i64 (zD y0 16).h)]),(.agg [(.i .i64 y1),(.i .i64 (zbe y0 16))])])) (fun t1=>(share (cond (ieq y1 8) (oN (zbd y0 4) (some [(.agg [(.s .u8 c.b),(.i .i64 (zD y0 4).i),(.i .i64 (zD y0 4).h)]),(.agg [(.i .i64 y1),(.i .i64 (zbe y0 4))])])) (oN (zbd y0 100) (some [(.agg [(.s .u8 c.b),(.i .i64 (zD y0 100).i),(.i .i64 (zD y0 100).h)]),(.agg [(.i .i64 y1),(.i .i64 (zbe y0 100))])]))) (fun t0=>(oN (zdd c [1,2,3,3,3,4,4,4,5,6,8]) (cond (ieq y1 3) (cond (ieq y1 3) t1 t0) (cond (ieq y1 4) t1 t0)))))))
theorem zUJ (N:Nat)(c:Cur)  : zfZ (cQ zlX zl8 zXw zk6) (zo []) N 12 274 [false,true,true] (zbE c) []=zmQ N c:=by kernel_rfl
def zlC (c:Cur)(s:Cur)(v0:Ins):Prop:=(∃N,zmQ N c=some (AV.agg (zbE s) :: [aT .ins v0]))/\(s.b=c.b/\0<=s.i)/\(zds v0=true)
def zhf (c:Cur)  : Bool:=pc (∃s v0,zlC c s v0)
def zrJ (c:Cur)  : Cur×Ins:=Classical.epsilon fun r=>zlC c r.1 r.2
def zf5 (c:Cur)  : Cur:=bif zhf c then (zrJ c).1 else ⟨[],0,0⟩
def zs8 (c:Cur)  : Ins:=(zrJ c).2
theorem zx1 {c:Cur}(h:zhf c=true):zlC c (zf5 c) (zs8 c):=by
 obtain ⟨s,v0,h2⟩:=zC.1 h;have h3:zlC c (zrJ c).1 (zrJ c).2:=Classical.epsilon_spec (p:=fun r=>zlC c r.1 r.2) ⟨(s,v0),h2⟩;unfold zf5;rw[h,cT];exact h3
theorem zXJ (c:Cur)  : 0<=(zf5 c).i:=by
 unfold zf5;cases h:zhf c with
 | false=>exact j4 0
 | true =>
  have:=(zx1 h).2.1.2;unfold zf5 at this
  rwa [h] at this
theorem zXI (c:Cur)(h:∃N,Ends (fun a=>∃s v0,a=(AV.agg (zbE s) :: [aT .ins v0])/\(s.b=c.b/\0<=s.i)/\(zds v0=true)) (zmQ N c)):zhf c=true:=by
 obtain ⟨N,a,e,s,v0,rfl,h⟩:=h;exact zY ⟨s,v0,⟨N,e⟩,h⟩
def zqI:List CV->List AV->Option (Bool×List CV×List AV)
 | [.s .u8 b,.i .i64 c,.i .i64 d],[]=>some ((zhf (⟨b,c,d⟩:Cur)),zbE (zf5 (⟨b,c,d⟩:Cur)),[aT .ins (zs8 (⟨b,c,d⟩:Cur))])
 | _,_=>none
theorem zSi (c:Cur)(hb:zbB big (.agg (zbE c) :: []))(hc:zhf c=true):∃N,zmQ N c=some (.agg (zbE (zf5 c)) :: [aT .ins (zs8 c)]):=by
 exact (zx1 hc).1
theorem zLB:zdm Tryz.prog 274 [false,true,true] zqI:=by
 refine zb4 (zcS zdA zW zSM zn) (zef (by kernel_rfl)) ?_
 intro cs avs cs' rs hl hr h;have hb:=zcn hr;unfold zqI at h;split at h
 .obtain ⟨hc,rfl,rfl⟩:=zcH h;obtain ⟨N,hN⟩:=zSi _ (by exact hb) hc
  exact ⟨rfl,_,N,12,(zUJ N _ ).trans hN⟩
 .cases h
theorem z3F {c:Cur}(h:zdr c):zhf c=true:=by
 refine zXI c ⟨0,?_⟩;have hk:([1,2,3,3,3,4,4,4,5,6,8]:List Int)≠[]:=by simp
 have hm:=z5l h hk;have h1:zdr { zbV c [1,2,3,3,3,4,4,4,5,6,8] with b:=c.b }:=zfb h (zkV _ _);have b16:=zog h1 (n:=16) (by omega)
 have b4:=zog h1 (n:=4) (by omega)
 have b100:=zog h1 (n:=100) (by omega)
 unfold zmQ oN
 conv=>zeta
 generalize zeV c [1,2,3,3,3,4,4,4,5,6,8]=o at hm;simp only[qH,qX,or_false]at hm;have no:∀{n:Int},ieq o n=false->o≠n:=fun h e=>by subst e;simp[ieq]at h
 have ye:∀{n:Int},ieq o n=true->o=n:=fun h=>by simpa [ieq] using h
 have L:∀(n:Int),0<n->(zds ⟨o,zbe { zbV c [1,2,3,3,3,4,4,4,5,6,8] with b:=c.b } n⟩=true)->Ends (fun a=>∃s v0,a=(AV.agg (zbE s) :: [aT .ins v0])/\(s.b=c.b/\0<=s.i)/\zds v0=true)
  (cond (zbd { zbV c [1,2,3,3,3,4,4,4,5,6,8] with b:=c.b } n) (some (AV.agg [.s .u8 c.b,.i .i64 (zD { zbV c [1,2,3,3,3,4,4,4,5,6,8] with b:=c.b } n).i,.i .i64 (zD { zbV c [1,2,3,3,3,4,4,4,5,6,8] with b:=c.b } n).h] :: [.agg [.i .i64 o,.i .i64 (zbe { zbV c [1,2,3,3,3,4,4,4,5,6,8] with b:=c.b } n)]])) none) :=
  fun n hn hi=>zbF (ziY h1 n) (zkn (aT .ins) (v:=⟨o,zbe _ n⟩) (zcx _ _) hi)
 refine zbF (zJU h hk) (zdi (fun h3=>zdi (fun _=>L 16 (by omega) (zJc ?_)) (fun h4=>absurd (ye h3) (no h4))) (fun h3=>zdi (fun h4=>L 16 (by omega) (zJc ?_)) (fun h4=>zdi (fun h8=>L 4 (by omega) (zJc ?_)) (fun h8=>L 100 (by omega) (zJc ?_)))))
 .have:=ye h3;omega
 .have:=ye h4;omega
 .have:=ye h8;omega
 .have:=no h3;have:=no h4;have:=no h8;omega
def zXx:zdw:=[(274,([false,true,true],zqI))]++zXw
theorem zSN:zcI zXx:=zdZ zSM (by
 intro x hx;simp only[qH,qX,or_false]at hx;rcases hx with rfl
 .exact zLB)
theorem zmN {x y:Int}(h0:0<=x)(h1:x<=1000000)(h2:0<=y)(h3:y<=1000000):zG .i64 x y=x+y:=zo2 (by omega) (by omega)
theorem zAu {α:Type}{l:List α}(h:ln l<=1000000):few (ln l)=true:=qK ⟨by unfold ln;omega,by omega⟩
theorem zrr {α:Type}(l:List α)(x:α):ln (ap l [x])=ln l+1:=by simp[ln,ap]
def zk9 (N:Nat)(c:Cur)  : OA :=
 (iter (σ:=(Int×(Int×(Int×(lI×((List Int)×Unit)))))) N (fun r2 s3=>let y3:=s3.2.2.2.1;let y2:=s3.2.2.2.2.1;let y1:=(⟨y2,s3.2.1,s3.2.2.1⟩:Cur);let y0:=({ (zD y1 7) with b:=y2 }:Cur); (oN (zbd y1 7) (cond (ilt s3.1 (zG .i64 2 (zbe y1 7))) (oN (zhf y0) (oN (few (ln (ap y3 [(zs8 y0)]))) (r2 ((zG .i64 s3.1 1),((zf5 y0).i,((zf5 y0).h,((ap y3 [(zs8 y0)]),(y2,())))))))) (oN (zd9 y0 3) (cond (zj4 y0 3) (oN (few (ln (ap y3 [(⟨7,0⟩:Ins)]))) (some [(.agg [(.s .u8 y2),(.i .i64 (zcl y0 3).i),(.i .i64 (zcl y0 3).h)]),(aS .ins (ap y3 [(⟨7,0⟩:Ins)]))])) (oN (few (ln (ap y3 [(⟨8,0⟩:Ins)]))) (some [(.agg [(.s .u8 y2),(.i .i64 (zcl y0 3).i),(.i .i64 (zcl y0 3).h)]),(aS .ins (ap y3 [(⟨8,0⟩:Ins)]))]))))))) (0,(c.i,(c.h,([],(c.b,()))))))
def zP6:FuncId->Nat->Option Tmpl:=zo [(203,0,{ n:=29,tm:=[(0,.lp 0 0),(3,.sl 0 []),(4,ti)],lo:=[(0,[.sl 1 [],ti,ti])],ro:=[(0,.ins,true),(1,.u8,false)] })]
theorem zSC (N:Nat)(c:Cur)  : zfZ (cQ zlX zl8 zXx zk6) zP6 N 12 203 [false,true,true] (zbE c) []=zk9 N c:=by kernel_rfl
def zj6 (c:Cur)(s:Cur)(v0:List Ins):Prop:=(∃N,zk9 N c=some (AV.agg (zbE s) :: [aS .ins v0]))/\(s.b=c.b/\0<=s.i)/\(zcP v0=true)
def zfs (c:Cur)  : Bool:=pc (∃s v0,zj6 c s v0)
def zpN (c:Cur)  : Cur×List Ins:=Classical.epsilon fun r=>zj6 c r.1 r.2
def zeB (c:Cur)  : Cur:=bif zfs c then (zpN c).1 else ⟨[],0,0⟩
def zmE (c:Cur)  : List Ins:=(zpN c).2
theorem zvm {c:Cur}(h:zfs c=true):zj6 c (zeB c) (zmE c):=by
 obtain ⟨s,v0,h2⟩:=zC.1 h;have h3:zj6 c (zpN c).1 (zpN c).2:=Classical.epsilon_spec (p:=fun r=>zj6 c r.1 r.2) ⟨(s,v0),h2⟩;unfold zeB;rw[h,cT];exact h3
theorem zUW (c:Cur)  : 0<=(zeB c).i:=by
 unfold zeB;cases h:zfs c with
 | false=>exact j4 0
 | true =>
  have:=(zvm h).2.1.2;unfold zeB at this
  rwa [h] at this
theorem zUV (c:Cur)(h:∃N,Ends (fun a=>∃s v0,a=(AV.agg (zbE s) :: [aS .ins v0])/\(s.b=c.b/\0<=s.i)/\(zcP v0=true)) (zk9 N c)):zfs c=true:=by
 obtain ⟨N,a,e,s,v0,rfl,h⟩:=h;exact zY ⟨s,v0,⟨N,e⟩,h⟩
def zoC:List CV->List AV->Option (Bool×List CV×List AV)
 | [.s .u8 b,.i .i64 c,.i .i64 d],[]=>some ((zfs (⟨b,c,d⟩:Cur)),zbE (zeB (⟨b,c,d⟩:Cur)),[aS .ins (zmE (⟨b,c,d⟩:Cur))])
 | _,_=>none
theorem zPF (c:Cur)(hb:zbB big (.agg (zbE c) :: []))(hc:zfs c=true):∃N,zk9 N c=some (.agg (zbE (zeB c)) :: [aS .ins (zmE c)]):=by
 exact (zvm hc).1
theorem zIZ:zdm Tryz.prog 203 [false,true,true] zoC:=by
 refine zb4 (zcS zdA zW zSN zn) (zef (by kernel_rfl)) ?_
 intro cs avs cs' rs hl hr h;have hb:=zcn hr;unfold zoC at h;split at h
 .obtain ⟨hc,rfl,rfl⟩:=zcH h;obtain ⟨N,hN⟩:=zPF _ (by exact hb) hc
  exact ⟨rfl,_,N,12,(zSC N _ ).trans hN⟩
 .cases h
theorem zZR {c:Cur}(h:zdr c):zfs c=true:=by
 refine zUV c ⟨9,?_⟩;unfold zk9 oN
 conv=>zeta
 refine zIc (fun n s=>s.1+(n:Int)=8/\0<=s.1/\0<=s.2.1/\(∀x∈s.2.2.2.1,zds x=true)/\ln s.2.2.2.1=s.1/\s.2.2.2.2.1=c.b) ?_ 9 8 _ ⟨rfl,j4 0,h.1,by simp,rfl,rfl⟩ (by omega)
 rintro n ⟨t,i,k,l,b,u⟩ rec ⟨h1,h2,h3,h4,h5,h6⟩ hrec
 dsimp only at h1 h2 h3 h4 h5 h6 ⊢
 subst h6;have hcur:zdr ⟨c.b,i,k⟩:=zfb h h3;have hx:=zog hcur (n:=7) (by omega)
 have hw:=zmN (x:=2) (by omega) (by omega) hx.1 (by omega)
 have h7:zdr { zD ⟨c.b,i,k⟩ 7 with b:=c.b }:=zfb h (zcx _ _);have fin:∀(y:Ins),zds y=true->2<=t->zcP (ap l [y])=true:=by
  intro y hy ht;unfold zcP;rw[zrr,h5];have:(ap l [y]).all zds=true:=by
   simp only[ap,List.all_append,uE,List.all_nil,Bool.and_true,qD];exact ⟨qM.2 h4,hy⟩
  rw[this,cT];simp only[win,ige,ile,qD,qV];omega
 refine zbF (ziY hcur 7) (zdi (fun hc=>?_) (fun hc=>?_))
 .have hlt:t<zG .i64 2 (zbe ⟨c.b,i,k⟩ 7):=qE hc;rw[hw]at hlt;refine zbF (z3F h7) (zbF (zAu (by rw[zrr];omega)) (hrec (n-1) _ (by omega) ⟨?_,?_,zXJ _,?_,?_,rfl⟩))
  .show zG .i64 t 1+_=8
   rw[zmN h2 (by omega) (by omega) (by omega)];omega
  .show 0<=zG .i64 t 1
   rw[zmN h2 (by omega) (by omega) (by omega)];omega
  .intro x hx;rcases jO.1 hx with hx|hx
   .exact h4 x hx
   .rw [qF.1 hx];exact (zx1 (z3F h7)).2.2
  .show ln (ap l [_])=zG .i64 t 1
   rw[zrr,zmN h2 (by omega) (by omega) (by omega)];omega
 .have hge:¬ t<zG .i64 2 (zbe ⟨c.b,i,k⟩ 7):=j3 hc;rw[hw]at hge;refine zbF (zSI h7 3) (zdi (fun _=>zbF (zAu (by rw[zrr];omega)) (zkn (aS .ins) (zhz _ _) (fin _ rfl (by omega)))) (fun _=>zbF (zAu (by rw[zrr];omega)) (zkn (aS .ins) (zhz _ _) (fin _ rfl (by omega)))))
def zXy:zdw:=[(203,([false,true,true],zoC))]++zXx
theorem zSO:zcI zXy:=zdZ zSN (by
 intro x hx;simp only[qH,qX,or_false]at hx;rcases hx with rfl
 .exact zIZ)
theorem zTL {α:Type}{c:Cur}(h:zdr c){P:α->Prop}{fc:Cur->Bool}{fs:Cur->Cur}{fv:Cur->α}(hf:∀{c:Cur},zdr c->fc c=true)(hp:∀c,0<=(fs c).i)(hg:∀{c:Cur},zdr c->P (fv c)){G:Ans->Prop}{R:Cur->List α->Ans}(hG:∀s l,s.b=c.b->0<=s.i->1<=l.length->l.length<=2->(∀x∈l,P x)->G (R s l)){F:(Int×Int×Int×List α×List Int×Unit->OA)->Int×Int×Int×List α×List Int×Unit->OA}(hF:∀rec t i k l,F rec (t,i,k,l,c.b,())=bif zbd ⟨c.b,i,k⟩ 2 then (bif ilt t (zG .i64 1 (zbe ⟨c.b,i,k⟩ 2)) then (bif fc { zD ⟨c.b,i,k⟩ 2 with b:=c.b } then (bif few (ln (ap l [fv { zD ⟨c.b,i,k⟩ 2 with b:=c.b }])) then
        rec (zG .i64 t 1,(fs { zD ⟨c.b,i,k⟩ 2 with b:=c.b }).i,(fs { zD ⟨c.b,i,k⟩ 2 with b:=c.b }).h,ap l [fv { zD ⟨c.b,i,k⟩ 2 with b:=c.b }],c.b,()) else none) else none) else some (R ⟨c.b,(zD ⟨c.b,i,k⟩ 2).i,(zD ⟨c.b,i,k⟩ 2).h⟩ l)) else none) :
 Ends G (iter 3 F (0,c.i,c.h,[],c.b,())):=by
 refine zIc (fun n s=>s.1+(n:Int)=2/\0<=s.1/\0<=s.2.1/\(∀x∈s.2.2.2.1,P x)/\ln s.2.2.2.1=s.1/\s.2.2.2.2.1=c.b) ?_ 3 2 _ ⟨rfl,j4 0,h.1,by simp,rfl,rfl⟩ (by omega)
 rintro n ⟨t,i,k,l,b,u⟩ rec ⟨h1,h2,h3,h4,h5,h6⟩ hrec
 dsimp only at h1 h2 h3 h4 h5 h6
 subst h6;rw[hF];have hcur:zdr ⟨c.b,i,k⟩:=zfb h h3;have hx:=zog hcur (n:=2) (by omega)
 have hw:=zmN (x:=1) (by omega) (by omega) hx.1 (by omega)
 have h7:zdr { zD ⟨c.b,i,k⟩ 2 with b:=c.b }:=zfb h (zcx _ _);refine zbF (ziY hcur 2) (zdi (fun hc=>?_) (fun hc=>?_))
 .have hlt:t<zG .i64 1 (zbe ⟨c.b,i,k⟩ 2):=qE hc;rw[hw]at hlt;have ht:=zmN (y:=1) h2 (by omega) (by omega) (by omega)
  refine zbF (hf h7) (zbF (zAu (by rw[zrr];omega)) (hrec (n-1) _ (by omega) ⟨?_,?_,hp _,?_,?_,rfl⟩))
  .show zG .i64 t 1+_=2
   omega
  .show 0<=zG .i64 t 1
   omega
  .intro x hx;rcases jO.1 hx with hx|hx
   .exact h4 x hx
   .rw [qF.1 hx];exact hg h7
  .show ln (ap l [_])=zG .i64 t 1
   rw[zrr];omega
 .have hge:¬ t<zG .i64 1 (zbe ⟨c.b,i,k⟩ 2):=j3 hc;rw[hw]at hge;unfold ln at h5;exact zId (hG _ l rfl (zcx _ _) (by omega) (by omega) h4)
def zjs (N:Nat)(c:Cur)  : OA :=
 (iter (σ:=(Int×(Int×(Int×(lP×((List Int)×Unit)))))) N (fun r2 s3=>let y2:=s3.2.2.2.2.1;let y1:=(⟨y2,s3.2.1,s3.2.2.1⟩:Cur);let y0:=({ (zD y1 2) with b:=y2 }:Cur); (oN (zbd y1 2) (cond (ilt s3.1 (zG .i64 1 (zbe y1 2))) (oN (zfs y0) (oN (few (ln (ap s3.2.2.2.1 [(zmE y0)]))) (r2 ((zG .i64 s3.1 1),((zeB y0).i,((zeB y0).h,((ap s3.2.2.2.1 [(zmE y0)]),(y2,())))))))) (some [(.agg [(.s .u8 y2),(.i .i64 (zD y1 2).i),(.i .i64 (zD y1 2).h)]),(aS (.sl .ins) s3.2.2.2.1)])))) (0,(c.i,(c.h,([],(c.b,()))))))
def zM6:FuncId->Nat->Option Tmpl:=zo [(146,0,{ n:=19,tm:=[(0,.lp 0 0),(3,.sl 0 []),(4,ti)],lo:=[(0,[.sl 1 [],ti,ti])],ro:=[(0,(.sl .ins),true),(1,.u8,false)] })]
theorem zPT (N:Nat)(c:Cur)  : zfZ (cQ zlX zl8 zXy zk6) zM6 N 12 146 [false,true,true] (zbE c) []=zjs N c:=by kernel_rfl
def ziT (c:Cur)(s:Cur)(v0:List (List Ins)):Prop:=(∃N,zjs N c=some (AV.agg (zbE s) :: [aS (.sl .ins) v0]))/\(s.b=c.b/\0<=s.i)/\(1<=v0.length/\v0.length<=2/\∀x∈v0,zcP x=true)
def zeX (c:Cur)  : Bool:=pc (∃s v0,ziT c s v0)
def znY (c:Cur)  : Cur×List (List Ins):=Classical.epsilon fun r=>ziT c r.1 r.2
def zea (c:Cur)  : Cur:=bif zeX c then (znY c).1 else ⟨[],0,0⟩
def zkX (c:Cur)  : List (List Ins):=(znY c).2
theorem zs9 {c:Cur}(h:zeX c=true):ziT c (zea c) (zkX c):=by
 obtain ⟨s,v0,h2⟩:=zC.1 h;have h3:ziT c (znY c).1 (znY c).2:=Classical.epsilon_spec (p:=fun r=>ziT c r.1 r.2) ⟨(s,v0),h2⟩;unfold zea;rw[h,cT];exact h3
theorem zS5 (c:Cur)  : 0<=(zea c).i:=by
 unfold zea;cases h:zeX c with
 | false=>exact j4 0
 | true =>
  have:=(zs9 h).2.1.2;unfold zea at this
  rwa [h] at this
theorem zS4 (c:Cur)(h:∃N,Ends (fun a=>∃s v0,a=(AV.agg (zbE s) :: [aS (.sl .ins) v0])/\(s.b=c.b/\0<=s.i)/\(1<=v0.length/\v0.length<=2/\∀x∈v0,zcP x=true)) (zjs N c)):zeX c=true:=by
 obtain ⟨N,a,e,s,v0,rfl,h⟩:=h;exact zY ⟨s,v0,⟨N,e⟩,h⟩
def znj:List CV->List AV->Option (Bool×List CV×List AV)
 | [.s .u8 b,.i .i64 c,.i .i64 d],[]=>some ((zeX (⟨b,c,d⟩:Cur)),zbE (zea (⟨b,c,d⟩:Cur)),[aS (.sl .ins) (zkX (⟨b,c,d⟩:Cur))])
 | _,_=>none
theorem zMp (c:Cur)(hb:zbB big (.agg (zbE c) :: []))(hc:zeX c=true):∃N,zjs N c=some (.agg (zbE (zea c)) :: [aS (.sl .ins) (zkX c)]):=by
 exact (zs9 hc).1
theorem zGi:zdm Tryz.prog 146 [false,true,true] znj:=by
 refine zb4 (zcS zdA zW zSO zn) (zef (by kernel_rfl)) ?_
 intro cs avs cs' rs hl hr h;have hb:=zcn hr;unfold znj at h;split at h
 .obtain ⟨hc,rfl,rfl⟩:=zcH h;obtain ⟨N,hN⟩:=zMp _ (by exact hb) hc
  exact ⟨rfl,_,N,12,(zPT N _ ).trans hN⟩
 .cases h
theorem zVT {c:Cur}(h:zdr c):zeX c=true:=by
 refine zS4 c ⟨3,?_⟩;unfold zjs oN
 conv=>zeta
 exact zTL h (P:=fun x=>zcP x=true) (fc:=zfs) (fs:=zeB) (fv:=zmE) (R:=fun s l=>AV.agg (zbE s) :: [aS (.sl .ins) l]) zZR zUW (fun h=>(zvm (zZR h)).2.2) (fun s l hb hi h1 h2 hl=>⟨s,l,rfl,⟨hb,hi⟩,h1,h2,hl⟩) (fun rec t i k l=>rfl)
def zXz:zdw:=[(146,([false,true,true],znj))]++zXy
theorem zSP:zcI zXz:=zdZ zSO (by
 intro x hx;simp only[qH,qX,or_false]at hx;rcases hx with rfl
 .exact zGi)
def zmS (N:Nat)(c:Cur)  : OA :=
 (iter (σ:=(Int×(Int×(Int×(lQ×((List Int)×Unit)))))) N (fun r2 s3=>let y2:=s3.2.2.2.2.1;let y1:=(⟨y2,s3.2.1,s3.2.2.1⟩:Cur);let y0:=({ (zD y1 2) with b:=y2 }:Cur); (oN (zbd y1 2) (cond (ilt s3.1 (zG .i64 1 (zbe y1 2))) (oN (zeX y0) (oN (few (ln (ap s3.2.2.2.1 [(zkX y0)]))) (r2 ((zG .i64 s3.1 1),((zea y0).i,((zea y0).h,((ap s3.2.2.2.1 [(zkX y0)]),(y2,())))))))) (some [(.agg [(.s .u8 y2),(.i .i64 (zD y1 2).i),(.i .i64 (zD y1 2).h)]),(aS (.sl (.sl .ins)) s3.2.2.2.1)])))) (0,(c.i,(c.h,([],(c.b,()))))))
def zTG:FuncId->Nat->Option Tmpl:=zo [(86,0,{ n:=19,tm:=[(0,.lp 0 0),(3,.sl 0 []),(4,ti)],lo:=[(0,[.sl 1 [],ti,ti])],ro:=[(0,(.sl (.sl .ins)),true),(1,.u8,false)] })]
theorem zUL (N:Nat)(c:Cur)  : zfZ (cQ zlX zl8 zXz zk6) zTG N 12 86 [false,true,true] (zbE c) []=zmS N c:=by kernel_rfl
def zlE (c:Cur)(s:Cur)(v0:List (List (List Ins))):Prop:=(∃N,zmS N c=some (AV.agg (zbE s) :: [aS (.sl (.sl .ins)) v0]))/\(s.b=c.b/\0<=s.i)/\(1<=v0.length/\v0.length<=2/\∀p∈v0,1<=p.length/\p.length<=2/\∀x∈p,zcP x=true)
def zhi (c:Cur)  : Bool:=pc (∃s v0,zlE c s v0)
def zrL (c:Cur)  : Cur×List (List (List Ins)):=Classical.epsilon fun r=>zlE c r.1 r.2
def zfu (c:Cur)  : Cur:=bif zhi c then (zrL c).1 else ⟨[],0,0⟩
def zoY (c:Cur)  : List (List (List Ins)):=(zrL c).2
theorem zx2 {c:Cur}(h:zhi c=true):zlE c (zfu c) (zoY c):=by
 obtain ⟨s,v0,h2⟩:=zC.1 h;have h3:zlE c (zrL c).1 (zrL c).2:=Classical.epsilon_spec (p:=fun r=>zlE c r.1 r.2) ⟨(s,v0),h2⟩;unfold zfu;rw[h,cT];exact h3
theorem zXN (c:Cur)  : 0<=(zfu c).i:=by
 unfold zfu;cases h:zhi c with
 | false=>exact j4 0
 | true =>
  have:=(zx2 h).2.1.2;unfold zfu at this
  rwa [h] at this
theorem zXM (c:Cur)(h:∃N,Ends (fun a=>∃s v0,a=(AV.agg (zbE s) :: [aS (.sl (.sl .ins)) v0])/\(s.b=c.b/\0<=s.i)/\(1<=v0.length/\v0.length<=2/\∀p∈v0,1<=p.length/\p.length<=2/\∀x∈p,zcP x=true)) (zmS N c)):zhi c=true:=by
 obtain ⟨N,a,e,s,v0,rfl,h⟩:=h;exact zY ⟨s,v0,⟨N,e⟩,h⟩
def zqK:List CV->List AV->Option (Bool×List CV×List AV)
 | [.s .u8 b,.i .i64 c,.i .i64 d],[]=>some ((zhi (⟨b,c,d⟩:Cur)),zbE (zfu (⟨b,c,d⟩:Cur)),[aS (.sl (.sl .ins)) (zoY (⟨b,c,d⟩:Cur))])
 | _,_=>none
theorem zSk (c:Cur)(hb:zbB big (.agg (zbE c) :: []))(hc:zhi c=true):∃N,zmS N c=some (.agg (zbE (zfu c)) :: [aS (.sl (.sl .ins)) (zoY c)]):=by
 exact (zx2 hc).1
theorem zLD:zdm Tryz.prog 86 [false,true,true] zqK:=by
 refine zb4 (zcS zdA zW zSP zn) (zef (by kernel_rfl)) ?_
 intro cs avs cs' rs hl hr h;have hb:=zcn hr;unfold zqK at h;split at h
 .obtain ⟨hc,rfl,rfl⟩:=zcH h;obtain ⟨N,hN⟩:=zSk _ (by exact hb) hc
  exact ⟨rfl,_,N,12,(zUL N _ ).trans hN⟩
 .cases h
theorem z2m {c:Cur}(h:zdr c):zhi c=true:=by
 refine zXM c ⟨3,?_⟩;unfold zmS oN
 conv=>zeta
 exact zTL h (P:=fun p=>1<=p.length/\p.length<=2/\∀x∈p,zcP x=true) (fc:=zeX) (fs:=zea) (fv:=zkX) (R:=fun s l=>AV.agg (zbE s) :: [aS (.sl (.sl .ins)) l]) zVT zS5 (fun h=>(zs9 (zVT h)).2.2) (fun s l hb hi h1 h2 hl=>⟨s,l,rfl,⟨hb,hi⟩,h1,h2,hl⟩) (fun rec t i k l=>rfl)
def zXA:zdw:=[(86,([false,true,true],zqK))]++zXz
theorem zSQ:zcI zXA:=zdZ zSP (by
 intro x hx;simp only[qH,qX,or_false]at hx;rcases hx with rfl
 .exact zLD)
theorem zCt {ρ:Type}{G:ρ->Prop}{x:Bool}{a b:Option ρ}(k:Ends G a)(h:x=true:=by first
 | exact ziY (by first|assumption|exact zfb (by assumption) (zcx _ _)|exact zfb (by assumption) (zhz _ _)|exact zfb (by assumption) (zkV _ _)) _
 | exact zSI (by first|assumption|exact zfb (by assumption) (zcx _ _)|exact zfb (by assumption) (zhz _ _)) _
 | exact zJU (by first|assumption|exact zfb (by assumption) (zcx _ _)) (by simp)):Ends G (cond x a b):=zbF h k
def zmR (N:Nat)(c:Cur)  : OA :=
 let y5:=(zbe c 4);let y0:=({ (zD c 4) with b:=c.b }:Cur);let y4:=(zj4 y0 4);let y3:=(zcl y0 4);let y1:=({ y3 with b:=c.b }:Cur);let y2:=({ (zcl y1 2) with b:=c.b }:Cur); (oN (zbd c 4) (oN (zd9 y0 4) (cond (nB y4) (cond (ine y5 2) (oN (zd9 y1 2) (cond (zj4 y1 2) (oN (zbd y2 256) (some [(.agg [(.s .u8 c.b),(.i .i64 (zD y2 256).i),(.i .i64 (zD y2 256).h)]),(.agg [(.i .i64 y5),(.i .i64 (zbe y2 256)),(.b (nB y4))])])) (some [(.agg [(.s .u8 c.b),(.i .i64 (zcl y1 2).i),(.i .i64 (zcl y1 2).h)]),(.agg [(.i .i64 y5),(.i .i64 0),(.b (nB y4))])]))) (some [(.agg [(.s .u8 c.b),(.i .i64 y3.i),(.i .i64 y3.h)]),(.agg [(.i .i64 y5),(.i .i64 0),(.b (nB y4))])])) (some [(.agg [(.s .u8 c.b),(.i .i64 y3.i),(.i .i64 y3.h)]),(.agg [(.i .i64 y5),(.i .i64 0),(.b (nB y4))])]))))
theorem zUK (N:Nat)(c:Cur)  : zfZ (cQ zlX zl8 zXA zk6) (zo []) N 12 205 [false,true,true] (zbE c) []=zmR N c:=by kernel_rfl
def zlD (c:Cur)(s:Cur)(v0:Ctl):Prop:=(∃N,zmR N c=some (AV.agg (zbE s) :: [.agg (zAl v0)]))/\(s.b=c.b/\0<=s.i)/\(True)
def zhg (c:Cur)  : Bool:=pc (∃s v0,zlD c s v0)
def zrK (c:Cur)  : Cur×Ctl:=Classical.epsilon fun r=>zlD c r.1 r.2
def zeW (c:Cur)  : Cur:=bif zhg c then (zrK c).1 else ⟨[],0,0⟩
def zj7 (c:Cur)  : Ctl:=(zrK c).2
theorem zJ5 {c:Cur}(h:zhg c=true):zlD c (zeW c) (zj7 c):=by
 obtain ⟨s,v0,h2⟩:=zC.1 h;have h3:zlD c (zrK c).1 (zrK c).2:=Classical.epsilon_spec (p:=fun r=>zlD c r.1 r.2) ⟨(s,v0),h2⟩;unfold zeW;rw[h,cT];exact h3
theorem zXL (c:Cur)  : 0<=(zeW c).i:=by
 unfold zeW;cases h:zhg c with
 | false=>exact j4 0
 | true =>
  have:=(zJ5 h).2.1.2;unfold zeW at this
  rwa [h] at this
theorem zXK (c:Cur)(h:∃N,Ends (fun a=>∃s v0,a=(AV.agg (zbE s) :: [.agg (zAl v0)])/\(s.b=c.b/\0<=s.i)/\(True)) (zmR N c)):zhg c=true:=by
 obtain ⟨N,a,e,s,v0,rfl,h⟩:=h;exact zY ⟨s,v0,⟨N,e⟩,h⟩
def zqJ:List CV->List AV->Option (Bool×List CV×List AV)
 | [.s .u8 b,.i .i64 c,.i .i64 d],[]=>some ((zhg (⟨b,c,d⟩:Cur)),zbE (zeW (⟨b,c,d⟩:Cur)),[.agg (zAl (zj7 (⟨b,c,d⟩:Cur)))])
 | _,_=>none
theorem zSj (c:Cur)(hb:zbB big (.agg (zbE c) :: []))(hc:zhg c=true):∃N,zmR N c=some (.agg (zbE (zeW c)) :: [.agg (zAl (zj7 c))]):=by
 exact (zJ5 hc).1
theorem zLC:zdm Tryz.prog 205 [false,true,true] zqJ:=by
 refine zb4 (zcS zdA zW zSQ zn) (zef (by kernel_rfl)) ?_
 intro cs avs cs' rs hl hr h;have hb:=zcn hr;unfold zqJ at h;split at h
 .obtain ⟨hc,rfl,rfl⟩:=zcH h;obtain ⟨N,hN⟩:=zSj _ (by exact hb) hc
  exact ⟨rfl,_,N,12,(zUK N _ ).trans hN⟩
 .cases h
theorem z6K {c:Cur}(h:zdr c):zhg c=true:=by
 refine zXK c ⟨0,?_⟩;unfold zmR oN nB
 conv=>zeta
 refine zCt (zCt (zdi (fun _=>zdi (fun _=>zCt (zdi (fun _=>zCt (?_)) (fun _=>?_))) (fun _=>?_)) (fun _=>?_)))
 all_goals exact zkn (fun x=>AV.agg (zAl x)) (v:=⟨_,_,_⟩) (by first|exact zcx _ _|exact zhz _ _) trivial
def zXB:zdw:=[(205,([false,true,true],zqJ))]++zXA
theorem zGM:zcI zXB:=zdZ zSQ (by
 intro x hx;simp only[qH,qX,or_false]at hx;rcases hx with rfl
 .exact zLC)
theorem zdu {ρ:Type}{G:ρ->Prop}{x:Bool}{a b:Option ρ}(k:Ends G a)(h:x=true:=by first
 | exact ziY (by first|assumption|exact zfb (by assumption) (zcx _ _)|exact zfb (by assumption) (zkV _ _)) _
 | exact zJU (by first|assumption|exact zfb (by assumption) (zcx _ _)) (by simp)
 | exact z6K (zfb (by assumption) (zcx _ _))):Ends G (cond x a b):=zbF h k
def zmT (N:Nat)(c:Cur)  : OA :=
 let y13:=({ (zD c 2) with b:=c.b }:Cur);let y8:=(zbe c 2);let y2:=(zbe y13 2);let y1:=({ (zD y13 2) with b:=c.b }:Cur);let y10:=(zD y1 24);let y5:=(zbe y1 24);let y0:=({ y10 with b:=c.b }:Cur);let y14:=(zD y0 8);let y12:=({ (zD y0 4) with b:=c.b }:Cur);let y11:=({ y14 with b:=c.b }:Cur);let y9:=({ (zD y0 16) with b:=c.b }:Cur);let y7:=({ (zbV y0 [16,17]) with b:=c.b }:Cur);let y6:=({ (zbV y0 [13,13,14,15]) with b:=c.b }:Cur);let y4:=({ (zD y11 4) with b:=c.b }:Cur);let y3:=({ (zD y12 8) with b:=c.b }:Cur); (share (oN (zdd y0 [13,13,14,15]) (oN (zbd y6 8) (some [(.agg [(.s .u8 c.b),(.i .i64 (zD y6 8).i),(.i .i64 (zD y6 8).h)]),(.agg [(.i .i64 (zeV y0 [13,13,14,15])),(.i .i64 y8),(.i .i64 y2),(.i .i64 (zbe y6 8)),(.i .i64 0),(.i .i64 0)])]))) (fun t5=>(share (cond (ieq y5 16) (oN (zdd y0 [16,17]) (oN (zbd y7 4) (some [(.agg [(.s .u8 c.b),(.i .i64 (zD y7 4).i),(.i .i64 (zD y7 4).h)]),(.agg [(.i .i64 (zeV y0 [16,17])),(.i .i64 y8),(.i .i64 y2),(.i .i64 (zbe y7 4)),(.i .i64 0),(.i .i64 0)])]))) (some [(.agg [(.s .u8 c.b),(.i .i64 y10.i),(.i .i64 y10.h)]),(.agg [(.i .i64 1),(.i .i64 y8),(.i .i64 y2),(.i .i64 0),(.i .i64 0),(.i .i64 0)])])) (fun t4=>(share (oN (zbd y0 4) (oN (zbd y12 8) (oN (zdd y3 [3,3,1,2]) (some [(.agg [(.s .u8 c.b),(.i .i64 (zbV y3 [3,3,1,2]).i),(.i .i64 (zbV y3 [3,3,1,2]).h)]),(.agg [(.i .i64 2),(.i .i64 y8),(.i .i64 y2),(.i .i64 (zbe y0 4)),(.i .i64 (zbe y12 8)),(.i .i64 (zeV y3 [3,3,1,2]))])])))) (fun t3=>(share (oN (zbd y0 4) (some [(.agg [(.s .u8 c.b),(.i .i64 (zD y0 4).i),(.i .i64 (zD y0 4).h)]),(.agg [(.i .i64 3),(.i .i64 y8),(.i .i64 y2),(.i .i64 (zbe y0 4)),(.i .i64 0),(.i .i64 0)])])) (fun t2=>(share (cond (ieq y5 7) (oN (zbd y0 8) (some [(.agg [(.s .u8 c.b),(.i .i64 y14.i),(.i .i64 y14.h)]),(.agg [(.i .i64 6),(.i .i64 y8),(.i .i64 y2),(.i .i64 (zbe y0 8)),(.i .i64 0),(.i .i64 0)])])) (cond (ieq y5 8) (oN (zhg y0) (cond ((zj7 y0).Open) (some [(.agg [(.s .u8 c.b),(.i .i64 (zeW y0).i),(.i .i64 (zeW y0).h)]),(.agg [(.i .i64 7),(.i .i64 y8),(.i .i64 y2),(.i .i64 (zj7 y0).Traps),(.i .i64 (zj7 y0).Post),(.i .i64 1)])]) (some [(.agg [(.s .u8 c.b),(.i .i64 (zeW y0).i),(.i .i64 (zeW y0).h)]),(.agg [(.i .i64 7),(.i .i64 y8),(.i .i64 y2),(.i .i64 (zj7 y0).Traps),(.i .i64 (zj7 y0).Post),(.i .i64 0)])]))) (cond (ieq y5 9) (oN (zbd y0 8) (oN (zbd y11 4) (oN (zbd y4 100) (some [(.agg [(.s .u8 c.b),(.i .i64 (zD y4 100).i),(.i .i64 (zD y4 100).h)]),(.agg [(.i .i64 8),(.i .i64 y8),(.i .i64 y2),(.i .i64 (zbe y0 8)),(.i .i64 (zbe y11 4)),(.i .i64 (zbe y4 100))])])))) (cond (ieq y5 10) (oN (zbd y0 8) (some [(.agg [(.s .u8 c.b),(.i .i64 y14.i),(.i .i64 y14.h)]),(.agg [(.i .i64 9),(.i .i64 y8),(.i .i64 y2),(.i .i64 (zbe y0 8)),(.i .i64 0),(.i .i64 0)])])) (cond (ieq y5 11) (some [(.agg [(.s .u8 c.b),(.i .i64 y10.i),(.i .i64 y10.h)]),(.agg [(.i .i64 10),(.i .i64 y8),(.i .i64 y2),(.i .i64 0),(.i .i64 0),(.i .i64 0)])]) (cond (ieq y5 12) (oN (zbd y0 16) (oN (zbd y9 100) (some [(.agg [(.s .u8 c.b),(.i .i64 (zD y9 100).i),(.i .i64 (zD y9 100).h)]),(.agg [(.i .i64 11),(.i .i64 y8),(.i .i64 y2),(.i .i64 (zbe y0 16)),(.i .i64 (zbe y9 100)),(.i .i64 0)])]))) (cond (ieq y5 13) (oN (zbd y0 16) (some [(.agg [(.s .u8 c.b),(.i .i64 (zD y0 16).i),(.i .i64 (zD y0 16).h)]),(.agg [(.i .i64 12),(.i .i64 y8),(.i .i64 y2),(.i .i64 (zbe y0 16)),(.i .i64 0),(.i .i64 0)])])) (cond (ieq y5 14) (cond (ieq y5 14) t5 t4) (cond (ieq y5 15) t5 t4))))))))) (fun t0=>(share (cond (ieq y5 4) (oN (zbd y0 100) (some [(.agg [(.s .u8 c.b),(.i .i64 (zD y0 100).i),(.i .i64 (zD y0 100).h)]),(.agg [(.i .i64 4),(.i .i64 y8),(.i .i64 y2),(.i .i64 (zbe y0 100)),(.i .i64 0),(.i .i64 0)])])) (cond (ieq y5 5) (cond (ieq y5 5) (some [(.agg [(.s .u8 c.b),(.i .i64 y10.i),(.i .i64 y10.h)]),(.agg [(.i .i64 5),(.i .i64 y8),(.i .i64 y2),(.i .i64 0),(.i .i64 0),(.i .i64 0)])]) t0) (cond (ieq y5 6) (some [(.agg [(.s .u8 c.b),(.i .i64 y10.i),(.i .i64 y10.h)]),(.agg [(.i .i64 5),(.i .i64 y8),(.i .i64 y2),(.i .i64 0),(.i .i64 0),(.i .i64 0)])]) t0))) (fun t1=>(share (cond (ieq y5 2) (cond (ieq y5 2) t2 t1) (cond (ieq y5 3) t2 t1)) (fun t6=>(oN (zbd c 2) (oN (zbd y13 2) (oN (zbd y1 24) (cond (ieq y5 0) (cond (ieq y5 0) t3 t6) (cond (ieq y5 1) t3 t6)))))))))))))))))))
theorem zUN (N:Nat)(c:Cur)  : zfZ (cQ zlX zl8 zXB zk6) (zo []) N 12 149 [false,true,true] (zbE c) []=zmT N c:=by kernel_rfl
def zlG (c:Cur)(s:Cur)(v0:GAct):Prop:=(∃N,zmT N c=some (AV.agg (zbE s) :: [aT .act v0]))/\(s.b=c.b/\0<=s.i)/\(True)
def zfv (c:Cur)  : Bool:=pc (∃s v0,zlG c s v0)
def zrN (c:Cur)  : Cur×GAct:=Classical.epsilon fun r=>zlG c r.1 r.2
def zdU (c:Cur)  : Cur:=bif zfv c then (zrN c).1 else ⟨[],0,0⟩
def zml (c:Cur)  : GAct:=(zrN c).2
theorem zJ6 {c:Cur}(h:zfv c=true):zlG c (zdU c) (zml c):=by
 obtain ⟨s,v0,h2⟩:=zC.1 h;have h3:zlG c (zrN c).1 (zrN c).2:=Classical.epsilon_spec (p:=fun r=>zlG c r.1 r.2) ⟨(s,v0),h2⟩;unfold zdU;rw[h,cT];exact h3
theorem zXP (c:Cur)  : 0<=(zdU c).i:=by
 unfold zdU;cases h:zfv c with
 | false=>exact j4 0
 | true =>
  have:=(zJ6 h).2.1.2;unfold zdU at this
  rwa [h] at this
theorem zXO (c:Cur)(h:∃N,Ends (fun a=>∃s v0,a=(AV.agg (zbE s) :: [aT .act v0])/\(s.b=c.b/\0<=s.i)/\(True)) (zmT N c)):zfv c=true:=by
 obtain ⟨N,a,e,s,v0,rfl,h⟩:=h;exact zY ⟨s,v0,⟨N,e⟩,h⟩
def zqL:List CV->List AV->Option (Bool×List CV×List AV)
 | [.s .u8 b,.i .i64 c,.i .i64 d],[]=>some ((zfv (⟨b,c,d⟩:Cur)),zbE (zdU (⟨b,c,d⟩:Cur)),[aT .act (zml (⟨b,c,d⟩:Cur))])
 | _,_=>none
theorem zSo (c:Cur)(hb:zbB big (.agg (zbE c) :: []))(hc:zfv c=true):∃N,zmT N c=some (.agg (zbE (zdU c)) :: [aT .act (zml c)]):=by
 exact (zJ6 hc).1
theorem zLH:zdm Tryz.prog 149 [false,true,true] zqL:=by
 refine zb4 (zcS zdA zW zGM zn) (zef (by kernel_rfl)) ?_
 intro cs avs cs' rs hl hr h;have hb:=zcn hr;unfold zqL at h;split at h
 .obtain ⟨hc,rfl,rfl⟩:=zcH h;obtain ⟨N,hN⟩:=zSo _ (by exact hb) hc
  exact ⟨rfl,_,N,12,(zUN N _ ).trans hN⟩
 .cases h
theorem z6I {c:Cur}(h:zdr c):zfv c=true:=by
 refine zXO c ⟨0,?_⟩;unfold zmT oN
 conv=>zeta
 refine zlZ (zdu (zdu (?_))) (fun _ ht5=>zlZ (zdi (fun _=>zdu (zdu (?_))) (fun _=>?_)) (fun _ ht4=>zlZ (zdu (zdu (zdu (?_)))) (fun _ ht3=>zlZ (zdu (?_)) (fun _ ht2=>zlZ (zdi (fun _=>zdu (?_)) (fun _=>zdi (fun _=>zdu (zdi (fun _=>?_) (fun _=>?_))) (fun _=>zdi (fun _=>zdu (zdu (zdu (?_)))) (fun _=>zdi (fun _=>zdu (?_)) (fun _=>zdi (fun _=>?_) (fun _=>zdi (fun _=>zdu (zdu (?_))) (fun _=>zdi (fun _=>zdu (?_)) (fun _=>zdi (fun _=>zdi (fun _=>ht5) (fun _=>ht4)) (fun _=>zdi (fun _=>ht5) (fun _=>ht4)))))))))) (fun _ ht0=>zlZ (zdi (fun _=>zdu (?_)) (fun _=>zdi (fun _=>zdi (fun _=>?_) (fun _=>ht0)) (fun _=>zdi (fun _=>?_) (fun _=>ht0)))) (fun _ ht1=>zlZ (zdi (fun _=>zdi (fun _=>ht2) (fun _=>ht1)) (fun _=>zdi (fun _=>ht2) (fun _=>ht1))) (fun _ ht6=>zdu (zdu (zdu (zdi (fun _=>zdi (fun _=>ht3) (fun _=>ht6)) (fun _=>zdi (fun _=>ht3) (fun _=>ht6))))))))))))
 all_goals exact zkn (aT .act) (v:=⟨_,_,_,_,_,_⟩) (by first|exact zcx _ _|exact zkV _ _|exact zXL _) trivial
def zjt (N:Nat)  : OA :=
 (iter (σ:=(Int×(lA×Unit))) N (fun r1 s2=>(cond (ilt s2.1 2) (iter (σ:=(Int×(Int×(lA×Unit)))) N (fun r3 s4=>(cond (ilt s4.2.1 2) (iter (σ:=(Int×(Int×(Int×(lA×Unit))))) N (fun r5 s6=>let y0:=(ap s6.2.2.2.1 [(⟨2,s6.1,s6.2.1,s6.2.2.1,(zG .i64 s6.2.2.1 (zn4 .i64 3 s6.2.1)),3⟩:GAct),(⟨3,s6.1,s6.2.1,s6.2.2.1,0,0⟩:GAct)]); (cond (ilt s6.2.2.1 3) (oN (few (ln y0)) (r5 (s6.1,(s6.2.1,((zG .i64 s6.2.2.1 1),(y0,())))))) (r3 (s6.1,((zG .i64 s6.2.1 1),(s6.2.2.2.1,())))))) (s4.1,(s4.2.1,(0,(s4.2.2.1,()))))) (r1 ((zG .i64 s4.1 1),(s4.2.2.1,()))))) (s2.1,(0,(s2.2.1,())))) (some [(aS .act s2.2.1)]))) (0,([],())))
def zM7:FuncId->Nat->Option Tmpl:=zo [(148,0,{ n:=34,tm:=[(1,.sl 0 []),(2,ti)],lo:=[],ro:=[(0,.act,true)] }),(148,2,{ n:=34,tm:=[(1,.sl 0 []),(2,ti),(3,ti)],lo:=[],ro:=[(0,.act,true)] }),(148,4,{ n:=34,tm:=[(1,.sl 0 []),(2,ti),(3,ti),(4,ti)],lo:=[],ro:=[(0,.act,true)] })]
def ziU  (v0:List GAct):Prop:=(∃N,zjt N=some [aS .act v0])/\(v0.length<=45)
def zh2  : Bool:=pc (∃v0,ziU v0)
def zB8  : List GAct:=Classical.epsilon fun r=>ziU r
def zrO  : List GAct:=(zB8)
theorem zB7  (h:zh2=true):ziU zrO:=by
 obtain ⟨v0,h2⟩:=zC.1 h;have h3:ziU (zB8):=Classical.epsilon_spec (p:=fun r=>ziU r) ⟨v0,h2⟩;exact h3
theorem zS6  (h:∃N,Ends (fun a=>∃v0,a=[aS .act v0]/\(v0.length<=45)) (zjt N)):zh2=true:=by
 obtain ⟨N,a,e,v0,rfl,h⟩:=h;exact zY ⟨v0,⟨N,e⟩,h⟩
def zwJ:Run:=rF0 (zh2,[aS .act zrO])
theorem zMq  (hc:zh2=true):∃N,zjt N  = some [aS .act zrO]:=by
 exact (zB7 hc).1
theorem zGj:vF 148 zwJ:=kF0 zdA zW zGM zn zM7 zMq
def zYj:List GAct:=match zjt 10 with
 | some [.one (.s .act l)]=>l
 | _=>[]
theorem zVq:zh2=true:=zS6 ⟨10,_,(by kernel_rfl:zjt 10=some [aS .act zYj]),zYj,rfl,Nat.le_of_ble_eq_true (by kernel_rfl)⟩
def zXC:zdw:=[(149,([false,true,true],zqL))]++zXB
theorem zSR:zcI zXC:=zdZ zGM (by
 intro x hx;simp only[qH,qX,or_false]at hx;rcases hx with rfl
 .exact zLH)
def zYn:zO:=[(148,zwJ)]++zlX
theorem zYo:zF zYn:=zh zGj zdA
theorem zN8 {c:Cur}(h:zdr c){m:Int}(h0:0<=m)(hm:m<=1000){G:Ans->Prop}{R:Cur->List GAct->Ans}(hG:∀s l,s.b=c.b->0<=s.i->ln l<=45+m->G (R s l)){F:(Int×Int×Int×Int×List GAct×List Int×Unit->OA)->Int×Int×Int×Int×List GAct×List Int×Unit->OA}(hF:∀rec t i k l,F rec (m,t,i,k,l,c.b,())=bif zbd ⟨c.b,i,k⟩ (zG .i64 m 1) then (bif ilt t (zbe ⟨c.b,i,k⟩ (zG .i64 m 1)) then (bif zfv { zD ⟨c.b,i,k⟩ (zG .i64 m 1) with b:=c.b } then (bif few (ln (ap l [zml { zD ⟨c.b,i,k⟩ (zG .i64 m 1) with b:=c.b }])) then
        rec (m,zG .i64 t 1,(zdU { zD ⟨c.b,i,k⟩ (zG .i64 m 1) with b:=c.b }).i,(zdU { zD ⟨c.b,i,k⟩ (zG .i64 m 1) with b:=c.b }).h,ap l [zml { zD ⟨c.b,i,k⟩ (zG .i64 m 1) with b:=c.b }],c.b,()) else none) else none) else some (R ⟨c.b,(zD ⟨c.b,i,k⟩ (zG .i64 m 1)).i,(zD ⟨c.b,i,k⟩ (zG .i64 m 1)).h⟩ l)) else none){i0 k0:Int}(hi0:0<=i0){l0:List GAct}(hl0:l0.length<=45):Ends G (iter 1002 F (m,0,i0,k0,l0,c.b,())):=by
 refine zIc (fun n s=>s.1=m/\s.2.1+(n:Int)=1000/\0<=s.2.1/\0<=s.2.2.1/\(ln s.2.2.2.2.1<=45+s.2.1/\s.2.1<=m)/\s.2.2.2.2.2.1=c.b) ?_ 1002 1000 _ ⟨rfl,rfl,j4 0,hi0,⟨by unfold ln;show ((l0.length:Nat):Int)<=45+0;omega,h0⟩,rfl⟩ (by omega)
 rintro n ⟨q,t,i,k,l,b,u⟩ rec ⟨h0,h1,h2,h3,⟨h5,hq⟩,h6⟩ hrec
 dsimp only at h0 h1 h2 h3 h5 h6 hq
 subst h6;subst h0;rw[hF];have hcur:zdr ⟨c.b,i,k⟩:=zfb h h3;have hw:=zmN (x:=q) (y:=1) (by omega) (by omega) (by omega) (by omega)
 have hx:=zog hcur (n:=zG .i64 q 1) (by omega)
 have h7:zdr { zD ⟨c.b,i,k⟩ (zG .i64 q 1) with b:=c.b }:=zfb h (zcx _ _);refine zbF (ziY hcur _) (zdi (fun hc=>?_) (fun hc=>?_))
 .have hlt:t<zbe ⟨c.b,i,k⟩ (zG .i64 q 1):=qE hc;have ht:=zmN (y:=1) h2 (by omega) (by omega) (by omega)
  refine zbF (z6I h7) (zbF (zAu (by rw[zrr];omega)) (hrec (n-1) _ (by omega) ⟨rfl,?_,?_,zXP _,⟨?_,?_⟩,rfl⟩))
  .show zG .i64 t 1+_=1000
   omega
  .show 0<=zG .i64 t 1
   omega
  .show ln (ap l [_])<=45+zG .i64 t 1
   rw[zrr];omega
  .show zG .i64 t 1<=q
   omega
 .refine zId (hG _ l rfl (zcx _ _) ?_);omega
def zlb (N:Nat)(c:Cur)(a0:Int):OA:=
 (oN (zd9 c 5) (cond (nB (zj4 c 5)) (oN zh2 (iter (σ:=(Int×(Int×(Int×(Int×(lA×((List Int)×Unit))))))) N (fun r3 s4=>let y6:=s4.2.2.2.2.2.1;let y4:=(zG .i64 s4.1 1);let y2:=(⟨y6,s4.2.2.1,s4.2.2.2.1⟩:Cur);let y0:=({ (zD y2 y4) with b:=y6 }:Cur);let y8:=(ap s4.2.2.2.2.1 [(zml y0)]); (oN (zbd y2 y4) (cond (ilt s4.2.1 (zbe y2 y4)) (oN (zfv y0) (oN (few (ln y8)) (r3 (s4.1,((zG .i64 s4.2.1 1),((zdU y0).i,((zdU y0).h,(y8,(y6,()))))))))) (some [(.agg [(.s .u8 y6),(.i .i64 (zD y2 y4).i),(.i .i64 (zD y2 y4).h)]),(aS .act s4.2.2.2.2.1)])))) (a0,(0,((zcl c 5).i,((zcl c 5).h,(zrO,(c.b,())))))))) (iter (σ:=(Int×(Int×(Int×(Int×(lA×((List Int)×Unit))))))) N (fun r3 s4=>let y7:=s4.2.2.2.2.2.1;let y5:=(zG .i64 s4.1 1);let y3:=(⟨y7,s4.2.2.1,s4.2.2.2.1⟩:Cur);let y1:=({ (zD y3 y5) with b:=y7 }:Cur);let y9:=(ap s4.2.2.2.2.1 [(zml y1)]); (oN (zbd y3 y5) (cond (ilt s4.2.1 (zbe y3 y5)) (oN (zfv y1) (oN (few (ln y9)) (r3 (s4.1,((zG .i64 s4.2.1 1),((zdU y1).i,((zdU y1).h,(y9,(y7,()))))))))) (some [(.agg [(.s .u8 y7),(.i .i64 (zD y3 y5).i),(.i .i64 (zD y3 y5).h)]),(aS .act s4.2.2.2.2.1)])))) (a0,(0,((zcl c 5).i,((zcl c 5).h,([],(c.b,())))))))))
def zP9:FuncId->Nat->Option Tmpl:=zo [(87,0,{ n:=26,tm:=[(0,.lp 0 0),(1,ti),(5,.sl 0 []),(6,ti)],lo:=[(0,[.sl 1 [],ti,ti])],ro:=[(0,.act,true),(1,.u8,false)] })]
theorem zSH (N:Nat)(c:Cur)(a0:Int):zfZ (cQ zYn zl8 zXC zk6) zP9 N 12 87 [false,true,true] (zbE c) [aI a0]=zlb N c a0:=by kernel_rfl
def zj9 (c:Cur)(a0:Int)(s:Cur)(v0:List GAct):Prop:=(∃N,zlb N c a0=some (AV.agg (zbE s) :: [aS .act v0]))/\(s.b=c.b/\0<=s.i)/\(ln v0<=45+a0)
def zgk (c:Cur)(a0:Int):Bool:=pc (∃s v0,zj9 c a0 s v0)
def zpQ (c:Cur)(a0:Int):Cur×List GAct:=Classical.epsilon fun r=>zj9 c a0 r.1 r.2
def zfw (c:Cur)(a0:Int):Cur:=bif zgk c a0 then (zpQ c a0).1 else ⟨[],0,0⟩
def zmH (c:Cur)(a0:Int):List GAct:=(zpQ c a0).2
theorem zvn {c:Cur}{a0:Int}(h:zgk c a0=true):zj9 c a0 (zfw c a0) (zmH c a0):=by
 obtain ⟨s,v0,h2⟩:=zC.1 h;have h3:zj9 c a0 (zpQ c a0).1 (zpQ c a0).2:=Classical.epsilon_spec (p:=fun r=>zj9 c a0 r.1 r.2) ⟨(s,v0),h2⟩;unfold zfw;rw[h,cT];exact h3
theorem zUZ (c:Cur)(a0:Int):0<=(zfw c a0).i:=by
 unfold zfw;cases h:zgk c a0 with
 | false=>exact j4 0
 | true =>
  have:=(zvn h).2.1.2;unfold zfw at this
  rwa [h] at this
theorem zUY (c:Cur)(a0:Int)(h:∃N,Ends (fun a=>∃s v0,a=(AV.agg (zbE s) :: [aS .act v0])/\(s.b=c.b/\0<=s.i)/\(ln v0<=45+a0)) (zlb N c a0)):zgk c a0=true:=by
 obtain ⟨N,a,e,s,v0,rfl,h⟩:=h;exact zY ⟨s,v0,⟨N,e⟩,h⟩
def zoE:List CV->List AV->Option (Bool×List CV×List AV)
 | [.s .u8 b,.i .i64 c,.i .i64 d],[.one (.i .i64 e)]=>some ((zgk (⟨b,c,d⟩:Cur) e),zbE (zfw (⟨b,c,d⟩:Cur) e),[aS .act (zmH (⟨b,c,d⟩:Cur) e)])
 | _,_=>none
theorem zPQ (c:Cur)(a0:Int)(hb:zbB big (.agg (zbE c) :: [aI a0]))(hc:zgk c a0=true):∃N,zlb N c a0=some (.agg (zbE (zfw c a0)) :: [aS .act (zmH c a0)]):=by
 exact (zvn hc).1
theorem zJa:zdm Tryz.prog 87 [false,true,true] zoE:=by
 refine zb4 (zcS zYo zW zSR zn) (zef (by kernel_rfl)) ?_
 intro cs avs cs' rs hl hr h;have hb:=zcn hr;unfold zoE at h;split at h
 .obtain ⟨hc,rfl,rfl⟩:=zcH h;obtain ⟨N,hN⟩:=zPQ _ _ (by exact hb) hc
  exact ⟨rfl,_,N,12,(zSH N _ _ ).trans hN⟩
 .cases h
theorem zYd {c:Cur}(h:zdr c){m:Int}(h0:0<=m)(hm:m<=1000):zgk c m=true:=by
 refine zUY c m ⟨1002,?_⟩;unfold zlb oN nB
 conv=>zeta
 have g:=zB7 zVq;exact zbF (zSI h 5) (zdi (fun _=>zbF zVq (zN8 h h0 hm (R:=fun s l=>AV.agg (zbE s) :: [aS .act l]) (fun s l hb hi hl=>⟨s,l,rfl,⟨hb,hi⟩,hl⟩) (fun rec t i k l=>rfl) (zhz _ _) g.2)) (fun _=>zN8 h h0 hm (R:=fun s l=>AV.agg (zbE s) :: [aS .act l]) (fun s l hb hi hl=>⟨s,l,rfl,⟨hb,hi⟩,hl⟩) (fun rec t i k l=>rfl) (zhz _ _) (jV _)))
def zXD:zdw:=[(87,([false,true,true],zoE))]++zXC
theorem zSS:zcI zXD:=zdZ zSR (by
 intro x hx;simp only[qH,qX,or_false]at hx;rcases hx with rfl
 .exact zJa)
def zCm (h:Host):Prop:=∃ps l,zHR ps/\(1<=ps.length/\∀p∈ps,1<=p.length/\∀x∈p,zcP x=true)/\h=(zxs ps l).1
theorem z1J {p:List Ins}(h:zcP p=true):p.length<=12:=by
 unfold zcP at h;cases hc:p.all zds with
 | false=>rw[hc]at h;cases h
 | true =>
  rw[hc,cT]at h;have h2:=(zfS.1 h).2;unfold ln at h2;omega
def zla (N:Nat)(c:Cur)  : OA :=
 let y0:=({ (zfu c) with b:=c.b }:Cur); (oN (zhi c) (oN (zgk y0 20) (oN (zsU (zoY c) (zmH y0 20)) (some [(.agg [(.s .u8 c.b),(.i .i64 (zfw y0 20).i),(.i .i64 (zfw y0 20).h)]),(aH (zsS (zoY c) (zmH y0 20)))]))))
theorem zSD (N:Nat)(c:Cur)  : zfZ (cQ zFw zl8 zXD zk6) (zo []) N 12 31 [false,true,true] (zbE c) []=zla N c:=by kernel_rfl
def zj8 (c:Cur)(s:Cur)(v0:Host):Prop:=(∃N,zla N c=some (AV.agg (zbE s) :: [aH v0]))/\(s.b=c.b/\0<=s.i)/\(zCm v0)
def zeb (c:Cur)  : Bool:=pc (∃s v0,zj8 c s v0)
def zpO (c:Cur)  : Cur×Host:=Classical.epsilon fun r=>zj8 c r.1 r.2
def zpP (c:Cur)  : Cur:=bif zeb c then (zpO c).1 else ⟨[],0,0⟩
def zia (c:Cur)  : Host:=(zpO c).2
theorem zE4 {c:Cur}(h:zeb c=true):zj8 c (zpP c) (zia c):=by
 obtain ⟨s,v0,h2⟩:=zC.1 h;have h3:zj8 c (zpO c).1 (zpO c).2:=Classical.epsilon_spec (p:=fun r=>zj8 c r.1 r.2) ⟨(s,v0),h2⟩;unfold zpP;rw[h,cT];exact h3
theorem zUX (c:Cur)(h:∃N,Ends (fun a=>∃s v0,a=(AV.agg (zbE s) :: [aH v0])/\(s.b=c.b/\0<=s.i)/\(zCm v0)) (zla N c)):zeb c=true:=by
 obtain ⟨N,a,e,s,v0,rfl,h⟩:=h;exact zY ⟨s,v0,⟨N,e⟩,h⟩
def zoD:List CV->List AV->Option (Bool×List CV×List AV)
 | [.s .u8 b,.i .i64 c,.i .i64 d],[]=>some ((zeb (⟨b,c,d⟩:Cur)),zbE (zpP (⟨b,c,d⟩:Cur)),[aH (zia (⟨b,c,d⟩:Cur))])
 | _,_=>none
theorem zPK (c:Cur)(hb:zbB big (.agg (zbE c) :: []))(hc:zeb c=true):∃N,zla N c=some (.agg (zbE (zpP c)) :: [aH (zia c)]):=by
 exact (zE4 hc).1
theorem zI4:zdm Tryz.prog 31 [false,true,true] zoD:=by
 refine zb4 (zcS zuX zW zSS zn) (zef (by kernel_rfl)) ?_
 intro cs avs cs' rs hl hr h;have hb:=zcn hr;unfold zoD at h;split at h
 .obtain ⟨hc,rfl,rfl⟩:=zcH h;obtain ⟨N,hN⟩:=zPK _ (by exact hb) hc
  exact ⟨rfl,_,N,12,(zSD N _ ).trans hN⟩
 .cases h
theorem zZe {c:Cur}(h:zdr c):zeb c=true:=by
 refine zUX c ⟨0,?_⟩;have h1:zdr { zfu c with b:=c.b }:=zfb h (zXN _);have g1:=(zx2 (z2m h)).2.2;have g2:=(zvn (zYd h1 (m:=20) (by omega) (by omega))).2.2
 unfold zla oN
 conv=>zeta
 have g3:(zmH { zfu c with b:=c.b } 20).length<=65:=by
  unfold ln at g2;omega
 have S:zHR (zoY c):=⟨by omega,fun p hp=>by
  have g:=g1.2.2 p hp;exact ⟨by omega,fun x hx=>by have:=z1J (g.2.2 x hx);omega⟩⟩
 exact zbF (z2m h) (zbF (zYd h1 (by omega) (by omega)) (zbF (zY ⟨S,jC g3 (by decide)⟩) (zkn aH (zUZ _ _) ⟨_,_,S,⟨g1.1,fun p hp=>⟨(g1.2.2 p hp).1,(g1.2.2 p hp).2.2⟩⟩,rfl⟩)))
def z3I:zdw:=[(31,([false,true,true],zoD))]++zXD
theorem zGN:zcI z3I:=zdZ zSS (by
 intro x hx;simp only[qH,qX,or_false]at hx;rcases hx with rfl
 .exact zI4)
theorem zRf {α τ ρ:Type}{G:ρ->Prop}{body:Nat->α->τ->(τ->Option ρ)->Option ρ}{K:τ->Option ρ}(hb:∀i x t κ,(∀t,Ends G (κ t))->Ends G (body i x t κ))(hK:∀t,Ends G (K t)):∀(l:List α) (i:Nat) (t:τ),Ends G (goL body K l i t)
 | [],i,t=>hK t
 | x :: l,i,t=>hb i x t _ (fun t=>zRf hb hK l (i+1) t)
def zmP (N:Nat)(a0:List Int):OA:=
 (iter (σ:=(Int×(Int×((List Int)×(lM×(lN×(lE×(lE×Unit)))))))) N (fun r2 s3=>let y0:=(⟨s3.2.2.1,0,s3.1⟩:Cur); (cond (ilt s3.2.1 (ln s3.2.2.1)) (cond (ilt s3.2.1 4000) (oN (inb s3.2.1 (ln s3.2.2.1)) (r2 ((wand .i64 (zG .i64 (zG .i64 (zn4 .i64 s3.1 131) (wcv .i64 (ix s3.2.2.1 s3.2.1 0))) 7) 1073741823),((zG .i64 s3.2.1 1),(s3.2.2.1,(s3.2.2.2.1,(s3.2.2.2.2.1,(s3.2.2.2.2.2.1,(s3.2.2.2.2.2.2.1,()))))))))) (oN (zeb y0) (some [(aH (zia y0))]))) (oN (zeb y0) (some [(aH (zia y0))])))) ((zG .i64 94701 (ln a0)),(0,(a0,([],([],([],([],()))))))))
def zM0:FuncId->Nat->Option Tmpl:=zo [(32,0,{ n:=32,tm:=[(0,.sl 0 []),(3,ti),(4,ti)],lo:=[(0,[.sl 1 [],.sl 2 [],.sl 3 [],.sl 4 []])],ro:=[(0,.u8,false),(1,(.sl .int),true),(2,.mon,true),(3,.entry,true),(4,.entry,true)],sk:=[(0,2,0,.lp 0 0)] })]
def ziM (a0:List Int)(v0:Host):Prop:=(∃N,zmP N a0=some [aH v0])/\(zCm v0)
def zhX (a0:List Int):Bool:=pc (∃v0,ziM a0 v0)
def zBZ (a0:List Int):Host:=Classical.epsilon fun r=>ziM a0 r
def znB (a0:List Int):Host:=(zBZ a0)
theorem zBY {a0:List Int}(h:zhX a0=true):ziM a0 (znB a0):=by
 obtain ⟨v0,h2⟩:=zC.1 h;have h3:ziM a0 (zBZ a0):=Classical.epsilon_spec (p:=fun r=>ziM a0 r) ⟨v0,h2⟩;exact h3
theorem zS1 (a0:List Int)(h:∃N,Ends (fun a=>∃v0,a=[aH v0]/\(zCm v0)) (zmP N a0)):zhX a0=true:=by
 obtain ⟨N,a,e,v0,rfl,h⟩:=h;exact zY ⟨v0,⟨N,e⟩,h⟩
def zwr:Run:=rF1 (dS .u8) fun b=>(zhX b,[aH (znB b)])
theorem zL5 (a0:List Int)(hc:zhX a0=true):∃N,zmP N a0=some [aH (znB a0)]:=by
 exact (zBY hc).1
theorem zFZ:vF 8 zwr:=kF1 zuX zW zGN zn zM0 zL5
theorem zIb {a0:List Int}(h:a0.length<=big):zhX a0=true:=by
 refine zS1 a0 (zbT fun N hNN=>?_);unfold zmP oN
 conv=>zeta
 have fin:∀t,Ends (fun a=>∃v0,a=[aH v0]/\zCm v0) (cond (zeb ⟨a0,0,t⟩) (some [aH (zia ⟨a0,0,t⟩)]) none):=fun t =>
  have hc:zdr ⟨a0,0,t⟩:=⟨j4 0,h⟩
  zbF (zZe hc) ⟨_,rfl,_,rfl,(zE4 (zZe hc)).2.2⟩
 refine (congrArg (Ends _) (zba a0 (fun i (t:Int)=>(t,(i:Int),a0,[],[],[],[],())) _ (fun i x (t:Int) κ=>bif ilt (i:Int) 4000 then κ (wand .i64 (zG .i64 (zG .i64 (zn4 .i64 t 131) (wcv .i64 x)) 7) 1073741823) else (cond (zeb ⟨a0,0,t⟩) (some [aH (zia ⟨a0,0,t⟩)]) none)) (fun (t:Int)=>(cond (zeb ⟨a0,0,t⟩) (some [aH (zia ⟨a0,0,t⟩)]) none)) (fun i hi t rec=>?_) (fun t rec=>?_) N (zG .i64 94701 (ln a0)) (hNN h))).mpr ?_
 .simp only [zbh hi,zN hi,zZ hi,zU hi h,cT]
 .simp only [zbb,cF]
 exact zRf (fun i x t κ hk=>zdi (fun _=>hk _) (fun _=>fin t)) fin _ _ _
def zYp:zO:=[(8,zwr)]++zFw
theorem zYq:zF zYp:=zh zFZ zuX
theorem zV5:∀(l:List GAct) (u:Host×List Told),SmH u.1->SmH (zBd l u).1
 | [],u,h=>h
 | a :: l,u,h=>zV5 l (zd1 u.1 a,ap u.2 [zin u.1 a]) (zV3 h)
theorem z1t {h:Host}(L:zCm h):Safe h/\SmH h:=by
 obtain ⟨ps,l,hS,hp,rfl⟩:=L;refine ⟨?_,zV5 _ _ (zV4 hS)⟩;unfold zxs;rw[zVV];exact (zYY _ (zW5 hp)).1
def zYr:zO:=zYp
theorem zNH:zF zYr:=zYq
theorem zSv {α β:Type}{f:α->β}{l:List α}{x:β}{xs:List β}(h:l.map f=x :: xs):∃a r,l=a :: r/\f a=x/\r.map f=xs:=by
 cases l with
 | nil=>cases h
 | cons a r =>
  simp only[jB,List.cons.injEq]at h;exact ⟨a,r,rfl,h.1,h.2⟩
theorem z6x {a:AV}{ct:CTy}(h:some a.sh=some (false,[ct])):∃c,a = .one c/\c.ty=ct:=by
 cases a with
 | one c =>
  simp only[AV.sh,qC,jT,List.cons.injEq,and_true,true_and]at h;exact ⟨c,rfl,h⟩
 | agg l=>simp[AV.sh]at h
theorem z7w {a:AV}{t:Ty}(h:some a.sh=some (false,[.s t])):∃l:List t.den,a = .one (.s t l):=by
 obtain ⟨c,rfl,hc⟩:=z6x h;obtain ⟨l,rfl⟩:=zkl hc;exact ⟨l,rfl⟩
section
open Go Go.ChangeShapes Go.WideShapes Go.ChangeAt
abbrev zLM (_:List Int):Bool:=true
abbrev zJe (l:List Int):Bool:=igt (ln l) 1048576
def zOr:Run:=rF1 (dS .u8) fun b=>(zLM b,[aB (zJe b)])
def zVk (N:Nat)(a0:List Int):OA:=
 (some [(aB (igt (ln a0) 1048576))])
theorem zZp (a0:List Int)(hc:zLM a0=true):∃N,zVk N a0=some [aB (zJe a0)]:=by
 refine ⟨0,?_⟩;unfold zVk
 first|rfl|(simp only [*,zJe,cT,cF]<;>rfl)|simp_all[Ty.cells,zJe]
theorem zUb:vF 7 zOr:=kF1 zNH zW zGN zn (zo []) zZp
def z2N:zO:=[(7,zOr),(12,zwi),(26,zwD),(22,zoI),(23,zqO),(24,znl),(25,zu8),(27,zsB)]++zYr
theorem z0Z:zF z2N:=zh zUb (zh zFQ (zh zGb (zh zsj (zh ztI (zh zra (zh zyC (zh zvS zNH)))))))
theorem zT0 {a b:Host}{m:Int}(h:∀k,hasB k 8=true->zbR a m k=zbR b m k):differ a b m=[]:=by
 unfold differ;cases hd:zot (differ1 a b m) 8 0 with
 | nil=>rfl
 | cons q l =>
  have:q∈zot (differ1 a b m) 8 0:=by rw[hd];exact jJ
  obtain ⟨k,_,_,h2,h3⟩:=zGo.1 this;unfold differ1 at h3;rw[h k (zq.2 (by omega)),zl0]at h3
  cases h3
def zlI (N:Nat)(a0:List Int):OA:=
 let y1:=(znB a0);let y0:=(zhM y1 0); (oN (zLM a0) (cond (zJe a0) oT (oN (zhX a0) (oN (zm4 y1 0) (oN (zm4 y0 0) (cond (zgA y1 0) (cond (zgA y0 0) (oN (zsu y0 (zhM y0 0)) (cond (zrp y0 (zhM y0 0)) (oN (zuZ y0 0) (cond (ieq (ln (zqb y0 0)) 0) (oN (zqE y0 0) (oN (zAR y0 0) (cond (ieq (zG .i64 (ln (zi1 y0 0)) (ln (zrV y0 0))) 8) (oN (zs5 y0 y1) (cond (zxX y0 y1) (oN (zxt y0 y1 0) (some [(aB (ieq (ln (zsn y0 y1 0)) 0))])) oF)) oF))) oF)) oF)) oF) oF))))))
theorem zMC (N:Nat)(a0:List Int):evalFn (cQ z2N zl8 z3I zk6) (zo []) N 12 5 [aS .u8 a0]=zlI N a0:=by kernel_rfl
theorem zFD (N:Nat)(a0:List Int)(hl:a0.length<=big):Ends (fun a=>a=[.one (.b true)]) (zlI N a0):=by
 unfold zlI oN
 conv=>zeta
 refine zbF rfl (zdi (fun _=>zId rfl) (fun _=>zbF (zIb hl) ?_));obtain ⟨S,hs⟩:=z1t (zBY (zIb hl)).2;generalize znB a0=h at S hs;have hS:zbA h:=(zM h).2 hs;have hm:hasB 0 (ln h.Mons)=true:=zq.2 ⟨by omega,by have:=S.ok.n1;unfold ln;omega⟩
 obtain ⟨S2,e1,e2,e3,e4,c⟩:=zWt S hm;have k:=zWu S hm;have hm2:hasB 0 (ln (cleaned h 0).Mons)=true:=by rw[k.like.has];exact hm
 have hS2:zbA (cleaned h 0):=(zM _).2 (by
  unfold cleaned;cases zb2 h 0 with
  | false=>exact hs
  | true=>exact zOy 0 8 0 h hs)
 have o1:zgA h 0=true:=zbO.2 ⟨zff.2 S.ok,hm⟩;have o2:zgA (cleaned h 0) 0=true:=zbO.2 ⟨zff.2 S2.ok,hm2⟩;have d1:zqb (cleaned h 0) 0=[]:=zT1 S2.ok hm2 c;have d2:zG .i64 (ln (zi1 (cleaned h 0) 0)) (ln (zrV (cleaned h 0) 0))=8:=by
  have:=zOF S2.ok hm2 c
  show zG .i64 ((zp6 (cleaned h 0) 0).length:Int) ((outOf (cleaned h 0) 0).length:Int)=8
  rw[zo2 (by omega) (by omega)]
  omega
 have d3:zsn (cleaned h 0) h 0=[]:=zT0 fun q hq=>k.like.pg 0 q hm hq;refine zbF (zY hS) (zbF (zY hS2) (zbF o1 (zbF o2 (zbF (zY e4.symm) (zbF rfl (zbF (zY hS2) (zbF ?_ (zbF (zY hS2) (zbF (zY hS2) (zbF ?_ (zbF (zY ⟨hS2,hS,e1⟩) (zbF rfl (zbF (zY ⟨hS2,hS⟩) (zId ?_))))))))))))))
 .show ieq (ln (zqb (cleaned h 0) 0)) 0=true
  rw[d1];rfl
 .show ieq (zG .i64 (ln (zi1 (cleaned h 0) 0)) (ln (zrV (cleaned h 0) 0))) 8=true
  rw[d2];rfl
 .show [AV.one (.b (ieq (ln (zsn (cleaned h 0) h 0)) 0))]=_
  rw[d3];rfl
theorem zHU (a0:List Int)(ho:∀c∈zy [aS .u8 a0],CVOk c):∃N,zlI N a0=some [.one (.b true)]:=by
 have hb:zbB big [aS .u8 a0]:=fun c hc=>CVB.of_ok (ho c hc);have hl:=(len0 hb);exact ⟨5,z4G (G:=fun a=>a=[.one (.b true)]) (zFD 5 a0 hl)⟩
theorem zDG:Tryz.f5.params.toList.map (zcg Tryz.prog 4)=[some (false,[.s .u8])]:=by kernel_rfl
theorem zzn:zVi 5 Tryz.f5.params.toList:=by
 refine zTT z0Z zW zGN zn (zef (by kernel_rfl)) ?_
 intro avs hg;obtain ⟨h1,h2⟩:=hg;rw[zDG]at h1;obtain ⟨v0,r0,rfl,e0,h1⟩:=zSv h1;cases List.map_eq_nil_iff.1 h1;obtain ⟨a0,rfl⟩:=z7w e0;obtain ⟨N,hN⟩:=zHU a0 h2;exact ⟨zo [],N,12,(zMC N a0).trans hN⟩
theorem zGY (H:Type)(ds:List (DataW H))(h:ds.length=Tryz.f5.params.toList.length):Rows.fnCleanedSpec.fn H ds={ results:=[.lit (.bool true)],args:=ds }:=by
 have hl:ds.length=1:=h.trans (by kernel_rfl)
 match ds,hl with
 | [d],_=>rfl
set_option maxRecDepth 100000 in
theorem zA3 (os:Os)(started:os.Started)(H:Type)(enc:TypeId×Value->H) :
 ReturnsInHanded {} Tryz.checked os 5 .any (Rows.fnCleanedSpec.pre6 enc Tryz.prog Tryz.f5 Rows.fnCleanedRow.domain false) (Rows.fnCleanedSpec.post enc Tryz.prog Tryz.f5 false true false false):=by
 refine returnsInHanded_of_change_shaped (C:=Tryz.checked) own started (by kernel_rfl) Tryz.func5
  (ChangeSpec.witness6 (enc:=enc) (C:=Tryz.checked) false ⟨#[],#[.slice none 0 0],[]⟩ 8 (by kernel_rfl) (by kernel_rfl) (by kernel_rfl) (by kernel_rfl)) ?_
 intro W base args ds gs before hval hW _ hsz _ _;exact zJf (P:=Tryz.prog) z0E z1r rfl zGY (by kernel_rfl) (B:=4) (by kernel_rfl) (by kernel_rfl) zzn W base args ds gs before hval hW hsz
end
section
open Go Go.ChangeShapes Go.WideShapes Go.ChangeAt
abbrev PP:=Tryz.pinned.checked.prog
abbrev cc:=Rows.fnCleanedRow
abbrev ss:=Rows.fnCleanedSpec
theorem jf1:cc.wf (OpenSpec.ofChange ss)=true:=by kernel_rfl
theorem jf2:laidOutB PP=true:=by kernel_rfl
theorem jf3:mapsRowed PP=true:=by kernel_rfl
theorem jf4:Tryz.f5.params.all (PP.readableRec ·)=true:=by kernel_rfl
theorem jf5:namedTie PP cc.named ss.vars=true:=by kernel_rfl
theorem jf6:(cc.inPlace==PP.inPlace 5)=true:=by kernel_rfl
theorem jf7:(cc.unfollowed==PP.unfollowed 5)=true:=by kernel_rfl
theorem jf8:(cc.recurses==PP.recurses 5)=true:=by kernel_rfl
theorem jf9:(cc.named==PP.varsNamed 5)=true:=by kernel_rfl
theorem z7q:(cc.lifted==PP.liftsFinal)=true:=by kernel_rfl
theorem z7r:PP.stopsHeard=true:=by kernel_rfl
theorem z7s:PP.mayEnter=true:=by kernel_rfl
theorem z7t:(cc.plainKeys==PP.plainKeys)=true:=by kernel_rfl
theorem z7u:(PP.make==some cc.make)=true:=by kernel_rfl
theorem zRx:joinedFacts PP 5 Tryz.f5 ss cc=true:=by
 unfold joinedFacts;simp only[qD]
 repeat' apply And.intro
 all_goals first|with_reducible exact jf1|with_reducible exact jf2|with_reducible exact jf3|with_reducible exact jf4|with_reducible exact jf5|with_reducible exact jf6|with_reducible exact jf7|with_reducible exact jf8|with_reducible exact jf9|with_reducible exact z7q|with_reducible exact z7r|with_reducible exact z7s|with_reducible exact z7t|with_reducible exact z7u|kernel_rfl
theorem said_fnCleaned:Rows.FnCleanedSaid :=
 OpenClaim.holds_of_wide 5 Tryz.f5 rfl rfl rfl rfl rfl rfl rfl ⟨rfl,rfl,rfl,rfl,rfl⟩ rfl rfl rfl rfl rfl (by kernel_rfl) Tryz.func5 zRx
  (qE (by kernel_rfl)) (by unfold Func.isWrapper;first|(rw [if_pos (by decide +kernel)];kernel_rfl)|(rw [if_neg (by decide +kernel)];exact ⟨rfl,rfl⟩))
  (fun os started H enc _=>zA3 os started H enc)
end
end
end Go.Proofs.YtdaahiceaagpdaaGreat.E
