/- What is proved here: FnGone: for every input the law returns true, and each argument reads afterwards as it read before. No conditions. -/
import Derived.Test.YtdaahiceaagpdaaGreatZ5
import Derived.Shelf.Sort.Plain
import Derived.Shelf.Slices.CompactI
import Derived.Shelf.Slices.In.SortNone
import Derived.Ground.NamesProg
import Derived.Ground.Names2Prog
import Derived.Test.YtdaahiceaagpdaaGreatProg
import Derived.Tactics2
import Derived.Lib.RowBridge
namespace Go.Proofs.YtdaahiceaagpdaaGreat.E
open Go
set_option linter.unusedVariables false
set_option maxRecDepth 100000
set_option linter.unusedSimpArgs false
set_option linter.unusedSectionVars false
noncomputable section
structure KeepP (x y:Mon):Prop where
 o:y.Outer=x.Outer
 u:y.Out=x.Out
theorem zIz {h r:Host}{m:Int}(hm:hasB m (ln h.Mons)=true){y:Mon}(hM:r.Mons=up h.Mons m y)(hmem:r.Memory=h.Memory)(k:KeepP (ix h.Mons m mZ) y)(i q:Int):zcN r i q=zcN h i q:=by
 unfold zcN;rw[hM,zdh,hmem];cases hi:hasB i (ln h.Mons) with
 | false=>rfl
 | true =>
  by_cases e:m=i
  .subst e;rw[zY hm,k.o,k.u]
  .rw [zbk (zn.1 hm).1 (zn.1 hi).1 e]
theorem zss {h r:Host}{m:Int}(hm:hasB m (ln h.Mons)=true){y:Mon}(hM:r.Mons=up h.Mons m y)(hmem:r.Memory=h.Memory)(k:KeepP (ix h.Mons m mZ) y)(i:Int) :
 zB r i=bif ieq i m then ⟨(zB h i).Memory,y.Guests,y.Outs,y.Pending⟩ else zB h i:=by
 have hp:zcp r i 8 0=zcp h i 8 0:=zoX 8 0 (fun j _ _=>zIz hm hM hmem k i j);unfold zB;rw[hp,hM,zdh]
 by_cases e:i=m
 .subst e;rw[hm,zbg.2 rfl,zY hm];rfl
 .rw [zbE.2 e,cond_false];cases hi:hasB i (ln h.Mons) with
  | false=>rfl
  | true=>rw[zbk (zn.1 hm).1 (zn.1 hi).1 (Ne.symm e)]
theorem zjD {x y:Mon}(X:MOk x)(k:KeepP x y)(g:y.Guests.length=x.Guests.length)(t:y.Tables.length=x.Tables.length)(d:y.Dirty.length=x.Dirty.length)(o:y.Outs.length<=40)(p:zcO y.Pending=true)(tr:win y.Traps 0 3=true)(ow:win y.Own 0 1000000000=true)(gs:∀g∈y.Guests,zcX g=true):MOk y :=
 ⟨by rw[g];exact X.g1,by rw[g];exact X.g2,by rw[t,g];exact X.gt,by rw[k.o];exact X.o8,by rw[k.o];exact X.sl,by rw[k.u];exact X.u8,by rw[d];exact X.d8,o,p,tr,ow,gs,by rw[k.o,k.u];exact X.fit⟩
theorem zPN {h:Host}(H:HOk h){m:Int}(hm:hasB m (ln h.Mons)=true){y:Mon}(k:KeepP (ix h.Mons m mZ) y)(hy:MOk y):HOk { h with Mons:=up h.Mons m y } :=
 H.up hm hy rfl H.m12 H.pgs H.b1 H.b2 fun q _=>.inl (by unfold cPg;rw[k.o];exact qX _)
theorem ztX {h:Host}(S:Safe h){m:Int}(hm:hasB m (ln h.Mons)=true){y:Mon}(k:KeepP (ix h.Mons m mZ) y)(hy:MOk y)(hg:y.Guests.length=(ix h.Mons m mZ).Guests.length)(hv:∀g,hasB g (ln (ix h.Mons m mZ).Guests)=true->(ix y.Guests g gZ).Live=(ix (ix h.Mons m mZ).Guests g gZ).Live)(ht:y.Tables=(ix h.Mons m mZ).Tables):Safe { h with Mons:=up h.Mons m y } :=
 ⟨zPN S.ok hm k hy,zII S.rt hm rfl rfl rfl hg hv ht k.o⟩
theorem zOp {h:Host}(S:Safe h)(m t:Int):Safe (zgC h m t)/\∀i,zB (zgC h m t) i=zB h i:=by
 unfold zgC;rw[zhJ.2 S.ok,cond_true];cases hm:hasB m (ln h.Mons) with
 | false=>exact ⟨S,fun _=>rfl⟩
 | true =>
  cases ht:win t 0 3 with
  | false=>exact ⟨S,fun _=>rfl⟩
  | true =>
   have X:=S.ok.mon hm;have k:KeepP (ix h.Mons m mZ) { ix h.Mons m mZ with Traps:=t }:=⟨rfl,rfl⟩;refine ⟨ztX S hm k (zjD X k rfl rfl rfl X.outs X.pend ht X.own X.gs) rfl (fun _ _=>rfl) rfl,fun i=>?_⟩;rw[cond_true,cond_true];refine (zss (h:=h) (r:={ h with Mons:=up h.Mons m { ix h.Mons m mZ with Traps:=t } }) hm rfl rfl k i).trans ?_
   by_cases e:i=m
   .subst e;rw[zbg.2 rfl,cond_true];unfold zB;rw[hm];rfl
   .rw [zbE.2 e];rfl
theorem zDn:∀(n i:Nat) (k:Kept),(zhI n i k).Known.length=k.Known.length/\(zhI n i k).Slots.length=k.Slots.length
 | 0,i,k=>⟨rfl,rfl⟩
 | n+1,i,k=>by
  have h1:=zDn n (i+1) (zbG k (i:Int));have h2:=zjv k (i:Int);exact ⟨h1.1.trans h2.1,h1.2.trans h2.2⟩
theorem zG6:∀(n i:Nat) (k:Kept),k.Known.length=k.Slots.length->∀j,hasB j (ln k.Known)=true ->
 ((i:Int)<=j/\j<((i+n:Nat):Int)->ix (zhI n i k).Known j false=false/\ix (zhI n i k).Slots j sZ=noSlot) /\
 (¬ ((i:Int)<=j/\j<((i+n:Nat):Int))->ix (zhI n i k).Known j false=ix k.Known j false/\ix (zhI n i k).Slots j sZ=ix k.Slots j sZ)
 | 0,i,k,_,j,_=>⟨fun h=>by omega,fun _=>⟨rfl,rfl⟩⟩
 | n+1,i,k,hl,j,hj=>by
  have h2:=zjv k (i:Int);have h3:=zue (q:=(i:Int)) hl hj;have ih:=zG6 n (i+1) (zbG k (i:Int)) (by rw[h2.1,h2.2,hl]) j (by unfold ln at hj ⊢;rwa [h2.1])
  rw[zhI]
  by_cases hc:((i+1:Nat):Int)<=j/\j<((i+1+n:Nat):Int)
  .exact ⟨fun _=>ih.1 hc,fun h=>absurd (by omega) h⟩
  .rw [(ih.2 hc).1,(ih.2 hc).2,h3.1,h3.2]
   by_cases e:(i:Int)=j
   .rw [zbg.2 e];exact ⟨fun _=>⟨rfl,rfl⟩,fun h=>absurd (by omega) h⟩
   .rw [zbE.2 e];exact ⟨fun h=>absurd (by omega) hc,fun _=>⟨rfl,rfl⟩⟩
theorem zNB {k:Kept}{inner outer:List Slot}(h:KOk k inner outer):KOk (zid k) inner outer:=by
 have hl:=zDn k.Known.length 0 k;refine ⟨hl.1.trans h.l1,hl.2.trans h.l2,fun i hi=>?_⟩;have hi':hasB i (ln k.Known)=true:=by unfold ln at hi ⊢;rwa [h.l1]
 have hi2:=zn.1 hi';unfold ln at hi2;have:=(zG6 k.Known.length 0 k (by rw[h.l1,h.l2]) i hi').1 ⟨by omega,by omega⟩
 unfold zid;rw[this.1,this.2];rfl
theorem zGS:∀(n j:Nat) (l:List Kept),(zsQ n j l).length=l.length
 | 0,_,_=>rfl
 | n+1,j,l=>by rw[zsQ,zGS n,zbA]
theorem zPh:∀(n j:Nat) (l:List Kept),j+n<=l.length->∀g,0<=g->ix (zsQ n j l) g kZ=if (j:Int)<=g/\g<((j+n:Nat):Int) then zid (ix l g kZ) else ix l g kZ
 | 0,j,l,_,g,hg=>by rw[if_neg (by omega)];rfl
 | n+1,j,l,hl,g,hg=>by
  rw[zsQ,zPh n (j+1) _ (by rw[zbA];omega) g hg]
  by_cases e:(j:Int)=g
  .subst e;rw[if_neg (by omega),if_pos (by omega),zY (zn.2 ⟨by omega,by unfold ln;omega⟩)]
  .rw [zbk (by omega) hg e]
   by_cases h:((j+1:Nat):Int)<=g/\g<((j+1+n:Nat):Int)
   .rw [if_pos h,if_pos (by omega)]
   .rw [if_neg h,if_neg (by omega)]
theorem zGR:∀(n i:Nat) (l:List Mon),(zmC n i l).length=l.length
 | 0,_,_=>rfl
 | n+1,i,l=>by rw[zmC,zGR n,zbA]
theorem zMi:∀(n i:Nat) (l:List Mon),i+n<=l.length->∀m,0<=m->ix (zmC n i l) m mZ=if (i:Int)<=m/\m<((i+n:Nat):Int) then zsR (ix l m mZ) (ix l m mZ).Tables.length 0 else ix l m mZ
 | 0,i,l,_,m,hm=>by rw[if_neg (by omega)];rfl
 | n+1,i,l,hl,m,hm=>by
  rw[zmC,zMi n (i+1) _ (by rw[zbA];omega) m hm]
  by_cases e:(i:Int)=m
  .subst e;rw[if_neg (by omega),if_pos (by omega),zY (zn.2 ⟨by omega,by unfold ln;omega⟩)]
  .rw [zbk (by omega) hm e]
   by_cases h:((i+1:Nat):Int)<=m/\m<((i+1+n:Nat):Int)
   .rw [if_pos h,if_pos (by omega)]
   .rw [if_neg h,if_neg (by omega)]
theorem zZB (h:Host){m:Int}(hm:hasB m (ln h.Mons)=true):ix (cold h).Mons m mZ=zsR (ix h.Mons m mZ) (ix h.Mons m mZ).Tables.length 0:=by
 have:=zn.1 hm;unfold ln at this
 show ix (zmC h.Mons.length 0 h.Mons) m mZ=_
 rw[zMi _ _ _ (by omega) m this.1,if_pos (by omega)]
theorem zu0 (h:Host):(cold h).Mons.length=h.Mons.length:=zGR _ _ _
theorem zEo (h:Host)(m:Int):hasB m (ln (cold h).Mons)=hasB m (ln h.Mons):=by unfold ln;rw[zu0]
theorem z2Y {l l':List Mon}(hl:l'.length=l.length)(h:∀m,hasB m (ln l)=true->(ix l' m mZ).Outer=(ix l m mZ).Outer)(q:Int):zd0 l' q=zd0 l q:=by
 have:l'.map (fun x=>cPg x q)=l.map (fun x=>cPg x q):=by
  refine List.ext_getElem (by simp[hl]) fun k h1 h2=>?_
  simp only[uH]at h1 h2;have:=h (k:Int) (zn.2 ⟨by omega,by unfold ln;omega⟩)
  rw[ziE h1,ziE h2] at this;simp[cPg,this]
 unfold zd0;rw[this]
theorem z4m {h:Host}(H:HOk h):Op h (cold h):=by
 have hx:∀m,hasB m (ln h.Mons)=true->ix (cold h).Mons m mZ=zsR (ix h.Mons m mZ) (ix h.Mons m mZ).Tables.length 0:=fun m hm=>zZB h hm;have hpg:∀i q,zcN (cold h) i q=zcN h i q:=by
  intro i q;unfold zcN;rw[zEo];cases hi:hasB i (ln h.Mons) with
  | false=>rfl
  | true=>rw[hx i hi];rfl
 refine ⟨⟨H.m12,H.pgs,by rw[zu0];exact H.n1,by rw[zu0];exact H.n3,rfl,rfl,fun y hy=>?_,fun q hq=>?_⟩,⟨zu0 h,fun i hi=>by rw[hx i hi];rfl,fun i hi=>by rw[hx i hi];rfl,fun i hi=>by rw[hx i hi];rfl,fun i hi=>by rw[hx i hi];rfl,fun i hi=>by rw[hx i hi];rfl,fun i k _ _=>hpg i k⟩,fun R=>⟨fun m hm=>?_,fun e he=>(by cases he),fun e he=>(by cases he)⟩⟩
 .obtain ⟨m,hm,rfl⟩:=zvp hy mZ;rw[zEo]at hm;rw[hx m hm];have X:=H.mon hm;have k:KeepP (ix h.Mons m mZ) (zsR (ix h.Mons m mZ) (ix h.Mons m mZ).Tables.length 0):=⟨rfl,rfl⟩;exact zjD X k rfl (zGS _ _ _) rfl X.outs X.pend X.tr X.own X.gs
 .rw [z2Y (l:=h.Mons) (zu0 h) (fun m hm=>by rw[hx m hm];rfl)]
  exact H.uq q hq
 .rw [zEo]at hm;rw[hx m hm];have X:=H.mon hm;intro g hg
  show KOk (ix (zsQ (ix h.Mons m mZ).Tables.length 0 (ix h.Mons m mZ).Tables) g kZ) (ix (ix h.Mons m mZ).Guests g gZ).Live (ix h.Mons m mZ).Outer
  have hg':hasB g (ln (ix h.Mons m mZ).Guests)=true:=hg;have hg2:=zn.1 hg';unfold ln at hg2;have hgt:=X.gt;rw[zPh _ _ _ (by omega) g hg2.1,if_pos (by omega)]
  exact zNB (R.t m hm g hg')
theorem zRM {m g:Int}(hm:win m 0 2=true)(hg:win g 0 1=true):zcg (zel m g)=m/\zc4 (zel m g)=g/\1<=zel m g/\zel m g<=6:=by
 have h1:=zcr.1 hm;have h2:=zcr.1 hg;have e1:m=0\/m=1\/m=2:=by omega
 have e2:g=0\/g=1:=by omega
 rcases e1 with rfl|rfl|rfl<;>rcases e2 with rfl|rfl<;>decide
theorem HOk.tag {h:Host}(H:HOk h){m g:Int}(hm:hasB m (ln h.Mons)=true)(hg:hasB g (ln (ix h.Mons m mZ).Guests)=true):win m 0 2=true/\win g 0 1=true:=by
 have h1:=zn.1 hm;have h2:=zn.1 hg;have h3:=H.n3;have h4:=(H.mon hm).g2;unfold ln at h1 h2;exact ⟨zcr.2 (by omega),zcr.2 (by omega)⟩
theorem zfz {r:Int}:zct r=true↔r=0\/r=1\/r=2\/r=3:=by
 unfold zct ige ile;rw[qD,qW,qW];omega
theorem zpx {a b:Int}(h:enough a b=true):zct a=true/\zct b=true:=by
 unfold enough at h;rw[zbV,zbV]at h;exact ⟨h.1,h.2.1⟩
theorem zPz {a b c:Int}(h1:enough a b=true)(h2:enough b c=true):enough a c=true:=by
 have ha:=zfz.1 (zpx h1).1;have hb:=zfz.1 (zpx h1).2;have hc:=zfz.1 (zpx h2).2;rcases ha with rfl|rfl|rfl|rfl<;>rcases hb with rfl|rfl|rfl|rfl<;>rcases hc with rfl|rfl|rfl|rfl<;>revert h1 h2<;>decide
theorem zSn {a b n:Int}(hn:n=1\/n=2)(h1:enough a n=true)(h2:enough b n=true):zcR a b≠0/\enough (zcR a b) n=true:=by
 have ha:=zfz.1 (zpx h1).1;have hb:=zfz.1 (zpx h2).1;rcases hn with rfl|rfl<;>rcases ha with rfl|rfl|rfl|rfl<;>rcases hb with rfl|rfl|rfl|rfl<;>revert h1 h2<;>decide
theorem both_ok (a b:Int):zct (zcR a b)=true:=by
 unfold zcR;cases ha:zct a with
 | false=>rfl
 | true =>
  cases hb:zct b with
  | false=>rfl
  | true =>
   have ha:=zfz.1 ha;have hb:=zfz.1 hb;rcases ha with rfl|rfl|rfl|rfl<;>rcases hb with rfl|rfl|rfl|rfl<;>decide
theorem zSs {a:Int}(h:zct a=true):enough a a=true:=by
 rcases zfz.1 h with rfl|rfl|rfl|rfl<;>decide
theorem zoK {n:Int}(hn:n=1\/n=2):enough 0 n=false:=by rcases hn with rfl|rfl<;>decide
theorem zU1 {s:Slot}{o:List Slot}(h1:s.Page≠-1)(h2:(zbf o s.Page).Page≠-1):zW s o=bif ieq (zcR s.Rights (zbf o s.Page).Rights) 0 then noSlot else ⟨(zbf o s.Page).Page,zcR s.Rights (zbf o s.Page).Rights⟩:=by
 unfold zW;rw[zbE.2 h1,zbE.2 h2];rfl
theorem znT {s:Slot}{o:List Slot}{n:Int}(hn:n=1\/n=2)(h:enough (zW s o).Rights n=true):s.Page≠-1/\(zbf o s.Page).Page≠-1/\(zW s o).Page=(zbf o s.Page).Page:=by
 unfold zW at h ⊢
 by_cases e1:s.Page = -1
 .rw [zbg.2 e1,cond_true]at h;rw[show noSlot.Rights=0 from rfl,zoK hn]at h;cases h
 .rw [zbE.2 e1,cond_false]at h ⊢
  by_cases e2:(zbf o s.Page).Page = -1
  .rw [zbg.2 e2,cond_true]at h;rw[show noSlot.Rights=0 from rfl,zoK hn]at h;cases h
  .rw [zbE.2 e2,cond_false]at h ⊢
   by_cases e3:zcR s.Rights (zbf o s.Page).Rights=0
   .rw [zbg.2 e3,cond_true]at h;rw[show noSlot.Rights=0 from rfl,zoK hn]at h;cases h
   .rw [zbE.2 e3];exact ⟨e1,e2,rfl⟩
theorem zPj {s:Slot}{o:List Slot}{n:Int}(hn:n=1\/n=2)(h1:s.Page≠-1)(h2:(zbf o s.Page).Page≠-1)(h3:enough s.Rights n=true)(h4:enough (zbf o s.Page).Rights n=true) :
 (zW s o).Page=(zbf o s.Page).Page/\enough (zW s o).Rights n=true:=by
 have:=zSn hn h3 h4;rw[zU1 h1 h2,zbE.2 this.1];exact ⟨rfl,this.2⟩
theorem zU2 (s:Slot)(o:List Slot):zct (zW s o).Rights=true:=by
 unfold zW;cases ieq s.Page (-1)<;>cases ieq (zbf o s.Page).Page (-1)<;>cases ieq (zcR s.Rights (zbf o s.Page).Rights) 0<;>first|rfl|exact both_ok _ _
theorem zwu {b:List Entry}{t p:Int}{e:Entry}:e∈zce b t p↔e∈b/\¬ (e.Tag=t/\e.Page=p):=by
 unfold zce;rw[kT];refine and_congr Iff.rfl ?_;unfold zzX
 by_cases h:e.Tag=t
 .rw [show ine e.Tag t=false by simp[ine,h],cond_false,zko];simp[h]
 .rw [zko.2 h];simp[h]
theorem z0M {b:List Entry}{e x:Entry}(h:x∈zod b e):x∈b\/x=e:=by
 unfold zod ap at h;have:x∈zce b e.Tag e.Page++[e]:=by
  cases hc:igt (ln (zce b e.Tag e.Page++[e])) 6 with
  | true=>rw[hc,cond_true]at h;exact kF h
  | false=>rw[hc,cond_false]at h;exact h
 rcases jF.1 this with h|h
 .exact .inl (zwu.1 h).1
 .exact .inr (qF.1 h)
theorem z6s {n:Nat}(h:n<=100):wsub .i64 (n:Int) 6=(n:Int)-6:=by
 unfold wsub IntKind.wrap;simp[IntKind.signed,IntKind.bits];omega
theorem zTQ {b:List Entry}(h:zev b=true)(e:Entry):zev (zod b e)=true:=by
 have h1:=zBi.1 h;have hl:(zce b e.Tag e.Page).length<=6:=jE (k9 _ _) h1.2;have hp:(zce b e.Tag e.Page++[e]).Pairwise (fun y x=>sameKey x y=false):=by
  rw[List.pairwise_append];refine ⟨h1.1.sublist List.filter_sublist,List.pairwise_singleton _ _,fun x hx y hy=>?_⟩;rw[qF.1 hy];have:=(zwu.1 hx).2;unfold sameKey
  by_cases e1:e.Tag=x.Tag
  .rw [zbg.2 e1,cond_true,zbE];exact fun e2=>this ⟨e1.symm,e2.symm⟩
  .rw [zbE.2 e1];rfl
 unfold zod ap;cases hc:igt (ln (zce b e.Tag e.Page++[e])) 6 with
 | true =>
  rw[cond_true,zBi];refine ⟨hp.sublist (List.drop_sublist _ _),?_⟩;unfold dp ln;rw[jR,uT,z6s (by omega),List.length_drop,jR,uT]
  omega
 | false =>
  rw[cond_false,zBi];refine ⟨hp,?_⟩;have:=jV hc;unfold ln at this;omega
theorem zX5 {h r:Host}{m:Int}(hm:hasB m (ln h.Mons)=true){y:Mon}(hM:r.Mons=up h.Mons m y)(hmem:r.Memory=h.Memory)(k:KeepP (ix h.Mons m mZ) y)(g:y.Guests=(ix h.Mons m mZ).Guests)(o:y.Outs=(ix h.Mons m mZ).Outs)(p:y.Pending=(ix h.Mons m mZ).Pending)(t:y.Traps=(ix h.Mons m mZ).Traps)(w:y.Own=(ix h.Mons m mZ).Own):Like h r:=by
 have e:∀{α:Type} (F:Mon->α),F y=F (ix h.Mons m mZ)->∀i,hasB i (ln h.Mons)=true->F (ix r.Mons i mZ)=F (ix h.Mons i mZ):=by
  intro α F hF i hi;rw[hM]
  by_cases e:m=i
  .subst e;rw[zY hm];exact hF
  .rw [zbk (zn.1 hm).1 (zn.1 hi).1 e]
 exact ⟨by rw[hM,zbA],e Mon.Guests g,e Mon.Outs o,e Mon.Pending p,e Mon.Traps t,e Mon.Own w,fun i q _ _=>zIz hm hM hmem k i q⟩
theorem z0Q {h:Host}(R:Rt h){m g:Int}(hm:hasB m (ln h.Mons)=true)(ht:hasB g (ln (ix h.Mons m mZ).Tables)=true){k:Kept}(hk:KOk k (ix (ix h.Mons m mZ).Guests g gZ).Live (ix h.Mons m mZ).Outer) :
 Rt { h with Mons:=up h.Mons m { ix h.Mons m mZ with Tables:=up (ix h.Mons m mZ).Tables g k } }:=by
 have key:∀e,zb0 h e=true->zb0 { h with Mons:=up h.Mons m { ix h.Mons m mZ with Tables:=up (ix h.Mons m mZ).Tables g k } } e=true:=by
  intro e he;obtain ⟨h1,h2,h3⟩:=zes.1 he;rw[zes]
  show hasB (zcg e.Tag) (ln (up h.Mons m _))=true/\hasB (zc4 e.Tag) (ln (ix (up h.Mons m _) (zcg e.Tag) mZ).Guests)=true/\below' _ (zW (zbf (ix (ix (up h.Mons m _) (zcg e.Tag) mZ).Guests (zc4 e.Tag) gZ).Live e.Page) (ix (up h.Mons m _) (zcg e.Tag) mZ).Outer)=true
  rw[zdh];refine ⟨h1,?_⟩
  by_cases hc:m=zcg e.Tag
  .rw [<- hc]at h1 h2 h3 ⊢;rw[zY hm];exact ⟨h2,h3⟩
  .rw [zbk (zn.1 hm).1 (zn.1 h1).1 hc];exact ⟨h2,h3⟩
 refine ⟨fun i hi=>?_,fun e he=>key e (R.e1 e he),fun e he=>key e (R.e2 e he)⟩
 show TOk (ix (up h.Mons m _) i mZ)
 have hi':hasB i (ln h.Mons)=true:=by
  have:hasB i (ln (up h.Mons m { ix h.Mons m mZ with Tables:=up (ix h.Mons m mZ).Tables g k }))=true:=hi
  rwa [zdh] at this
 by_cases hc:m=i
 .subst hc;rw[zY hm];intro j hj
  by_cases e:g=j
  .subst e
   show KOk (ix (up _ g k) g kZ) _ _
   rw[zY ht];exact hk
  .show KOk (ix (up _ g k) j kZ) _ _
   rw[zbk (zn.1 ht).1 (zn.1 hj).1 e];exact R.t m hm j hj
 .rw [zbk (zn.1 hm).1 (zn.1 hi').1 hc];exact R.t i hi'
theorem z0A {h:Host}(H:HOk h){m g:Int}(hm:hasB m (ln h.Mons)=true)(ht:hasB g (ln (ix h.Mons m mZ).Tables)=true){k:Kept}(hk:Rt h->KOk k (ix (ix h.Mons m mZ).Guests g gZ).Live (ix h.Mons m mZ).Outer) :
 Op h { h with Mons:=up h.Mons m { ix h.Mons m mZ with Tables:=up (ix h.Mons m mZ).Tables g k } }:=by
 have X:=H.mon hm;have kp:KeepP (ix h.Mons m mZ) { ix h.Mons m mZ with Tables:=up (ix h.Mons m mZ).Tables g k }:=⟨rfl,rfl⟩;exact ⟨zPN H hm kp (zjD X kp rfl (zbA _ _ _) rfl X.outs X.pend X.tr X.own X.gs),zX5 (y:={ ix h.Mons m mZ with Tables:=up (ix h.Mons m mZ).Tables g k }) hm rfl rfl kp rfl rfl rfl rfl rfl,fun R=>z0Q R hm ht (hk R)⟩
theorem zH0 {k:Kept}{inner outer:List Slot}(h:KOk k inner outer)(p:Int):KOk (filled k inner outer p) inner outer:=by
 unfold filled zcY;cases h1:hasB p (ln k.Known) with
 | false=>exact h
 | true =>
  have hs:hasB p (ln k.Slots)=true:=by unfold ln at h1 ⊢;rw[h.l2,<- h.l1];exact h1
  have hi:hasB p (ln inner)=true:=by unfold ln at h1 ⊢;rw[<- h.l1];exact h1
  rw[cond_true,hs,cond_true,hi,cond_true];refine ⟨by rw[zbA];exact h.l1,by rw[zbA];exact h.l2,fun i hi'=>?_⟩
  by_cases e:p=i
  .subst e
   show ix (up _ p _) p sZ=bif ix (up _ p true) p false then _ else _
   rw[zY hs,zY h1];rfl
  .show ix (up _ p _) i sZ=bif ix (up _ p true) i false then _ else _
   rw[zbk (zn.1 hs).1 (zn.1 hi').1 e,zbk (zn.1 hs).1 (zn.1 hi').1 e];exact h.at' i hi'
theorem z4n {h:Host}(H:HOk h){m g:Int}(hm:hasB m (ln h.Mons)=true)(hg:hasB g (ln (ix h.Mons m mZ).Guests)=true)(page:Int):Op h (zdf h m g page) :=
 z0A H hm (by unfold ln;rw[(H.mon hm).gt];exact hg) fun R=>zH0 (R.t m hm g hg) page
theorem zWP {k:Kept}{inner outer:List Slot}(h:KOk k inner outer){p:Int}(hp:hasB p (ln inner)=true):zdF k p=bif ix k.Known p false then zW (ix inner p sZ) outer else noSlot:=by
 have h1:hasB p (ln k.Known)=true:=by unfold ln at hp ⊢;rw[h.l1];exact hp
 have h2:hasB p (ln k.Slots)=true:=by unfold ln at hp ⊢;rw[h.l2];exact hp
 unfold zdF zfv zcY;rw[h1,h2,cond_true,cond_true,h.at' p hp];cases ix k.Known p false<;>rfl
theorem zUR {k:Kept}{inner outer:List Slot}(h:KOk k inner outer){p:Int}(hp:hasB p (ln inner)=true):zdF (filled k inner outer p) p=zW (ix inner p sZ) outer:=by
 rw[zWP (zH0 h p) hp];have h1:hasB p (ln k.Known)=true:=by unfold ln at hp ⊢;rw[h.l1];exact hp
 have h2:hasB p (ln k.Slots)=true:=by unfold ln at hp ⊢;rw[h.l2];exact hp
 have:ix (filled k inner outer p).Known p false=true:=by
  unfold filled zcY;rw[h1,h2,hp];exact zY h1 _ _
 rw[this];rfl
theorem z5B {h:Host}(H:HOk h){m g page:Int}(io:Bool)(he:Rt h->zb0 h (zBn h m g page)=true):Op h (zoZ h m g page io):=by
 have hl:∀(b1 b2:List Entry),Like h ⟨h.Memory,h.Mons,b1,b2⟩:=fun _ _=>⟨rfl,fun _ _=>rfl,fun _ _=>rfl,fun _ _=>rfl,fun _ _=>rfl,fun _ _=>rfl,fun _ _ _ _=>rfl⟩;have key:∀(b:List Entry),(∀e∈b,zb0 h e=true)->Rt h->∀e∈zod b (zBn h m g page),zb0 h e=true:=by
  intro b hb R e hx;rcases z0M hx with hx|hx
  .exact hb e hx
  .rw [hx];exact he R
 unfold zoZ;cases io
 .exact ⟨⟨H.m12,H.pgs,H.n1,H.n3,zTQ H.b1 _,H.b2,H.mons,H.uq⟩,hl _ _,fun R=>⟨R.t,fun e hx=>key _ R.e1 R e hx,R.e2⟩⟩
 .exact ⟨⟨H.m12,H.pgs,H.n1,H.n3,H.b1,zTQ H.b2 _,H.mons,H.uq⟩,hl _ _,fun R=>⟨R.t,R.e1,fun e hx=>key _ R.e2 R e hx⟩⟩
theorem z0c {b:List Entry}{t p:Int}{e:Entry}(h:zBq b t p=some e):e∈b/\e.Tag=t/\e.Page=p:=by
 unfold zBq at h;have h1:=List.find?_some h;rw[zbV,zbg,zbg]at h1;exact ⟨uI h,h1⟩
theorem ziC {h:Host}{m g:Int}:zbH h m g=true↔HOk h/\hasB m (ln h.Mons)=true/\hasB g (ln (ix h.Mons m mZ).Guests)=true:=by
 unfold zbH;rw[zbV,zbV,zhJ]
structure GOk (x:Guest):Prop where
 prog:zcU x.Prog=true
 a:win x.A 0 99=true
 pc:win x.Pc 0 12=true
 w:zco x.Written 4 8=true
 l:zco x.Live 4 8=true
 ctl:zgF x.Ctl=true
 pend:zcO x.Pending=true
 ex:zgr x.Exit=true
 seen:ile (ln x.Seen) 40=true
theorem zrb {x:Guest}:zcX x=true↔GOk x:=by
 unfold zcX;simp only[qD];exact ⟨fun ⟨a,b,c,d,e,f,g,h,i⟩=>⟨a,b,c,d,e,f,g,h,i⟩,fun ⟨a,b,c,d,e,f,g,h,i⟩=>⟨a,b,c,d,e,f,g,h,i⟩⟩
theorem zYQ {s:Slot}:zc6 s 8=true↔s=noSlot\/(0<=s.Page/\s.Page<=7/\1<=s.Rights/\s.Rights<=3):=by
 unfold zc6;rw[zrp,ziv,zpU];have:wsub .i64 8 1=7:=by decide
 simp only[this,zrp,zcr];simp[igt];constructor
 .rintro (h|⟨h,⟨h1,h2⟩,h3⟩)
  .exact .inl h
  .exact .inr ⟨h1,h2,h3⟩
 .intro h
  by_cases hs:s=noSlot
  .exact .inl hs
  .rcases h with h|⟨h1,h2,h3⟩
   .exact .inl h
   .exact .inr ⟨hs,⟨h1,h2⟩,h3⟩
theorem HOk.guest {h:Host}(H:HOk h){m g:Int}(hm:hasB m (ln h.Mons)=true)(hg:hasB g (ln (ix h.Mons m mZ).Guests)=true):GOk (ix (ix h.Mons m mZ).Guests g gZ):=zrb.1 ((H.mon hm).gs _ (zkp hg _))
structure Walked (l:List Slot) (p n q:Int):Prop where
 hp:hasB p (ln l)=true
 pg:(ix l p sZ).Page=q
 q8:hasB q 8=true
 en:enough (ix l p sZ).Rights n=true
theorem walked {x:Guest}(X:GOk x){p n:Int}(hw:zeT x.Live p n=true):Walked x.Live p n (zcm x.Live p n):=by
 have e:zcm x.Live p n=(zbf x.Live p).Page:=by unfold zcm;rw[hw];rfl
 unfold zeT at hw
 by_cases h1:(zbf x.Live p).Page = -1
 .rw [zbg.2 h1]at hw;cases hw
 .rw [zbE.2 h1,cond_false,zbV]at hw;have hp:hasB p (ln x.Live)=true:=by
   cases hp:hasB p (ln x.Live) with
   | true=>rfl
   | false=>exact absurd (by unfold zbf;rw[hp];rfl) h1
  rw[zmo hp] at e h1 hw;rw[e];have hs:=zYQ.1 ((zlu.1 X.l).1 _ (zkp hp sZ));refine ⟨hp,rfl,?_,hw.1⟩;rcases hs with hs|hs
  .rw [hs]at h1;exact absurd rfl h1
  .exact zn.2 (by omega)
structure Looked (h r:Host) (m g page need q host:Int):Prop where
 op:Op h r
 inn:(ix (ix r.Mons m mZ).Outer q sZ).Page=host
 ne:host≠-1
 en:enough (zW (ix (ix (ix h.Mons m mZ).Guests g gZ).Live page sZ) (ix r.Mons m mZ).Outer).Rights need=true
 cp:(zW (ix (ix (ix h.Mons m mZ).Guests g gZ).Live page sZ) (ix r.Mons m mZ).Outer).Page=host
 dk:∀k,hasB k 8=true->k≠q->ix (ix r.Mons m mZ).Dirty k false=ix (ix h.Mons m mZ).Dirty k false
 dq:need=2->ix (ix r.Mons m mZ).Dirty q false=true
 d1:need=1->(ix r.Mons m mZ).Dirty=(ix h.Mons m mZ).Dirty
 dm:∀i,hasB i (ln h.Mons)=true->i≠m->(ix r.Mons i mZ).Dirty=(ix h.Mons i mZ).Dirty
theorem zME {h:Host}(S:Safe h){m g page need q:Int}(hm:hasB m (ln h.Mons)=true)(hg:hasB g (ln (ix h.Mons m mZ).Guests)=true)(hn:need=1\/need=2)(W:Walked (ix (ix h.Mons m mZ).Guests g gZ).Live page need q)(io:Bool)(ha:zdF (zcc h m g) page=zW (ix (ix (ix h.Mons m mZ).Guests g gZ).Live page sZ) (ix h.Mons m mZ).Outer)(he:enough (zdF (zcc h m g) page).Rights need=true) :
 Op h (zg2 h m g page io).1/\(zg2 h m g page io).2=((ix (ix h.Mons m mZ).Outer q sZ).Page,true)/\(ix (ix h.Mons m mZ).Outer q sZ).Page≠-1/\(zg2 h m g page io).1.Mons=h.Mons:=by
 rw[ha]at he;have hc:=znT hn he;rw[W.pg,zmo ((S.ok.mon hm).hasO W.q8)]at hc;refine ⟨z5B S.ok io fun R=>?_,?_,hc.2.1,?_⟩
 .obtain ⟨t1,t2⟩:=S.ok.tag hm hg;obtain ⟨b1,b2,_⟩:=zRM t1 t2;rw[zes]
  show hasB (zcg (zel m g)) _=true/\hasB (zc4 (zel m g)) (ln (ix h.Mons (zcg (zel m g)) mZ).Guests)=true/\below' ⟨(zdF (zcc h m g) page).Page,(zdF (zcc h m g) page).Rights⟩ (zW (zbf (ix (ix h.Mons (zcg (zel m g)) mZ).Guests (zc4 (zel m g)) gZ).Live page) (ix h.Mons (zcg (zel m g)) mZ).Outer)=true
  rw[b1,b2,zmo W.hp,ha];exact ⟨hm,hg,zl9.2 (.inr ⟨rfl,zSs (zU2 _ _)⟩)⟩
 .show ((zdF (zcc h m g) page).Page,true)=_
  rw[ha,hc.2.2]
 .show (zoZ h m g page io).Mons=_
  unfold zoZ;cases io<;>rfl
theorem zQQ {h:Host}(S:Safe h){m g page need q:Int}(hm:hasB m (ln h.Mons)=true)(hg:hasB g (ln (ix h.Mons m mZ).Guests)=true)(hn:need=1\/need=2)(W:Walked (ix (ix h.Mons m mZ).Guests g gZ).Live page need q)(io:Bool){b:List Entry}(hb:∀e∈b,zb0 h e=true)(hd:need=2->ix (ix h.Mons m mZ).Dirty q false=true) :
 Looked h (zfI h b m g page need q io).1 m g page need q (zfI h b m g page need q io).2.1/\(zfI h b m g page need q io).2.2=true:=by
 have X:=S.ok.mon hm;have hq8:=W.q8;have hsl:=zmo (X.hasO W.q8);unfold zfI;cases hf:zge b m g page need with
 | true =>
  rw[cond_true];unfold zge at hf;cases hfb:zpA b m g page with
  | none=>rw[hfb]at hf;cases hf
  | some e =>
   rw[hfb]at hf;have hf':enough e.Rights need=true:=hf;obtain ⟨f1,f2,f3⟩:=z0c hfb;obtain ⟨t1,t2⟩:=S.ok.tag hm hg;obtain ⟨b1,b2,_⟩:=zRM t1 t2;obtain ⟨_,_,h3⟩:=zes.1 (hb e f1);rw[f2,b1,b2,f3,zmo W.hp]at h3;have hne:(⟨e.Host,e.Rights⟩:Slot)≠noSlot:=fun hc=>by
    have:e.Rights=0:=congrArg Slot.Rights hc;rw[this,zoK hn]at hf';cases hf'
   rcases zl9.1 h3 with h3|⟨h3,h4⟩
   .exact absurd h3 hne
   .have h5:=zPz h4 hf';have hc:=znT hn h5;rw[W.pg,hsl]at hc;have h3':e.Host=_:=h3;refine ⟨⟨Op.refl S.ok,hc.2.2.symm.trans h3.symm,?_,h5,h3.symm,fun _ _ _=>rfl,hd,fun _=>rfl,fun _ _ _=>rfl⟩,rfl⟩
    show e.Host≠-1
    rw[h3',hc.2.2];exact hc.2.1
 | false =>
  rw[cond_false];have hKO:=S.rt.t m hm g hg;cases hs:zef h m g page need with
  | false =>
   rw[cond_false];have hs':ix (zcc h m g).Known page false=true/\enough (zdF (zcc h m g) page).Rights need=true:=by
    unfold zef at hs;cases hk:zfv (zcc h m g) page with
    | false=>rw[hk]at hs;cases hs
    | true =>
     rw[hk,cond_true]at hs;refine ⟨?_,?_⟩
     .unfold zfv at hk;cases hh:zcY (zcc h m g) page with
      | false=>rw[hh]at hk;cases hk
      | true=>rw[hh]at hk;exact hk
     .cases hz:ieq (zdF (zcc h m g) page).Page (-1) with
      | true=>rw[hz]at hs;cases hs
      | false=>rw[hz]at hs;simpa using hs
   have ha:zdF (zcc h m g) page=zW (ix (ix (ix h.Mons m mZ).Guests g gZ).Live page sZ) (ix h.Mons m mZ).Outer:=by
    have h0:=zWP hKO W.hp;have h1:ix (ix (ix h.Mons m mZ).Tables g kZ).Known page false=true:=hs'.1;rw[h1]at h0;exact h0
   obtain ⟨o1,o2,o3,o4⟩:=zME S hm hg hn W io ha hs'.2;rw[o2];have he:=hs'.2;rw[ha]at he;have hc:=znT hn he;rw[W.pg,hsl]at hc;exact ⟨⟨o1,by rw[o4],o3,by rw[o4];exact he,by rw[o4];exact hc.2.2,fun _ _ _=>by rw[o4],fun e=>by rw[o4];exact hd e,fun _=>by rw[o4],fun _ _ _=>by rw[o4]⟩,rfl⟩
  | true =>
   rw[cond_true];have M:=zMM S.ok (m:=m) (p:=q) need hm hq8;have hm1:hasB m (ln (mended h m q need).Mons)=true:=by rw[M.op.like.has];exact hm
   have hgs:(ix (mended h m q need).Mons m mZ).Guests=(ix h.Mons m mZ).Guests:=M.op.like.g m hm;have hg1:hasB g (ln (ix (mended h m q need).Mons m mZ).Guests)=true:=by rw[hgs];exact hg
   have S1:Safe (mended h m q need):=M.op.safe S;have F:=z4n S1.ok hm1 hg1 page;have S2:Safe (zdf (mended h m q need) m g page):=F.safe S1;have hm2:hasB m (ln (zdf (mended h m q need) m g page).Mons)=true:=by rw[F.like.has];exact hm1
   have e2:ix (zdf (mended h m q need) m g page).Mons m mZ={ ix (mended h m q need).Mons m mZ with Tables:=up (ix (mended h m q need).Mons m mZ).Tables g (filled (zcc (mended h m q need) m g) (zcz (mended h m q need) m g) (ix (mended h m q need).Mons m mZ).Outer page) }:=zY hm1 _ _;have hg2:hasB g (ln (ix (zdf (mended h m q need) m g page).Mons m mZ).Guests)=true:=by rw[e2];exact hg1
   have hgs2:(ix (zdf (mended h m q need) m g page).Mons m mZ).Guests=(ix h.Mons m mZ).Guests:=by rw[e2];exact hgs
   have W2:Walked (ix (ix (zdf (mended h m q need) m g page).Mons m mZ).Guests g gZ).Live page need q:=by rw[hgs2];exact W
   have ha:zdF (zcc (zdf (mended h m q need) m g page) m g) page=zW (ix (ix (ix (zdf (mended h m q need) m g page).Mons m mZ).Guests g gZ).Live page sZ) (ix (zdf (mended h m q need) m g page).Mons m mZ).Outer:=by
    have:zcc (zdf (mended h m q need) m g page) m g=filled (zcc (mended h m q need) m g) (zcz (mended h m q need) m g) (ix (mended h m q need).Mons m mZ).Outer page:=by
     unfold zcc;rw[e2];exact zY (by unfold ln;rw[(S1.ok.mon hm1).gt];exact hg1) _ _
    rw[this];refine (zUR (p:=page) (S1.rt.t m hm1 g hg1) (by rw[hgs];exact W.hp)).trans ?_
    rw[e2]
   have hOu:(ix (zdf (mended h m q need) m g page).Mons m mZ).Outer=(ix (mended h m q need).Mons m mZ).Outer:=by rw[e2]
   have hsl1:=zmo ((S1.ok.mon hm1).hasO hq8);have hfull:=zPj (s:=ix (ix (ix h.Mons m mZ).Guests g gZ).Live page sZ) (o:=(ix (mended h m q need).Mons m mZ).Outer) hn (by rw[W.pg];have:=zn.1 hq8;omega) (by rw[W.pg,hsl1];exact M.inn) W.en (by
    rw[W.pg,hsl1];rcases hn with rfl|rfl
    .rcases (S1.ok.mon hm1).enough1 hq8 M.inn with e|e<;>rw [e]<;>decide
    .rw [M.ri (by decide)];decide)
   have he:enough (zdF (zcc (zdf (mended h m q need) m g page) m g) page).Rights need=true:=by
    rw[ha,hgs2,hOu];exact hfull.2
   obtain ⟨o1,o2,o3,o4⟩:=zME S2 hm2 hg2 hn W2 io ha he;rw[o2];have hcp:=hfull.1;rw[W.pg,hsl1]at hcp;refine ⟨⟨(M.op.trans F).trans o1,by rw[o4],o3,by rw[o4,hOu];exact hfull.2,by rw[o4,hOu];exact hcp,fun k hk hc=>?_,fun e=>?_,fun e=>?_,fun i hi hc=>?_⟩,rfl⟩
   .rw [o4,e2];exact M.dk k hk hc
   .rw [o4,e2];exact M.dt (by rw[e];decide)
   .rw [o4,e2];exact M.d0 (by rw[e];decide)
   .rw [o4]
    show (ix (up (mended h m q need).Mons m _) i mZ).Dirty=_
    rw[zbk (zn.1 hm).1 (zn.1 hi).1 (Ne.symm hc)];exact M.dm i hi hc
theorem zDx {n:Int}:ziF n=true↔n=1\/n=2:=by
 unfold ziF
 by_cases h:n=1
 .rw [zbg.2 h];simp[h]
 .rw [zbE.2 h,cond_false,zbg];simp[h]
theorem zoR {h:Host}{m g page need:Int}:zbP h m g page need=true↔zbH h m g=true/\(need=1\/need=2)/\zeT (zcz h m g) page need=true:=by
 unfold zbP;rw[zbV,zbV,zDx]
theorem zzV {h:Host}(S:Safe h){m g page need:Int}(io:Bool)(hl:zbP h m g page need=true){b:List Entry}(hb:∀e∈b,zb0 h e=true) :
 Looked h (lookOf h b m g page need io).1 m g page need (zcm (zcz h m g) page need) (lookOf h b m g page need io).2.1/\(lookOf h b m g page need io).2.2=true:=by
 obtain ⟨h1,hn,hw⟩:=zoR.1 hl;obtain ⟨_,hm,hg⟩:=ziC.1 h1;have W:=walked (S.ok.guest hm hg) hw;unfold lookOf;rw[hl,cond_true];rcases hn with rfl|rfl
 .rw [show ieq 1 2=false by decide,cond_false]
  exact zQQ S hm hg (.inl rfl) W io hb (fun e=>absurd e (by decide))
 .rw [show ieq 2 2=true by decide,cond_true]
  obtain ⟨k1,k2⟩:=zIt S.ok hm (zcm (zcz h m g) page 2);have hm1:hasB m (ln (zbp h m (zcm (zcz h m g) page 2)).Mons)=true:=by rw[k1.like.has];exact hm
  have e1:ix (zbp h m (zcm (zcz h m g) page 2)).Mons m mZ={ ix h.Mons m mZ with Dirty:=up (ix h.Mons m mZ).Dirty (zcm (zcz h m g) page 2) true }:=zY hm _ _;have hD:=(S.ok.mon hm).hasD W.q8;obtain ⟨L,hL⟩:=zQQ (k1.safe S) hm1 (g:=g) (page:=page) (need:=2) (q:=zcm (zcz h m g) page 2) (by rw[e1];exact hg) (.inr rfl) (by rw[e1];exact W) io (b:=b) (fun e he=>by
   obtain ⟨a1,a2,a3⟩:=zes.1 (hb e he);rw[zes];have hi:hasB (zcg e.Tag) (ln (zbp h m (zcm (zcz h m g) page 2)).Mons)=true:=by rw[k1.like.has];exact a1
   refine ⟨hi,by rw[k1.like.g _ a1];exact a2,?_⟩
   rw[k1.like.g _ a1];have:(ix (zbp h m (zcm (zcz h m g) page 2)).Mons (zcg e.Tag) mZ).Outer=(ix h.Mons (zcg e.Tag) mZ).Outer:=by
    show (ix (up h.Mons m _) _ mZ).Outer=_
    by_cases hc:m=zcg e.Tag
    .rw [<- hc,zY hm]
    .rw [zbk (zn.1 hm).1 (zn.1 a1).1 hc]
   rw[this];exact a3) (fun _=>by rw[e1];exact zY hD _ _)
  refine ⟨⟨k1.trans L.op,L.inn,L.ne,?_,?_,fun k hk hc=>?_,L.dq,fun e=>absurd e (by decide),fun i hi hc=>?_⟩,hL⟩
  .have:=L.en;rw[e1] at this;exact this
  .have:=L.cp;rw[e1] at this;exact this
  .rw [L.dk k hk hc,e1];exact zbk (zn.1 W.q8).1 (zn.1 hk).1 (Ne.symm hc) _ _
  .rw [L.dm i (by rw[k1.like.has];exact hi) hc]
   show (ix (up h.Mons m _) i mZ).Dirty=_
   rw[zbk (zn.1 hm).1 (zn.1 hi).1 (Ne.symm hc)]
theorem zLM {x y:Int}(h1 : -9223372036854775808<=x+y)(h2:x+y<=9223372036854775807):zG .i64 x y=x+y:=by
 unfold zG;simp only[IntKind.wrap,IntKind.signed,IntKind.bits];simp;omega
theorem zG1 {n:Nat}{P:Int->Prop}(h:∀i:Fin n,P ((i.val:Nat):Int)){x:Int}(h0:0<=x)(h1:x<n):P x:=by
 have:=h ⟨x.toNat,by omega⟩
 simpa [show ((x.toNat:Nat):Int)=x by omega] using this
theorem zRh {p:Int}:zcO p=true↔0<=p/\p<=255:=by unfold zcO;exact zcr
theorem zMT {p:Int}(h:zcO p=true):zcO (ziW p)=true:=by
 have h':=zRh.1 h;exact zG1 (n:=256) (P:=fun x=>zcO (ziW x)=true) (by decide +kernel) h'.1 (by omega)
theorem zMS {p:Int}(h:zcO p=true)(n:Int):zcO (zqR p n)=true:=by
 unfold zqR zfy;rw[h,cond_true];cases hn:win n 0 7 with
 | false=>exact h
 | true =>
  rw[cond_true];have h':=zRh.1 h;have hn':=zcr.1 hn;exact zG1 (n:=256) (P:=fun x=>∀k,0<=k->k<(8:Int)->zcO (wor .i64 x (znH .i64 1 k))=true) (fun i k h0 h1=>zG1 (n:=8) (P:=fun k=>zcO (wor .i64 ((i.val:Nat):Int) (znH .i64 1 k))=true) (by revert i;decide +kernel) h0 h1) h'.1 (by omega) n hn'.1 (by omega)
structure GKeep (x y:Guest):Prop where
 ok:GOk y
 live:y.Live=x.Live
theorem zVx {x:Guest}(X:GOk x){c:Int}(hc:win c 0 12=true):GOk { x with Pc:=c }:=⟨X.prog,X.a,hc,X.w,X.l,X.ctl,X.pend,X.ex,X.seen⟩
theorem zVw {x:Guest}(X:GOk x){c:Int}(hc:win c 0 99=true):GOk { x with A:=c }:=⟨X.prog,hc,X.pc,X.w,X.l,X.ctl,X.pend,X.ex,X.seen⟩
theorem zif {x:Guest}(X:GOk x):GKeep x (zbY x):=by
 unfold zbY;have hp:=zcr.1 X.pc;cases h:ige x.Pc 12 with
 | true=>exact ⟨zVx X (by decide),rfl⟩
 | false =>
  have:¬ x.Pc≥12:=jV h;refine ⟨zVx X ?_,rfl⟩;rw[zLM (by omega) (by omega)]
  exact zcr.2 (by omega)
theorem zPG {x:Guest}(X:GOk x)(n:Int):GKeep x (saw x n):=by
 unfold saw;cases h:ilt (ln x.Seen) 40 with
 | false=>exact ⟨X,rfl⟩
 | true =>
  have:ln x.Seen<40:=qE h;refine ⟨⟨X.prog,X.a,X.pc,X.w,X.l,X.ctl,X.pend,X.ex,qL ?_⟩,rfl⟩;unfold ln ap at *;simp;omega
theorem zih {x:Guest}(X:GOk x){e:GExit}(he:zgr e=true):GKeep x (stopped x e):=⟨⟨X.prog,X.a,X.pc,X.w,X.l,X.ctl,X.pend,he,X.seen⟩,rfl⟩
theorem zT4 {x:Guest}(X:GOk x){p:Int}(hp:zcO p=true):GKeep x { x with Pending:=p }:=⟨⟨X.prog,X.a,X.pc,X.w,X.l,X.ctl,hp,X.ex,X.seen⟩,rfl⟩
theorem zT1 {x:Guest}(X:GOk x)(b:Bool):GKeep x { x with Halted:=b }:=⟨⟨X.prog,X.a,X.pc,X.w,X.l,X.ctl,X.pend,X.ex,X.seen⟩,rfl⟩
theorem zT2 {x:Guest}(X:GOk x):GKeep x (held x):=⟨(zif (zT1 X true).ok).ok,(zif (zT1 X true).ok).live⟩
theorem zXK {x:Guest}(X:GOk x){v:Int}(hv:win v 0 99=true):GKeep x (loaded x v):=by
 have h1:=zPG (zVw X hv) v;have h2:=zif h1.ok;exact ⟨h2.ok,h2.live.trans h1.live⟩
theorem zJA {x:Guest}(X:GOk x):GKeep x (interrupted x):=by
 unfold interrupted;cases zhA x with
 | false=>exact ⟨X,rfl⟩
 | true =>
  have h1:=zT4 X (zMT X.pend);rw[cond_true];exact ⟨(zPG h1.ok _).ok,(zPG h1.ok _).live⟩
theorem zFF {p:List Ins}(h:zcU p=true)(i:Int):zdu (zcb p i)=true:=by
 unfold zcb;cases hi:hasB i (ln p) with
 | false=>rfl
 | true =>
  unfold zcU at h;rw[zbV,qJ]at h;exact h.1 _ (zkp hi _)
theorem z5w {i:Ins}(h:zdu i=true)(h3:i.Op=3\/i.Op=4):0<=i.X/\i.X<=15:=by
 unfold zdu at h;rcases h3 with e|e<;>rw [e]at h<;>exact zcr.1 h
theorem zXT {i:Ins}(h:zdu i=true)(h3:i.Op=5\/i.Op=6):0<=i.X/\i.X<=99:=by
 unfold zdu at h;rcases h3 with e|e<;>rw [e]at h<;>exact zcr.1 h
theorem z6b {i:Ins}(h:zdu i=true)(h3:i.Op=8):0<=i.X/\i.X<=11:=by
 unfold zdu at h;rw[h3]at h;exact zcr.1 h
theorem z6a {i:Ins}(h:zdu i=true)(h3:i.Op=1):0<=i.X/\i.X<=99:=by
 unfold zdu at h;rw[h3]at h;exact zcr.1 h
theorem zVy {x:Guest}(X:GOk x):GKeep x (plainly x):=by
 have M:=zif X;have hi:=zFF X.prog x.Pc;unfold plainly;cases ine (zM x) 2 with
 | true=>exact ⟨X,rfl⟩
 | false =>
  rw[cond_false];cases win x.A 0 99 with
  | false=>exact M
  | true =>
   rw[cond_true];cases win (zcb x.Prog x.Pc).X 0 99 with
   | false=>exact M
   | true =>
    rw[cond_true]
    by_cases e1:(zcb x.Prog x.Pc).Op=1
    .rw [zbg.2 e1,cond_true];exact ⟨zVw M.ok (zcr.2 (z6a hi e1)),M.live⟩
    .rw [zbE.2 e1,cond_false]
     by_cases e2:(zcb x.Prog x.Pc).Op=2
     .rw [zbg.2 e2,cond_true];refine ⟨zVw M.ok ?_,M.live⟩;have h1:=zcr.1 X.a;have hx:0<=(zcb x.Prog x.Pc).X/\(zcb x.Prog x.Pc).X<=99:=by
       unfold zdu at hi;rw[e2]at hi;exact zcr.1 hi
      rw[zcr];unfold ziA;rw[zLM (by omega) (by omega)]
      have h5:=Int.tmod_nonneg (a:=x.A+(zcb x.Prog x.Pc).X) 100 (by omega)
      have h6:=Int.tmod_lt_of_pos (x.A+(zcb x.Prog x.Pc).X) (show (0:Int)<100 by omega)
      omega
     .rw [zbE.2 e2,cond_false]
      by_cases e8:(zcb x.Prog x.Pc).Op=8
      .rw [zbg.2 e8,cond_true];cases ieq x.A 0 with
       | true =>
        have:=z6b hi e8;exact ⟨zVx M.ok (zcr.2 (by omega)),M.live⟩
       | false=>exact M
      .rw [zbE.2 e8];exact M
theorem zqP {c:List Int}:zb5 c=true↔(∀x∈c,win x 0 99=true)/\ln c=4:=by
 unfold zb5;rw[zbV,qJ,zbg]
theorem zld (h:Host)(m:Int):∀(n i:Nat),(zcp h m n i).length=n
 | 0,_=>rfl
 | n+1,i=>by rw[zcp,qV,zld h m n]
theorem zIA (h:Host)(m:Int):∀(n i k:Nat) (hk:k<(zcp h m n i).length),(zcp h m n i)[k]=zcN h m ((i+k:Nat):Int)
 | 0,i,k,hk=>by simp[zcp]at hk
 | n+1,i,k,hk=>by
  cases k with
  | zero=>rfl
  | succ k =>
   have:=zIA h m n (i+1) k (by simpa [zcp] using hk)
   simp only[zcp,List.getElem_cons_succ];rw[this]
   congr 1
   omega
theorem zn7 {h:Host}{m q:Int}(hq:hasB q 8=true)(d:List Int):ix (zcp h m 8 0) q d=zcN h m q:=by
 have hq':=zn.1 hq;have hk:q.toNat<(zcp h m 8 0).length:=by rw[zld];omega
 have:=ziE hk d;rw[show ((q.toNat:Nat):Int)=q by omega] at this
 rw[this,zIA]
 congr 1
 omega
theorem zrW (h:Host)(m:Int):ln (zcp h m 8 0)=8:=by unfold ln;rw[zld];rfl
theorem zwY {h:Host}(H:HOk h){m p:Int}(hm:hasB m (ln h.Mons)=true)(hp:hasB p 8=true):zb5 (zcN h m p)=true:=by
 have X:=H.mon hm;rw[<- zjM H hm hp]
 by_cases e:(ix (ix h.Mons m mZ).Outer p sZ).Page = -1
 .rw [zbg.2 e];exact ((znX (X.slot hp)).1 (X.fit p hp)).1 e
 .rw [zbE.2 e];exact zMQ H.pgs _
theorem zv5 {h:Host}(H:HOk h){m:Int}(hm:hasB m (ln h.Mons)=true):zbW (zB h m)=true:=by
 have X:=H.mon hm;unfold zB;rw[hm,cond_true];unfold zbW zgG;rw[zbV,qJ];refine ⟨X.gs,?_⟩;simp only[qD,zbV,qJ,zbg,zcr];refine ⟨⟨fun c hc=>?_,zrW h m⟩,⟨?_,?_⟩,?_,X.pend⟩
 .obtain ⟨i,hi,rfl⟩:=zvp hc [];rw[zrW]at hi;rw[zn7 hi];exact zwY H hm hi
 .unfold ln;have:=X.g1;omega
 .unfold ln;have:=X.g2;omega
 .unfold ile ln;have:=X.outs;exact qL (by omega)
structure SimT (h r:Host) (m:Int) (f:Bare->Bare):Prop where
 safe:Safe r
 seen:∀i,zB r i=bif ieq i m then f (zB h i) else zB h i
 len:r.Mons.length=h.Mons.length
theorem SimT.trans {a b c:Host}{m:Int}{f g:Bare->Bare}(x:SimT a b m f)(y:SimT b c m g):SimT a c m (fun t=>g (f t)):=by
 refine ⟨y.safe,fun i=>?_,y.len.trans x.len⟩;rw[y.seen i,x.seen i];cases ieq i m<;>rfl
theorem Op.sim {h r:Host}(k:Op h r)(S:Safe h)(m:Int):SimT h r m id:=⟨k.safe S,fun i=>by rw[k.like.seen i];cases ieq i m<;>rfl,k.like.len⟩
theorem SimT.congr {h r:Host}{m:Int}{f g:Bare->Bare}(x:SimT h r m f)(e:f (zB h m)=g (zB h m)):SimT h r m g:=by
 refine ⟨x.safe,fun i=>?_,x.len⟩;rw[x.seen i]
 by_cases hi:i=m
 .subst hi;rw[zbg.2 rfl,cond_true,cond_true,e]
 .rw [zbE.2 hi];rfl
theorem SimT.has {h r:Host}{m:Int}{f:Bare->Bare}(x:SimT h r m f)(i:Int):hasB i (ln r.Mons)=hasB i (ln h.Mons):=by unfold ln;rw[x.len]
theorem SimT.refl {h:Host}(S:Safe h)(m:Int):SimT h h m id:=⟨S,fun i=>by cases ieq i m<;>rfl,rfl⟩
theorem ztY {h:Host}(S:Safe h){m q host:Int}(hm:hasB m (ln h.Mons)=true)(hq:hasB q 8=true)(hs:(ix (ix h.Mons m mZ).Outer q sZ).Page=host)(hne:host≠-1)(c v:Int) :
 SimT h { h with Memory:=zbw h.Memory host c v } m (fun b=>{ b with Memory:=zbw b.Memory q c v })/\cellAt h.Memory host c=cellAt (zB h m).Memory q c:=by
 have H:=S.ok;have X:=H.mon hm;have hsl:=X.slot hq;have hM:=z6A H hsl (by rw[hs];exact hne)
 rw[hs]at hM;have hpg:ix h.Memory host []=zcN h m q:=by
  have:=zjM H hm hq;rw[hs,zbE.2 hne,cond_false,zjJ hM] at this;exact this
 have hlen:ln (zcN h m q)=4:=(zqP.1 (zwY H hm hq)).2;have hmem:(zB h m).Memory=zcp h m 8 0:=by unfold zB;rw[hm];rfl
 have h1:zg3 h.Memory host c=hasB c 4:=by unfold zg3;rw[hM,cond_true,hpg,hlen]
 have h2:zg3 (zcp h m 8 0) q c=hasB c 4:=by unfold zg3;rw[zrW,hq,cond_true,zn7 hq,hlen]
 have hcell:cellAt h.Memory host c=cellAt (zB h m).Memory q c:=by
  rw[hmem];unfold cellAt;rw[h1,h2,hpg,zn7 hq]
 refine ⟨?_,hcell⟩;cases hc:hasB c 4 with
 | false =>
  have e1:zbw h.Memory host c v=h.Memory:=by unfold zbw;rw[h1,hc];rfl
  rw[e1];refine (SimT.refl S m).congr ?_
  show zB h m={ zB h m with Memory:=zbw (zB h m).Memory q c v }
  rw[hmem];have e2:zbw (zcp h m 8 0) q c v=zcp h m 8 0:=by unfold zbw;rw[h2,hc];rfl
  rw[e2,<- hmem]
 | true =>
  cases hv:win v 0 99 with
  | false =>
   have e1:zbw h.Memory host c v=h.Memory:=by unfold zbw;rw[h1,hc,hv];rfl
   rw[e1];refine (SimT.refl S m).congr ?_
   show zB h m={ zB h m with Memory:=zbw (zB h m).Memory q c v }
   rw[hmem];have e2:zbw (zcp h m 8 0) q c v=zcp h m 8 0:=by unfold zbw;rw[h2,hc,hv];rfl
   rw[e2,<- hmem]
  | true =>
   have e1:zbw h.Memory host c v=up h.Memory host (up (zcN h m q) c v):=by unfold zbw;rw[h1,hc,hv,hpg];rfl
   have e2:zbw (zcp h m 8 0) q c v=up (zcp h m 8 0) q (up (zcN h m q) c v):=by unfold zbw;rw[h2,hc,hv,zn7 hq];rfl
   have hnew:zb5 (up (zcN h m q) c v)=true:=by
    have:=zqP.1 (zwY H hm hq);rw[zqP,zdh];refine ⟨fun x hx=>?_,this.2⟩;rcases qZ hx with h|h
    .exact this.1 x h
    .rw [h];exact hv
   have h0:=(zn.1 hM).1;have hH:HOk { h with Memory:=zbw h.Memory host c v }:=by
    rw[e1];refine ⟨by show (up _ _ _).length=12;rw[zbA];exact H.m12,fun x hx=>?_,H.n1,H.n3,H.b1,H.b2,H.mons,H.uq⟩
    rcases qZ hx with h|h
    .exact H.pgs x h
    .rw [h];exact hnew
   refine ⟨⟨hH,⟨S.rt.t,S.rt.e1,S.rt.e2⟩⟩,fun i=>?_,rfl⟩;have hne':∀i k,hasB i (ln h.Mons)=true->hasB k 8=true->¬ (i=m/\k=q)->zcN { h with Memory:=zbw h.Memory host c v } i k=zcN h i k:=by
    intro i k hi hk hnot;rw[<- zjM hH (m:=i) (p:=k) hi hk,<- zjM H hi hk]
    show (cond (ieq (ix (ix h.Mons i mZ).Outer k sZ).Page (-1)) _ (zb8 (zbw h.Memory host c v) _))=_
    by_cases e:(ix (ix h.Mons i mZ).Outer k sZ).Page = -1
    .rw [zbg.2 e];rfl
    .rw [zbE.2 e,cond_false,cond_false,e1];exact zz0 h0 (fun e=>hnot (H.uniq hi hk hm hq e hs h0))
   have heq':zcN { h with Memory:=zbw h.Memory host c v } m q=up (zcN h m q) c v:=by
    rw[<- zjM hH (m:=m) (p:=q) hm hq]
    show (cond (ieq (ix (ix h.Mons m mZ).Outer q sZ).Page (-1)) _ (zb8 (zbw h.Memory host c v) (ix (ix h.Mons m mZ).Outer q sZ).Page))=_
    rw[hs,zbE.2 hne,cond_false,e1];exact zzZ hM
   by_cases hi:i=m
   .subst hi;rw[zbg.2 rfl,cond_true];unfold zB
    show (cond (hasB i (ln h.Mons)) _ _)=_
    rw[hm,cond_true,cond_true]
    show Bare.mk (zcp { h with Memory:=zbw h.Memory host c v } i 8 0) _ _ _=Bare.mk (zbw (zcp h i 8 0) q c v) _ _ _
    congr 1
    rw[e2];refine zK3 [] (by rw[zbA,zld,zld]) fun k hk=>?_
    rw[zrW]at hk;rw[zn7 hk]
    by_cases e:q=k
    .subst e;rw[zY (by rw[zrW];exact hq),heq']
    .rw [zbk (zn.1 hq).1 (zn.1 hk).1 e,zn7 hk];exact hne' i k hm hk (fun h=>e h.2.symm)
   .rw [zbE.2 hi,cond_false];unfold zB
    show (cond (hasB i (ln h.Mons)) _ _)=_
    cases hi2:hasB i (ln h.Mons) with
    | false=>rfl
    | true =>
     rw[cond_true,cond_true]
     show Bare.mk (zcp { h with Memory:=zbw h.Memory host c v } i 8 0) _ _ _=_
     rw[zoX 8 0 (fun j h1 h2=>hne' i (j:Int) hi2 (zn.2 (by omega)) (fun h=>hi h.1))]
theorem zoy {h:Host}(S:Safe h){m g:Int}(hm:hasB m (ln h.Mons)=true)(hg:hasB g (ln (ix h.Mons m mZ).Guests)=true){y:Guest}(k:GKeep (gOf h m g) y):SimT h (zjc h m g y) m (fun b=>zdV b g y):=by
 have X:=S.ok.mon hm;have kp:KeepP (ix h.Mons m mZ) { ix h.Mons m mZ with Guests:=up (ix h.Mons m mZ).Guests g y }:=⟨rfl,rfl⟩;refine ⟨ztX S hm kp (zjD X kp (zbA _ _ _) rfl rfl X.outs X.pend X.tr X.own fun z hz=>?_) (zbA _ _ _) (fun j hj=>?_) rfl,fun i=>?_,zbA _ _ _⟩
 .rcases qZ hz with h|h
  .exact X.gs z h
  .rw [h];exact zrb.2 k.ok
 .show (ix (up (ix h.Mons m mZ).Guests g y) j gZ).Live=_
  by_cases e:g=j
  .subst e;rw[zY hg];exact k.live
  .rw [zbk (zn.1 hg).1 (zn.1 hj).1 e]
 .refine (zss (h:=h) (r:=zjc h m g y) hm rfl rfl kp i).trans ?_
  by_cases e:i=m
  .subst e;rw[zbg.2 rfl,cond_true,cond_true];unfold zdV zB;rw[hm];rfl
  .rw [zbE.2 e];rfl
theorem zRx {h:Host}(S:Safe h){m:Int}(hm:hasB m (ln h.Mons)=true){y:Mon}(kp:KeepP (ix h.Mons m mZ) y)(hy:MOk y)(hg:y.Guests=(ix h.Mons m mZ).Guests)(ht:y.Tables=(ix h.Mons m mZ).Tables) :
 SimT h { h with Mons:=up h.Mons m y } m (fun b=>{ b with Outs:=y.Outs,Pending:=y.Pending }):=by
 refine ⟨ztX S hm kp hy (by rw[hg]) (fun j _=>by rw[hg]) ht,fun i=>?_,zbA _ _ _⟩
 refine (zss (h:=h) (r:={ h with Mons:=up h.Mons m y }) hm rfl rfl kp i).trans ?_
 by_cases e:i=m
 .subst e;rw[zbg.2 rfl,cond_true,cond_true];unfold zB;rw[hm,hg];rfl
 .rw [zbE.2 e];rfl
theorem zeC {h:Host}{m:Int}(hm:hasB m (ln h.Mons)=true):zB h m=⟨zcp h m 8 0,(ix h.Mons m mZ).Guests,(ix h.Mons m mZ).Outs,(ix h.Mons m mZ).Pending⟩:=by
 unfold zB;rw[hm];rfl
theorem zYN {h:Host}(S:Safe h){m:Int}(hm:hasB m (ln h.Mons)=true):SimT h (owned h m) m id:=by
 unfold owned;cases hc:ilt (ix h.Mons m mZ).Own 1000000000 with
 | false=>exact SimT.refl S m
 | true =>
  rw[cond_true];have X:=S.ok.mon hm;have ho:=zcr.1 X.own;have hlt:(ix h.Mons m mZ).Own<1000000000:=qE hc;have kp:KeepP (ix h.Mons m mZ) { ix h.Mons m mZ with Own:=zG .i64 (ix h.Mons m mZ).Own 1 }:=⟨rfl,rfl⟩;refine (zRx S hm kp (zjD X kp rfl rfl rfl X.outs X.pend X.tr ?_ X.gs) rfl rfl).congr ?_
  .show win (zG .i64 (ix h.Mons m mZ).Own 1) 0 1000000000=true
   rw[zLM (by omega) (by omega),zcr];omega
  .rw [zeC hm];rfl
theorem zWs {h:Host}(S:Safe h){m:Int}(hm:hasB m (ln h.Mons)=true)(n:Int):SimT h (zjG h m n) m (fun b=>zmY b n):=by
 unfold zjG;have X:=S.ok.mon hm;cases hc:ilt (ln (ix h.Mons m mZ).Outs) 40 with
 | false =>
  refine (SimT.refl S m).congr ?_;rw[zeC hm];unfold zmY;rw[hc];rfl
 | true =>
  rw[cond_true];have hlt:ln (ix h.Mons m mZ).Outs<40:=qE hc;have kp:KeepP (ix h.Mons m mZ) { ix h.Mons m mZ with Outs:=ap (ix h.Mons m mZ).Outs [n] }:=⟨rfl,rfl⟩;refine (zRx S hm kp (zjD X kp rfl rfl rfl ?_ X.pend X.tr X.own X.gs) rfl rfl).congr ?_
  .show (ap (ix h.Mons m mZ).Outs [n]).length<=40
   unfold ln ap at *;simp;omega
  .rw [zeC hm];unfold zmY;rw[hc];rfl
theorem zrD {h:Host}{m g:Int}(hm:hasB m (ln h.Mons)=true)(hg:hasB g (ln (ix h.Mons m mZ).Guests)=true):gAt (zB h m) g=gOf h m g:=by
 rw[zeC hm];unfold gAt
 show (cond (hasB g (ln (ix h.Mons m mZ).Guests)) _ _)=_
 rw[hg];rfl
theorem zLN {x:Guest}(h:zM x=3\/zM x=4\/zM x=5\/zM x=6):(zcb x.Prog x.Pc).Op=zM x:=by
 unfold zM at h ⊢;cases hc:canRun x with
 | false=>simp[hc]at h
 | true =>
  simp only[hc,cond_true]at h ⊢;cases ht:zhA x with
  | true=>simp[ht]at h
  | false =>
   simp only[ht,cond_false]at h ⊢;unfold zvr at h ⊢
   by_cases e3:(zcb x.Prog x.Pc).Op=3
   .rw [e3];rfl
   .rw [zbE.2 e3,cond_false]at h ⊢
    by_cases e4:(zcb x.Prog x.Pc).Op=4
    .rw [e4];rfl
    .rw [zbE.2 e4,cond_false]at h ⊢
     by_cases e5:(zcb x.Prog x.Pc).Op=5
     .rw [e5];rfl
     .rw [zbE.2 e5,cond_false]at h ⊢
      by_cases e6:(zcb x.Prog x.Pc).Op=6
      .rw [e6];rfl
      .rw [zbE.2 e6,cond_false]at h ⊢;cases h7:ieq (zcb x.Prog x.Pc).Op 7<;>simp [h7]at h
theorem z2L {x:Guest}(X:GOk x){w:Int}(hw:zM x=w)(h:w=3\/w=4):0<=address x/\address x<=15:=by
 have e:address x=(zcb x.Prog x.Pc).X:=by
  unfold address;rcases h with e|e
  .rw [hw,e];rfl
  .rw [hw,e];rfl
 rw[e];exact z5w (zFF X.prog _) (by rw[zLN (by omega),hw];exact h)
theorem z2M {a:Int}(h0:0<=a)(h1:a<=15):win (zbb a) 0 3=true/\hasB (zcV a) 4=true :=
 zG1 (n:=16) (P:=fun a=>win (zbb a) 0 3=true/\hasB (zcV a) 4=true) (by decide) h0 (by omega)
theorem zVn {p:Int}(h:win p 0 3=true)(w:Bool):zgr (zpz p w)=true:=by
 unfold zgr zpz;simp[ieq,h]
theorem zXB {n:Int}(h:win n 0 99=true):zgr (zwh n)=true:=by
 unfold zgr zwh;simp[ieq,h]
theorem z0b {n:Int}(h:win n 0 99=true):zgr (zvs n)=true:=by
 unfold zgr zvs;simp[ieq,h]
theorem z0h {x:Guest}(X:GOk x)(t:Int){w:Int}(hw:zM x=w):GKeep x (ziy x t w):=by
 have hi:=zFF X.prog x.Pc;unfold ziy
 by_cases e6:w=6
 .rw [zbg.2 e6];exact zih X (zXB (zcr.2 (zXT hi (by rw[zLN (by omega),hw];omega))))
 .rw [zbE.2 e6,cond_false]
  by_cases e5:w=5
  .rw [zbg.2 e5];cases zgg t 1 with
   | true=>exact zih X (z0b (zcr.2 (zXT hi (by rw[zLN (by omega),hw];omega))))
   | false=>rw[e5];exact zif X
  .rw [zbE.2 e5];rw[Bool.false_and,cond_false];cases hc:(ieq w 7&&zgg t 2) with
   | true=>exact zih X rfl
   | false =>
    rw[cond_false];cases ieq w 7
    .exact zif X
    .exact zT2 X
theorem zUc {α:Type}(g:Int):hasB g (ln ([]:List α))=false:=by
 cases h:hasB g (ln ([]:List α)) with
 | false=>rfl
 | true=>have:=zn.1 h;simp[ln] at this;omega
theorem zZx {m:List (List Int)}(h:∀c∈m,zb5 c=true)(p c:Int):win (cellAt m p c) 0 99=true:=by
 unfold cellAt zg3;cases hp:hasB p (ln m) with
 | false=>rfl
 | true =>
  rw[cond_true];cases hc:hasB c (ln (ix m p [])) with
  | false=>rfl
  | true =>
   rw[cond_true];exact (zqP.1 (h _ (zkp hp []))).1 _ (zkp hc 0)
theorem HOk.seenG {h:Host}(H:HOk h){m g:Int}(hm:hasB m (ln h.Mons)=true)(hg:hasB g (ln (ix h.Mons m mZ).Guests)=true):GOk (gOf h m g):=H.guest hm hg
theorem zRJ {h:Host}(S:Safe h){m g:Int}(hm:hasB m (ln h.Mons)=true)(hg:hasB g (ln (ix h.Mons m mZ).Guests)=true)(w:Bool)(hw:zM (gOf h m g)=bif w then 4 else 3) :
 SimT h (zgD (zly h m g (gOf h m g) w) m g (gOf h m g) w) m (fun b=>zmp b g (gOf h m g) w):=by
 have X:=S.ok.seenG hm hg;have ha:=z2L X hw (by cases w<;>simp)
 have hap:=z2M ha.1 ha.2;have hn:zbZ w=1\/zbZ w=2:=by cases w<;>simp [zbZ]
 unfold zgD zly;cases hl:zbP h m g (zbb (address (gOf h m g))) (zbZ w) with
 | false =>
  have e:lookOf h h.Buffer m g (zbb (address (gOf h m g))) (zbZ w) false=(h,-1,false):=by unfold lookOf;rw[hl];rfl
  have hw2:zeT (gOf h m g).Live (zbb (address (gOf h m g))) (zbZ w)=false:=by
   cases hc:zeT (gOf h m g).Live (zbb (address (gOf h m g))) (zbZ w) with
   | false=>rfl
   | true=>exact Bool.noConfusion (hl.symm.trans (zoR.2 ⟨ziC.2 ⟨S.ok,hm,hg⟩,hn,hc⟩))
  rw[e];refine (zoy S hm hg (zih X (zVn hap.1 w))).congr ?_;unfold zmp;rw[hw2];rfl
 | true =>
  obtain ⟨L,hL⟩:=zzV S false hl S.rt.e1;obtain ⟨_,_,hwk⟩:=zoR.1 hl;have hwk':zeT (gOf h m g).Live (zbb (address (gOf h m g))) (zbZ w)=true:=hwk;have W:=walked X hwk;rw[hL,cond_true];have S1:=L.op.safe S;have hm1:hasB m (ln (lookOf h h.Buffer m g (zbb (address (gOf h m g))) (zbZ w) false).1.Mons)=true:=by rw[L.op.like.has];exact hm
  have hgs:=L.op.like.g m hm;have q8:hasB (zcm (zcz h m g) (zbb (address (gOf h m g))) (zbZ w)) 8=true:=W.q8;obtain ⟨k1,k2⟩:=ztY S1 hm1 q8 L.inn L.ne (zcV (address (gOf h m g))) (gOf h m g).A;rw[L.op.like.seen m] at k2;cases w with
  | true =>
   rw[cond_true];have k0:=L.op.sim S m;have hmm:hasB m (ln ({ (lookOf h h.Buffer m g (zbb (address (gOf h m g))) (zbZ true) false).1 with Memory:=zbw (lookOf h h.Buffer m g (zbb (address (gOf h m g))) (zbZ true) false).1.Memory (lookOf h h.Buffer m g (zbb (address (gOf h m g))) (zbZ true) false).2.1 (zcV (address (gOf h m g))) (gOf h m g).A }:Host).Mons)=true:=hm1;have hgg:hasB g (ln (ix ({ (lookOf h h.Buffer m g (zbb (address (gOf h m g))) (zbZ true) false).1 with Memory:=zbw (lookOf h h.Buffer m g (zbb (address (gOf h m g))) (zbZ true) false).1.Memory (lookOf h h.Buffer m g (zbb (address (gOf h m g))) (zbZ true) false).2.1 (zcV (address (gOf h m g))) (gOf h m g).A }:Host).Mons m mZ).Guests)=true:=by
    show hasB g (ln (ix (lookOf h h.Buffer m g (zbb (address (gOf h m g))) (zbZ true) false).1.Mons m mZ).Guests)=true
    rw[hgs];exact hg
   have kk:GKeep (gOf { (lookOf h h.Buffer m g (zbb (address (gOf h m g))) (zbZ true) false).1 with Memory:=zbw (lookOf h h.Buffer m g (zbb (address (gOf h m g))) (zbZ true) false).1.Memory (lookOf h h.Buffer m g (zbb (address (gOf h m g))) (zbZ true) false).2.1 (zcV (address (gOf h m g))) (gOf h m g).A } m g) (zbY (gOf h m g)):=by
    have:gOf { (lookOf h h.Buffer m g (zbb (address (gOf h m g))) (zbZ true) false).1 with Memory:=zbw (lookOf h h.Buffer m g (zbb (address (gOf h m g))) (zbZ true) false).1.Memory (lookOf h h.Buffer m g (zbb (address (gOf h m g))) (zbZ true) false).2.1 (zcV (address (gOf h m g))) (gOf h m g).A } m g=gOf h m g:=by
     show ix (ix (lookOf h h.Buffer m g (zbb (address (gOf h m g))) (zbZ true) false).1.Mons m mZ).Guests g gZ=_
     rw[hgs];rfl
    rw[this];exact zif X
   refine ((k0.trans k1).trans (zoy k1.safe hmm hgg kk)).congr ?_;unfold zmp;rw[hwk'];rfl
  | false =>
   rw[cond_false];have k0:=L.op.sim S m;have hgg:hasB g (ln (ix (lookOf h h.Buffer m g (zbb (address (gOf h m g))) (zbZ false) false).1.Mons m mZ).Guests)=true:=by rw[hgs];exact hg
   have kk:GKeep (gOf (lookOf h h.Buffer m g (zbb (address (gOf h m g))) (zbZ false) false).1 m g) (loaded (gOf h m g) (cellAt (lookOf h h.Buffer m g (zbb (address (gOf h m g))) (zbZ false) false).1.Memory (lookOf h h.Buffer m g (zbb (address (gOf h m g))) (zbZ false) false).2.1 (zcV (address (gOf h m g))))):=by
    have:gOf (lookOf h h.Buffer m g (zbb (address (gOf h m g))) (zbZ false) false).1 m g=gOf h m g:=by
     show ix (ix (lookOf h h.Buffer m g (zbb (address (gOf h m g))) (zbZ false) false).1.Mons m mZ).Guests g gZ=_
     rw[hgs];rfl
    rw[this];exact zXK X (zZx S1.ok.pgs _ _)
   refine (k0.trans (zoy S1 hm1 hgg kk)).congr ?_;unfold zmp;rw[hwk',k2];rfl
theorem z0g {h r:Host}{m g:Int}(e:(ix r.Mons m mZ).Guests=(ix h.Mons m mZ).Guests):gOf r m g=gOf h m g:=by unfold gOf;rw[e]
theorem z4q (h:Host)(m:Int)(hm:hasB m (ln h.Mons)=true):(ix (owned h m).Mons m mZ).Guests=(ix h.Mons m mZ).Guests:=by
 unfold owned;cases ilt (ix h.Mons m mZ).Own 1000000000 with
 | false=>rfl
 | true=>show (ix (up h.Mons m _) m mZ).Guests=_;rw[zY hm]
theorem z0B (h:Host)(m n:Int)(hm:hasB m (ln h.Mons)=true):(ix (zjG h m n).Mons m mZ).Guests=(ix h.Mons m mZ).Guests:=by
 unfold zjG;cases ilt (ln (ix h.Mons m mZ).Outs) 40 with
 | false=>rfl
 | true=>show (ix (up h.Mons m _) m mZ).Guests=_;rw[zY hm]
theorem zYP {h:Host}(S:Safe h){m:Int}(hm:hasB m (ln h.Mons)=true)(x:Guest)(w:Int):SimT h (zew h m x w) m id/\(ix (zew h m x w).Mons m mZ).Guests=(ix h.Mons m mZ).Guests:=by
 unfold zew;cases (cond (ine w 6) (ieq (zuj (ix h.Mons m mZ).Traps x.Ctl.Traps (zsx w)) 2) false) with
 | false=>exact ⟨SimT.refl S m,rfl⟩
 | true=>exact ⟨zYN S hm,z4q h m hm⟩
theorem zYO {h:Host}(S:Safe h){m:Int}(hm:hasB m (ln h.Mons)=true)(x:Guest)(w:Int):SimT h (zfq h m x w) m (fun b=>bif (cond (ziz x.Ctl.Traps w) (ieq w 5) false) then zmY b (zcb x.Prog x.Pc).X else b)/\(ix (zfq h m x w).Mons m mZ).Guests=(ix h.Mons m mZ).Guests:=by
 unfold zfq;cases (cond (ziz x.Ctl.Traps w) (ieq w 5) false) with
 | false=>exact ⟨SimT.refl S m,rfl⟩
 | true=>exact ⟨zWs S hm _,z0B h m _ hm⟩
theorem zA0 {h:Host}(S:Safe h){m g:Int}(hm:hasB m (ln h.Mons)=true)(hg:hasB g (ln (ix h.Mons m mZ).Guests)=true){w:Int}(hw:zM (gOf h m g)=w) :
 SimT h (zpr h m g (gOf h m g) w) m (fun b=>zBN b g (gOf h m g) w):=by
 have X:=S.ok.seenG hm hg;obtain ⟨k0,e0⟩:=zYP S hm (gOf h m g) w;have hm0:hasB m (ln (zew h m (gOf h m g) w).Mons)=true:=by rw[k0.has];exact hm
 obtain ⟨k1,e1⟩:=zYO k0.safe hm0 (gOf h m g) w;have hm1:hasB m (ln (zfq (zew h m (gOf h m g) w) m (gOf h m g) w).Mons)=true:=by rw[k1.has];exact hm0
 have hg1:hasB g (ln (ix (zfq (zew h m (gOf h m g) w) m (gOf h m g) w).Mons m mZ).Guests)=true:=by rw[e1,e0];exact hg
 have kk:GKeep (gOf (zfq (zew h m (gOf h m g) w) m (gOf h m g) w) m g) (ziy (gOf h m g) (gOf h m g).Ctl.Traps w):=by
  rw[z0g (e1.trans e0)];exact z0h X _ hw
 exact ((k0.trans k1).trans (zoy k1.safe hm1 hg1 kk)).congr rfl
theorem zWH (x:Guest):zM x=0\/zM x=1\/zM x=2\/zM x=3\/zM x=4\/zM x=5\/zM x=6\/zM x=7:=by
 unfold zM zvr;cases canRun x<;>cases zhA x<;>cases ieq (zcb x.Prog x.Pc).Op 3<;>cases ieq (zcb x.Prog x.Pc).Op 4<;>cases ieq (zcb x.Prog x.Pc).Op 5<;>cases ieq (zcb x.Prog x.Pc).Op 6<;>cases ieq (zcb x.Prog x.Pc).Op 7<;>simp
theorem zPf {h:Host}(H:HOk h)(m g:Int):zkd (zB h m) g=bif zbH h m g then !ieq (zM (gOf h m g)) 0 else false:=by
 unfold zkd zbH;rw[zhJ.2 H,cond_true];cases hm:hasB m (ln h.Mons) with
 | false =>
  have:(zB h m).Guests=[]:=by unfold zB;rw[hm];rfl
  rw[this,zUc];rfl
 | true =>
  rw[cond_true,zv5 H hm,cond_true];have:(zB h m).Guests=(ix h.Mons m mZ).Guests:=by rw[zeC hm]
  rw[this];cases hg:hasB g (ln (ix h.Mons m mZ).Guests) with
  | false=>rfl
  | true=>rw[cond_true,cond_true,zrD hm hg]
theorem step_ok {h:Host}(S:Safe h)(m g:Int):SimT h (zbn h m g).1 m (fun b=>zhi b g)/\(zbn h m g).2=zkd (zB h m) g:=by
 have hc:=zPf S.ok m g;unfold zbn;cases hh:zbH h m g with
 | false =>
  rw[hh,cond_false]at hc;refine ⟨(SimT.refl S m).congr ?_,hc.symm⟩;unfold zhi;rw[hc];rfl
 | true =>
  rw[hh,cond_true]at hc;rw[cond_true];obtain ⟨_,hm,hg⟩:=ziC.1 hh;have X:=S.ok.seenG hm hg;have hgs:=zrD hm hg;have hf:∀w,zM (gOf h m g)=w->w≠0->zhi (zB h m) g=stepped (zB h m) g (gOf h m g) w:=by
   intro w hw h0;unfold zhi;rw[hc,hw,zbE.2 h0,hgs,hw];rfl
  rcases zWH (gOf h m g) with e|e|e|e|e|e|e|e
  .rw [e];rw[e]at hc;refine ⟨(SimT.refl S m).congr ?_,hc.symm⟩;unfold zhi;rw[hc];rfl
  .rw [e]at hc ⊢;exact ⟨(zoy S hm hg (zJA X)).congr (hf 1 e (by decide)).symm,hc.symm⟩
  .rw [e]at hc ⊢;exact ⟨(zoy S hm hg (zVy X)).congr (hf 2 e (by decide)).symm,hc.symm⟩
  .rw [e]at hc ⊢;exact ⟨(zRJ S hm hg false e).congr (hf 3 e (by decide)).symm,hc.symm⟩
  .rw [e]at hc ⊢;exact ⟨(zRJ S hm hg true e).congr (hf 4 e (by decide)).symm,hc.symm⟩
  .rw [e]at hc ⊢;exact ⟨(zA0 S hm hg e).congr (hf 5 e (by decide)).symm,hc.symm⟩
  .rw [e]at hc ⊢;exact ⟨(zA0 S hm hg e).congr (hf 6 e (by decide)).symm,hc.symm⟩
  .rw [e]at hc ⊢;exact ⟨(zA0 S hm hg e).congr (hf 7 e (by decide)).symm,hc.symm⟩
structure BackOk (b c:Bare):Prop where
 m:c.Memory=b.Memory
 o:c.Outs=b.Outs
 n:c.Guests.length=b.Guests.length
 g:∀j,hasB j (ln b.Guests)=true->GKeep (ix b.Guests j gZ) (ix c.Guests j gZ)
 p:zcO b.Pending=true->zcO c.Pending=true
theorem z0X {h:Host}(S:Safe h){m:Int}(hm:hasB m (ln h.Mons)=true){c:Bare}(k:BackOk (zB h m) c):SimT h (zcQ h m c) m (fun _=>c):=by
 have X:=S.ok.mon hm;have hf:=zeC hm;have hG:(zB h m).Guests=(ix h.Mons m mZ).Guests:=by rw[hf]
 have hn:c.Guests.length=(ix h.Mons m mZ).Guests.length:=by rw[k.n,hG]
 have hg:∀j,hasB j (ln (ix h.Mons m mZ).Guests)=true->GKeep (ix (ix h.Mons m mZ).Guests j gZ) (ix c.Guests j gZ):=fun j hj=>by
  have:=k.g j (by rw[hG];exact hj)
  rwa [hG] at this
 have kp:KeepP (ix h.Mons m mZ) (zsP (ix h.Mons m mZ) c):=⟨rfl,rfl⟩;have hp:zcO c.Pending=true:=k.p (by rw[hf];exact X.pend)
 refine ⟨ztX S hm kp (zjD X kp hn rfl rfl X.outs hp X.tr X.own fun z hz=>?_) hn (fun j hj=>(hg j hj).live) rfl,fun i=>?_,zbA _ _ _⟩
 .obtain ⟨j,hj,rfl⟩:=zvp hz gZ;exact zrb.2 (hg j (by unfold ln at hj ⊢;rw[<- hn];exact hj)).ok
 .refine (zss (h:=h) (r:=zcQ h m c) hm rfl rfl kp i).trans ?_
  by_cases e:i=m
  .subst e;rw[zbg.2 rfl,cond_true,cond_true]
   show Bare.mk (zB h i).Memory c.Guests (ix h.Mons i mZ).Outs c.Pending=c
   have h1:=k.m;have h2:=k.o;rw[hf]at h2;cases c
   simp_all
  .rw [zbE.2 e];rfl
theorem seen_none {h:Host}{m:Int}(hm:hasB m (ln h.Mons)=false):zB h m=⟨[],[],[],0⟩:=by unfold zB;rw[hm];rfl
theorem zrh:zbW ⟨[],[],[],0⟩=false:=by decide
theorem zro {b:Bare}(h:zbW b=false)(g:Int):zb1 b g=false:=by unfold zb1;rw[h];rfl
theorem zgU {b:Bare}(h:zbW b=true):BackOk b b:=⟨rfl,rfl,rfl,fun j hj=>⟨zrb.1 (by
 unfold zbW at h;rw[zbV,qJ]at h;exact h.1 _ (zkp hj _)),rfl⟩,id⟩
theorem zWS {b:Bare}(h:zbW b=true){g:Int}(hg:hasB g (ln b.Guests)=true){y:Guest}(k:GKeep (gAt b g) y):BackOk b (zdV b g y):=by
 have e:gAt b g=ix b.Guests g gZ:=by unfold gAt;rw[hg];rfl
 refine ⟨rfl,rfl,zbA _ _ _,fun j hj=>?_,id⟩
 show GKeep _ (ix (up b.Guests g y) j gZ)
 by_cases hc:g=j
 .subst hc;rw[zY hg,<- e];exact k
 .rw [zbk (zn.1 hg).1 (zn.1 hj).1 hc];exact (zgU h).g j hj
theorem zpu {b:Bare}(h:zbW b=true){g:Int}{c:Bool}{y:Guest}(k:hasB g (ln b.Guests)=true->c=true->GOk (gAt b g)->GKeep (gAt b g) y):BackOk b (chg b g c y):=by
 unfold chg zb1;rw[h,cond_true];cases hg:hasB g (ln b.Guests) with
 | false=>exact zgU h
 | true =>
  rw[cond_true];cases c with
  | false=>exact zgU h
  | true =>
   refine zWS h hg (k hg rfl ?_);have:=(zgU h).g g hg;unfold gAt;rw[hg];exact this.ok
theorem zof {h:Host}(S:Safe h)(m:Int){F:Bare->Bare}(hF:∀b,zbW b=true->BackOk b (F b))(h0:F ⟨[],[],[],0⟩=⟨[],[],[],0⟩):SimT h (zdS h m (F (zB h m))) m F:=by
 unfold zdS zcl;rw[zhJ.2 S.ok,cond_true];cases hm:hasB m (ln h.Mons) with
 | false =>
  refine (SimT.refl S m).congr ?_;rw[seen_none hm];exact h0.symm
 | true=>exact (z0X S hm (hF _ (zv5 S.ok hm))).congr rfl
theorem zjN {h:Host}(S:Safe h)(m:Int){t:Bare->Bool}(h0:t ⟨[],[],[],0⟩=false):zdE h m (t (zB h m))=t (zB h m):=by
 unfold zdE zcl;rw[zhJ.2 S.ok,cond_true];cases hm:hasB m (ln h.Mons) with
 | false=>rw[cond_false,seen_none hm,h0]
 | true=>rfl
theorem znS (g:Int)(c:Bool)(y:Guest):chg ⟨[],[],[],0⟩ g c y=⟨[],[],[],0⟩:=by unfold chg;rw[zro zrh];rfl
theorem zib (g:Int)(c:Bool):zbK ⟨[],[],[],0⟩ g c=false:=by unfold zbK;rw[zro zrh];rfl
theorem zRL {t:List Slot}{n q:Int}(h:zco t n q=true){p:Int}{s:Slot}(hs:zc6 s q=true):zco (zdK t p s) n q=true:=by
 unfold zdK;cases hasB p (ln t) with
 | false=>exact h
 | true =>
  rw[cond_true];rw[zlu]at h ⊢;rw[zdh];refine ⟨fun x hx=>?_,h.2⟩;rcases qZ hx with h1|h1
  .exact h.1 x h1
  .rw [h1];exact hs
theorem z3M {x:Guest}(X:GOk x){p:Int}{s:Slot}(h:zqr p s=true):GKeep x (zxj x p s):=by
 unfold zqr at h;rw[zbV]at h;exact ⟨⟨X.prog,X.a,X.pc,zRL X.w h.2,X.l,X.ctl,X.pend,X.ex,X.seen⟩,rfl⟩
theorem z3J {x:Guest}(X:GOk x){v:Int}(h:zpZ x v=true):GKeep x (zt6 x v):=by
 unfold zpZ at h;rw[zbV]at h;unfold zt6;cases ieq x.Exit.Kind 2 with
 | true =>
  rw[cond_true];have h1:=zih (zVw X h.1) (e:=zjF) rfl;have h2:=zif h1.ok;exact ⟨h2.ok,h2.live⟩
 | false =>
  rw[cond_false];have h1:=zih X (e:=zjF) rfl;have h2:=zif h1.ok;exact ⟨h2.ok,h2.live.trans h1.live⟩
theorem z3L {x:Guest}(X:GOk x):GKeep x (zup x):=by
 unfold zup;have h1:=zih X (e:=zjF) rfl;cases ieq x.Exit.Kind 1 with
 | true=>exact h1
 | false =>
  have h2:=zT2 h1.ok;exact ⟨h2.ok,h2.live.trans h1.live⟩
theorem zT3 {x:Guest}(X:GOk x)(n:Int):GKeep x (zlO x n):=zT4 X (zMS X.pend n)
theorem z3K {x:Guest}(X:GOk x){c:Ctl}(h:zgF c=true):GKeep x (zEq x c):=⟨⟨X.prog,X.a,X.pc,X.w,X.l,h,X.pend,X.ex,X.seen⟩,rfl⟩
theorem zza (n:Int):∀(ks:List Int) (b:Bare) (l:List Guest),(∀k∈ks,hasB k (ln b.Guests)=true)->BackOk b { b with Guests:=l }->BackOk b { b with Guests:=zkv n ks l }
 | [],b,l,_,h=>h
 | k :: ks,b,l,hk,h=>by
  show BackOk b { b with Guests:=zkv n ks (zBF n l k) }
  refine zza n ks b _ (fun j hj=>hk j (qU _ hj)) ⟨h.m,h.o,by show (up l k _).length=_;rw[zbA];exact h.n,fun j hj=>?_,h.p⟩
  show GKeep _ (ix (up l k _) j gZ)
  have hl:l.length=b.Guests.length:=h.n;have hkl:hasB k (ln l)=true:=by unfold ln;rw[hl];exact hk k jD
  by_cases e:k=j
  .subst e;rw[zY hkl];have h1:=h.g k hj;have h2:=zT3 h1.ok n;exact ⟨h2.ok,h2.live.trans h1.live⟩
  .rw [zbk (zn.1 hkl).1 (zn.1 hj).1 e];exact h.g j hj
theorem zUT {b:Bare}(h:zbW b=true)(n:Int):BackOk b (ziq b n):=by
 unfold ziq zeu zBG;rw[h,cond_true];cases hasB n 8 with
 | false=>exact zgU h
 | true =>
  rw[cond_true];cases ieq (ln (zdH b.Guests n)) 0 with
  | true =>
   have:=zgU h;exact ⟨rfl,rfl,rfl,this.g,fun hp=>zMS hp n⟩
  | false =>
   rw[cond_false];refine zza n _ b b.Guests (fun k hk=>?_) (zgU h);unfold zdH at hk;obtain ⟨j,hj,rfl,_⟩:=(zFe (d:=gZ)).1 hk;exact zn.2 ⟨by omega,by unfold ln;omega⟩
theorem zWR {b:Bare}(h:zbW b=true):BackOk b (zkT b):=by
 unfold zkT;rw[h,cond_true];exact ⟨rfl,rfl,rfl,(zgU h).g,fun hp=>zMT hp⟩
theorem z0K {h:Host}(S:Safe h)(m p c v:Int):SimT h (zii h m p c v) m (fun b=>zOL b p c v)/\zeh h m p c v=zvt (zB h m) p c v:=by
 have e:zeh h m p c v=zvt (zB h m) p c v:=by
  unfold zeh zvt zbJ z2z;rw[zhJ.2 S.ok,cond_true];cases hm:hasB m (ln h.Mons) with
  | false=>rw[seen_none hm,zrh];rfl
  | true=>rw[zv5 S.ok hm,cond_true];rfl
 refine ⟨?_,e⟩;unfold zii;cases hc:zeh h m p c v with
 | false =>
  refine (SimT.refl S m).congr ?_;unfold zOL;rw[<- e,hc];rfl
 | true =>
  rw[cond_true];have hc':=hc;unfold zeh at hc';rw[zbV,zbV]at hc';obtain ⟨h1,_,_⟩:=hc';obtain ⟨_,hm,hp⟩:=zjK.1 h1;have M:=zMM S.ok (m:=m) (p:=p) 2 hm hp;have k0:=M.op.sim S m;have hm1:hasB m (ln (mended h m p 2).Mons)=true:=by rw[k0.has];exact hm
  obtain ⟨k1,_⟩:=ztY k0.safe hm1 hp rfl M.inn c v;refine (k0.trans k1).congr ?_;unfold zOL;rw[<- e,hc];rfl
theorem zX8 {h:Host}(S:Safe h)(m g page need:Int):zbP h m g page need=(cond (zb1 (zB h m) g) (cond (ziF need) (zeT (gAt (zB h m) g).Live page need) false) false):=by
 have e:zbH h m g=zb1 (zB h m) g:=by
  unfold zbH zb1;rw[zhJ.2 S.ok,cond_true];cases hm:hasB m (ln h.Mons) with
  | false=>rw[seen_none hm,zrh,cond_false,cond_false]
  | true =>
   rw[cond_true,zv5 S.ok hm,cond_true];have:(zB h m).Guests=(ix h.Mons m mZ).Guests:=by rw[zeC hm]
   rw[this]
 unfold zbP;rw[<- e];cases hg:zbH h m g with
 | false=>rw[cond_false,cond_false]
 | true =>
  obtain ⟨_,hm,hg⟩:=ziC.1 hg;have:(gAt (zB h m) g).Live=zcz h m g:=by rw[zrD hm hg];rfl
  rw[this]
theorem zEB {h:Host}(S:Safe h)(m g a n:Int)(hn:n=1\/n=2):zmE (zB h m) g a n=bif win a 0 15 then zbP h m g (zbb a) n else false:=by
 rw[zX8 S];unfold zmE;rw[zDx.2 hn,cond_true];cases zb1 (zB h m) g<;>cases win a 0 15<;>rfl
theorem zPy {h:Host}(S:Safe h){m g a n:Int}(hn:n=1\/n=2)(hd:zmE (zB h m) g a n=true) :
 Looked h (zzO h m g a n).1 m g (zbb a) n (zBl (zB h m) g a n) (zzO h m g a n).2.1/\hasB m (ln h.Mons)=true/\hasB (zBl (zB h m) g a n) 8=true:=by
 rw[zEB S m g a n hn,zbV]at hd;obtain ⟨L,_⟩:=zzV S true hd.2 S.rt.e2;obtain ⟨h1,_,hw⟩:=zoR.1 hd.2;obtain ⟨_,hm,hg⟩:=ziC.1 h1;have e:zBl (zB h m) g a n=zcm (zcz h m g) (zbb a) n:=by
  unfold zBl;rw[zrD hm hg];rfl
 rw[e];exact ⟨L,hm,(walked (S.ok.guest hm hg) hw).q8⟩
theorem z5t {h:Host}(S:Safe h)(m g a v:Int):SimT h (zkj h m g a v) m (fun b=>zVj b g a v)/\zfu h m g a v=zwp (zB h m) g a v:=by
 have e:zfu h m g a v=zwp (zB h m) g a v:=by
  unfold zfu zwp;rw[zEB S m g a 2 (.inr rfl)];cases win a 0 15<;>cases win v 0 99<;>cases zbP h m g (zbb a) 2<;>rfl
 refine ⟨?_,e⟩;unfold zkj;cases hc:zfu h m g a v with
 | false =>
  refine (SimT.refl S m).congr ?_;unfold zVj;rw[<- e,hc];rfl
 | true =>
  rw[cond_true];have hd:zmE (zB h m) g a 2=true:=by
   have:=e.symm.trans hc;unfold zwp at this;exact (zbV.1 this).1
  obtain ⟨L,hm,hq⟩:=zPy S (.inr rfl) hd;have k0:=L.op.sim S m;obtain ⟨k1,_⟩:=ztY k0.safe (by rw[k0.has];exact hm) hq L.inn L.ne (zcV a) v
  refine (k0.trans k1).congr ?_;unfold zVj;rw[<- e,hc];rfl
theorem z4t {h:Host}(S:Safe h)(m g a:Int):SimT h (zij h m g a) m id/\zeF h m g a=zmE (zB h m) g a 1/\zpG h m g a=zOP (zB h m) g a:=by
 have e:zeF h m g a=zmE (zB h m) g a 1:=by
  unfold zeF;rw[zEB S m g a 1 (.inl rfl)]
 unfold zij zpG zOP;rw[e];cases hd:zmE (zB h m) g a 1 with
 | false=>exact ⟨SimT.refl S m,rfl,rfl⟩
 | true =>
  obtain ⟨L,hm,hq⟩:=zPy S (.inl rfl) hd;have k0:=L.op.sim S m;obtain ⟨_,k2⟩:=ztY k0.safe (by rw[k0.has];exact hm) hq L.inn L.ne (zcV a) 0
  rw[L.op.like.seen m] at k2;exact ⟨k0,rfl,k2⟩
theorem zXV {k:Kept}{inner outer:List Slot}(h:KOk k inner outer)(p:Int)(s:Slot):KOk (zbG k p) (zdK inner p s) outer:=by
 have hl:=zjv k p;have hw:(zdK inner p s).length=inner.length:=by unfold zdK;cases hasB p (ln inner)<;>simp [zbA]
 refine ⟨by rw[hl.1,hw,h.l1],by rw[hl.2,hw,h.l2],fun i hi=>?_⟩
 have hi1:hasB i (ln inner)=true:=by unfold ln at hi ⊢;rwa [<- hw]
 have hi':hasB i (ln k.Known)=true:=by unfold ln at hi1 ⊢;rwa [h.l1]
 have ha:=zue (q:=p) (by rw[h.l1,h.l2]) hi'
 rw[ha.1,ha.2]
 by_cases e:p=i
 .subst e;rw[zbg.2 rfl];rfl
 .rw [zbE.2 e,cond_false,cond_false,h.at' i hi1];have:ix (zdK inner p s) i sZ=ix inner i sZ:=by
   unfold zdK;cases hp:hasB p (ln inner) with
   | false=>rfl
   | true=>exact zbk (zn.1 hp).1 (zn.1 hi1).1 e _ _
  rw[this]
theorem z5J {t m g:Int}(h1:zcg t=m)(h2:zc4 t=g)(hm:0<=m):t=zel m g:=by
 subst h1;subst h2
 by_cases h:1<=t/\t<=6
 .have e:t=1\/t=2\/t=3\/t=4\/t=5\/t=6:=by omega
  rcases e with rfl|rfl|rfl|rfl|rfl|rfl<;>decide
 .exfalso;have:zcg t = -1:=by
   unfold zcg ige ile;rw[show (decide (t≥1)&&decide (t<=6))=false by simp;omega];rfl
  omega
theorem zTv {t:List Slot}{p q:Int}{s:Slot}(h:q≠p):zbf (zdK t p s) q=zbf t q:=by
 unfold zdK;cases hp:hasB p (ln t) with
 | false=>rfl
 | true=>exact zM3 (zn.1 hp).1 h
theorem z0Y {t:List Slot}(h:zco t 4 8=true)(p:Int):zc6 (zbf t p) 8=true:=by
 unfold zbf;cases hp:hasB p (ln t) with
 | false=>rfl
 | true=>exact (zlu.1 h).1 _ (zkp hp _)
theorem zXJ {x:Guest}(X:GOk x)(p:Int):GOk (zdq x p):=⟨X.prog,X.a,X.pc,X.w,zRL X.l (z0Y X.w p),X.ctl,X.pend,X.ex,X.seen⟩
theorem z0e {h:Host}(S:Safe h)(m g p:Int):SimT h (zgX h m g p) m (fun b=>chg b g (hasB p 4) (zdq (gAt b g) p))/\zdE h m (zbK (zB h m) g (hasB p 4))=zbK (zB h m) g (hasB p 4):=by
 refine ⟨?_,zjN S m (t:=fun b=>zbK b g (hasB p 4)) (zib g _)⟩;unfold zgX zcl;rw[zhJ.2 S.ok,cond_true];cases hm:hasB m (ln h.Mons) with
 | false =>
  refine (SimT.refl S m).congr ?_;rw[seen_none hm,znS];rfl
 | true =>
  rw[cond_true];cases hc:zbK (zB h m) g (hasB p 4) with
  | false =>
   refine (SimT.refl S m).congr ?_
   show zB h m=chg (zB h m) g (hasB p 4) (zdq (gAt (zB h m) g) p)
   have hc':=hc;unfold zbK at hc';unfold chg;rw[hc'];rfl
  | true =>
   rw[cond_true];have hc':=hc;unfold zbK zb1 at hc';rw[zv5 S.ok hm,cond_true,zbV,zeC hm]at hc';have hg:hasB g (ln (ix h.Mons m mZ).Guests)=true:=hc'.1;have X:=S.ok.mon hm;have G:=S.ok.seenG hm hg;have e1:chg (zB h m) g (hasB p 4) (zdq (gAt (zB h m) g) p)=zdV (zB h m) g (zdq (gOf h m g) p):=by
    have h1:=hc;unfold zbK at h1;unfold chg;rw[h1,zrD hm hg];rfl
   rw[e1];have htg:hasB g (ln (ix h.Mons m mZ).Tables)=true:=by unfold ln;rw[X.gt];exact hg
   have hM:(zzn (zcQ h m (zdV (zB h m) g (zdq (gOf h m g) p))) m g p).Mons=up h.Mons m { ix h.Mons m mZ with Guests:=up (ix h.Mons m mZ).Guests g (zdq (gOf h m g) p),Tables:=up (ix h.Mons m mZ).Tables g (zbG (ix (ix h.Mons m mZ).Tables g kZ) p) }:=by
    show up (up h.Mons m _) m _=_
    rw[zZc];have e2:ix (zcQ h m (zdV (zB h m) g (zdq (gOf h m g) p))).Mons m mZ=zsP (ix h.Mons m mZ) (zdV (zB h m) g (zdq (gOf h m g) p)):=zY hm _ _;rw[e2];unfold zsP zdV;rw[zeC hm]
   have kp:KeepP (ix h.Mons m mZ) { ix h.Mons m mZ with Guests:=up (ix h.Mons m mZ).Guests g (zdq (gOf h m g) p),Tables:=up (ix h.Mons m mZ).Tables g (zbG (ix (ix h.Mons m mZ).Tables g kZ) p) }:=⟨rfl,rfl⟩;have hy:MOk { ix h.Mons m mZ with Guests:=up (ix h.Mons m mZ).Guests g (zdq (gOf h m g) p),Tables:=up (ix h.Mons m mZ).Tables g (zbG (ix (ix h.Mons m mZ).Tables g kZ) p) }:=zjD X kp (zbA _ _ _) (zbA _ _ _) rfl X.outs X.pend X.tr X.own fun z hz=>by
    rcases qZ hz with h|h
    .exact X.gs z h
    .rw [h];exact zrb.2 (zXJ G p)
   have hH:HOk (zzn (zcQ h m (zdV (zB h m) g (zdq (gOf h m g) p))) m g p):=S.ok.up hm hy hM S.ok.m12 S.ok.pgs (zwg S.ok.b1 _) (zwg S.ok.b2 _) fun q _=>.inl (qX _);have key:∀b:List Entry,(∀e∈b,zb0 h e=true)->∀e∈zce b (zel m g) p,zb0 (zzn (zcQ h m (zdV (zB h m) g (zdq (gOf h m g) p))) m g p) e=true:=by
    intro b hb e he;obtain ⟨he1,he2⟩:=zwu.1 he;obtain ⟨h1,h2,h3⟩:=zes.1 (hb e he1);rw[zes,hM,zdh];refine ⟨h1,?_⟩
    by_cases hcm:m=zcg e.Tag
    .rw [<- hcm]at h1 h2 h3 ⊢;rw[zY hm]
     show hasB (zc4 e.Tag) (ln (up _ _ _))=true/\below' _ (zW (zbf (ix (up (ix h.Mons m mZ).Guests g _) (zc4 e.Tag) gZ).Live e.Page) (ix h.Mons m mZ).Outer)=true
     rw[zdh];refine ⟨h2,?_⟩
     by_cases hcg:g=zc4 e.Tag
     .rw [<- hcg]at h2 h3 ⊢;rw[zY hg];have hne:e.Page≠p:=fun hp=>he2 ⟨z5J hcm.symm hcg.symm (zn.1 hm).1,hp⟩
      show below' _ (zW (zbf (zdK (gOf h m g).Live p _) e.Page) _)=true
      rw[zTv hne];exact h3
     .rw [zbk (zn.1 hg).1 (zn.1 h2).1 hcg];exact h3
    .rw [zbk (zn.1 hm).1 (zn.1 h1).1 hcm];exact ⟨h2,h3⟩
   refine ⟨⟨hH,⟨fun i hi=>?_,key _ S.rt.e1,key _ S.rt.e2⟩⟩,fun i=>?_,by rw[hM,zbA]⟩
   .rw [hM]at hi ⊢;rw[zdh]at hi
    by_cases hcm:m=i
    .subst hcm;rw[zY hm];intro j hj
     show KOk (ix (up (ix h.Mons m mZ).Tables g _) j kZ) (ix (up (ix h.Mons m mZ).Guests g _) j gZ).Live (ix h.Mons m mZ).Outer
     have hj':hasB j (ln (ix h.Mons m mZ).Guests)=true:=by
      have:hasB j (ln (up (ix h.Mons m mZ).Guests g (zdq (gOf h m g) p)))=true:=hj
      rwa [zdh] at this
     by_cases e:g=j
     .subst e;rw[zY htg,zY hg];exact zXV (S.rt.t m hm g hg) p _
     .rw [zbk (zn.1 hg).1 (zn.1 hj').1 e,zbk (zn.1 hg).1 (zn.1 hj').1 e];exact S.rt.t m hm j hj'
    .rw [zbk (zn.1 hm).1 (zn.1 hi).1 hcm];exact S.rt.t i hi
   .refine (zss (h:=h) hm hM rfl kp i).trans ?_
    by_cases e:i=m
    .subst e;rw[zbg.2 rfl,cond_true,cond_true,e1,zeC hm];rfl
    .rw [zbE.2 e];rfl
theorem zNb (g:Int):zhi ⟨[],[],[],0⟩ g=⟨[],[],[],0⟩/\zkd ⟨[],[],[],0⟩ g=false:=by
 have:zkd ⟨[],[],[],0⟩ g=false:=by unfold zkd;rw[zUc];rfl
 refine ⟨?_,this⟩;unfold zhi;rw[this];rfl
theorem z0l {h:Host}(S:Safe h)(a:GAct):SimT h (zpJ h a) a.M (fun b=>zGG b a)/\zzM h a=zGH (zB h a.M) a:=by
 have hn:=zrh;unfold zpJ zzM zGG zGH;cases ieq a.Kind 1 with
 | true =>
  obtain ⟨k,e⟩:=step_ok S a.M a.G;exact ⟨k,by rw[cond_true,cond_true,e]⟩
 | false =>
  simp only[cond_false];cases ieq a.Kind 2 with
  | true =>
   exact ⟨zof S a.M (F:=fun b=>chg b a.G (zqr a.X ⟨a.Y,a.Z⟩) (zxj (gAt b a.G) a.X ⟨a.Y,a.Z⟩)) (fun b hb=>zpu hb fun _ hc G=>z3M G hc) (znS _ _ _),
    congrArg (fun t=>Told.mk t 0) (zjN S a.M (t:=fun b=>zbK b a.G (zqr a.X ⟨a.Y,a.Z⟩)) (zib _ _))⟩
  | false =>
   simp only[cond_false];cases ieq a.Kind 3 with
   | true =>
    obtain ⟨k,e⟩:=z0e S a.M a.G a.X;exact ⟨k,congrArg (fun t=>Told.mk t 0) e⟩
   | false =>
    simp only[cond_false];cases ieq a.Kind 4 with
    | true =>
     exact ⟨zof S a.M (F:=fun b=>chg b a.G (zpZ (gAt b a.G) a.X) (zt6 (gAt b a.G) a.X)) (fun b hb=>zpu hb fun _ hc G=>z3J G hc) (znS _ _ _),
      congrArg (fun t=>Told.mk t 0) (zjN S a.M (t:=fun b=>zbK b a.G (zpZ (gAt b a.G) a.X)) (zib _ _))⟩
    | false =>
     simp only[cond_false];cases ieq a.Kind 5 with
     | true =>
      exact ⟨zof S a.M (F:=fun b=>chg b a.G (zuo (gAt b a.G)) (zup (gAt b a.G))) (fun b hb=>zpu hb fun _ _ G=>z3L G) (znS _ _ _),
       congrArg (fun t=>Told.mk t 0) (zjN S a.M (t:=fun b=>zbK b a.G (zuo (gAt b a.G))) (zib _ _))⟩
     | false =>
      simp only[cond_false];cases ieq a.Kind 6 with
      | true =>
       exact ⟨zof S a.M (F:=fun b=>chg b a.G (zfy (gAt b a.G).Pending a.X) (zlO (gAt b a.G) a.X)) (fun b hb=>zpu hb fun _ _ G=>zT3 G _) (znS _ _ _),
        congrArg (fun t=>Told.mk t 0) (zjN S a.M (t:=fun b=>zbK b a.G (zfy (gAt b a.G).Pending a.X)) (zib _ _))⟩
      | false =>
       simp only[cond_false];cases ieq a.Kind 7 with
       | true =>
        exact ⟨zof S a.M (F:=fun b=>chg b a.G (zgF ⟨a.X,a.Y,ieq a.Z 1⟩) (zEq (gAt b a.G) ⟨a.X,a.Y,ieq a.Z 1⟩)) (fun b hb=>zpu hb fun _ hc G=>z3K G hc) (znS _ _ _),
         congrArg (fun t=>Told.mk t 0) (zjN S a.M (t:=fun b=>zbK b a.G (zgF ⟨a.X,a.Y,ieq a.Z 1⟩)) (zib _ _))⟩
       | false =>
        simp only[cond_false];cases ieq a.Kind 8 with
        | true =>
         obtain ⟨k,e⟩:=z0K S a.M a.X a.Y a.Z;exact ⟨k,congrArg (fun t=>Told.mk t 0) e⟩
        | false =>
         simp only[cond_false];cases ieq a.Kind 9 with
         | true =>
          exact ⟨zof S a.M (F:=fun b=>ziq b a.X) (fun b hb=>zUT hb _) (by unfold ziq zeu;rw[hn];rfl),
           congrArg (fun t=>Told.mk t 0) (zjN S a.M (t:=fun b=>zeu b a.X) (by unfold zeu;rw[hn];rfl))⟩
         | false =>
          simp only[cond_false];cases ieq a.Kind 10 with
          | true =>
           refine ⟨zof S a.M (F:=zkT) (fun b hb=>zWR hb) (by unfold zkT;rw[hn];rfl),?_⟩
           have e:=zjN S a.M (t:=zka) (by unfold zka;rw[hn];rfl)
           show Told.mk (zdE h a.M (zka (zB h a.M))) (cond (zcl h a.M) (zpY (zB h a.M)) (-1))=⟨zka (zB h a.M),zpY (zB h a.M)⟩
           rw[e]
           congr 1
           unfold zcl;rw[zhJ.2 S.ok,cond_true];cases hm:hasB a.M (ln h.Mons) with
           | true=>rfl
           | false=>rw[seen_none hm];unfold zpY;rw[hn];rfl
          | false =>
           simp only[cond_false];cases ieq a.Kind 11 with
           | true =>
            obtain ⟨k,e⟩:=z5t S a.M a.G a.X a.Y;exact ⟨k,congrArg (fun t=>Told.mk t 0) e⟩
           | false =>
            obtain ⟨k,e1,e2⟩:=z4t S a.M a.G a.X;exact ⟨k,by simp only[cond_false];rw[e1,e2]⟩
theorem z0C {h:Host}(S:Safe h)(a:GAct):Safe (zjH h a)/\(∀i,zB (zjH h a) i=zB h i)/\(zjH h a).Mons.length=h.Mons.length:=by
 unfold zjH;have k:∀r,Op h r->Safe r/\(∀i,zB r i=zB h i)/\r.Mons.length=h.Mons.length:=fun r k=>⟨k.safe S,fun i=>k.like.seen i,k.like.len⟩;cases ieq a.Kind 13 with
 | true=>exact k _ (zwW S.ok _ _)
 | false =>
  simp only[cond_false];cases ieq a.Kind 14 with
  | true=>exact k _ (zYn S.ok _ _)
  | false =>
   simp only[cond_false];cases ieq a.Kind 15 with
   | true=>exact k _ (zYm S.ok _ _)
   | false =>
    simp only[cond_false];cases ieq a.Kind 16 with
    | true =>
     obtain ⟨h1,h2⟩:=zOp S a.M a.X;refine ⟨h1,h2,?_⟩;simp only[cond_true];unfold zgC;cases zbB h<;>cases hasB a.M (ln h.Mons)<;>cases win a.X 0 3<;>first|rfl|exact zbA _ _ _
    | false=>exact k _ (z4m S.ok)
def zjg (a:GAct):Bool:=bif win a.Kind 1 17 then !win a.Kind 13 17 else false
theorem zO4 {h:Host}(S:Safe h)(a:GAct):Safe (zdA h a)/\(zdA h a).Mons.length=h.Mons.length /\
 (∀i,zB (zdA h a) i=bif (cond (zjg a) (ieq i a.M) false) then zGG (zB h i) a else zB h i)/\(zjg a=true->zhC h a=zGH (zB h a.M) a):=by
 unfold zdA zhC zjg;cases win a.Kind 1 17 with
 | false=>exact ⟨S,rfl,fun _=>rfl,fun e=>by cases e⟩
 | true =>
  simp only[cond_true];cases win a.Kind 13 17 with
  | true =>
   obtain ⟨h1,h2,h3⟩:=z0C S a;exact ⟨h1,h3,fun i=>by simp only[cond_true,u2,cond_false];exact h2 i,fun e=>by cases e⟩
  | false =>
   obtain ⟨k,e⟩:=z0l S a;exact ⟨k.safe,k.len,fun i=>by simp only[cond_false,Bool.not_false,cond_true];exact k.seen i,fun _=>e⟩
def zc9 (h:Host):List Bare:=(List.range h.Mons.length).map fun (i:Nat)=>zB h (i:Int)
theorem ziR (h:Host):(zc9 h).length=h.Mons.length:=by simp[zc9]
theorem zk5 (h:Host)(m:Int):hasB m (ln (zc9 h))=hasB m (ln h.Mons):=by unfold ln;rw[ziR]
theorem zkb {h:Host}{m:Int}(hm:hasB m (ln h.Mons)=true)(d:Bare):ix (zc9 h) m d=zB h m:=by
 have hm':=zn.1 hm;unfold ln at hm';have hk:m.toNat<(zc9 h).length:=by rw[ziR];omega
 have:=ziE hk d;rw[show ((m.toNat:Nat):Int)=m by omega] at this
 rw[this];simp[zc9,show max m 0=m by omega]
theorem zUP {h r:Host}(hl:r.Mons.length=h.Mons.length)(e:∀i,zB r i=zB h i):zc9 r=zc9 h:=by
 unfold zc9;rw[hl];exact List.map_congr_left fun i _=>e _
theorem zSk {h:Host}(S:Safe h)(a:GAct):zc9 (zdA h a)=zGI (zc9 h) a/\(zjg a=true->zhC h a=zUS (zc9 h) a):=by
 obtain ⟨_,hl,hs,ht⟩:=zO4 S a;have key:zjg a=true->zc9 (zdA h a)=(cond (hasB a.M (ln h.Mons)) (up (zc9 h) a.M (zGG (zB h a.M) a)) (zc9 h)):=by
  intro hi;rw[hi]at hs;cases hm:hasB a.M (ln h.Mons) with
  | false =>
   rw[cond_false];refine zK3 ⟨[],[],[],0⟩ (by rw[ziR,ziR,hl]) fun i hi'=>?_
   rw[zk5]at hi';rw[zkb hi'];have hi2:hasB i (ln h.Mons)=true:=by unfold ln at hi' ⊢;rwa [<- hl]
   rw[zkb hi2,hs i];have:ieq i a.M=false:=zbE.2 fun e=>by rw[e,hm]at hi2;cases hi2
   rw[this];rfl
  | true =>
   rw[cond_true];refine zK3 ⟨[],[],[],0⟩ (by rw[zbA,ziR,ziR,hl]) fun i hi'=>?_
   rw[zk5]at hi';rw[zkb hi',hs i];have hi2:hasB i (ln h.Mons)=true:=by unfold ln at hi' ⊢;rwa [<- hl]
   by_cases e:i=a.M
   .rw [e,zbg.2 rfl,zY (by rw[zk5];exact hm)];rfl
   .rw [zbE.2 e,zbk (zn.1 hm).1 (zn.1 hi2).1 (Ne.symm e),zkb hi2];rfl
 have e2:zjg a=false->zc9 (zdA h a)=zc9 h:=fun hi=>zUP hl fun i=>by rw[hs i,hi];rfl
 have ke:zjg a=true->win a.Kind 1 17=true/\win a.Kind 13 17=false:=by
  intro hi;unfold zjg at hi;cases h1:win a.Kind 1 17<;>cases h2:win a.Kind 13 17<;>rw [h1,h2]at hi<;>first|exact ⟨rfl,rfl⟩|cases hi
 constructor
 .unfold zGI;cases hi:zjg a with
  | true =>
   obtain ⟨h1,h2⟩:=ke hi;rw[h1,h2,cond_true,cond_false,zk5,key hi];cases hm:hasB a.M (ln h.Mons) with
   | true=>rw[cond_true,cond_true,zkb hm]
   | false=>rfl
  | false =>
   rw[e2 hi];unfold zjg at hi;cases h1:win a.Kind 1 17 with
   | false=>rfl
   | true =>
    cases h2:win a.Kind 13 17 with
    | true=>rfl
    | false=>rw[h1,h2]at hi;cases hi
 .intro hi;rw[ht hi];obtain ⟨h1,h2⟩:=ke hi;unfold zUS;rw[h1,h2,cond_true,cond_false,zk5];cases hm:hasB a.M (ln h.Mons) with
  | true=>rw[cond_true,zkb hm]
  | false =>
   rw[cond_false,seen_none hm];have hs1:=(zNb a.G).2;have hn:=zrh;unfold zGH;simp only[hs1,zib];unfold zvt zeu zka zpY zwp zOP zmE;simp only[hn,zro hn,cond_false];cases h10:ieq a.Kind 10 with
   | true =>
    have:a.Kind=10:=zbg.1 h10;rw[this];rfl
   | false =>
    cases ieq a.Kind 1<;>cases ieq a.Kind 2<;>cases ieq a.Kind 3<;>cases ieq a.Kind 4<;>cases ieq a.Kind 5<;>cases ieq a.Kind 6<;>cases ieq a.Kind 7<;>cases ieq a.Kind 8<;>cases ieq a.Kind 9<;>cases ieq a.Kind 11<;>rfl
def zHY:List GAct->List Told->List Told
 | a :: l,t :: ts=>bif zjg a then t :: zHY l ts else zHY l ts
 | _,_=>[]
structure Live (u:Host×List Told) (v:List Bare×List Told):Prop where
 safe:Safe u.1
 seen:zc9 u.1=v.1
def zA8:List GAct->Host->List Told
 | [],_=>[]
 | a :: l,h=>zhC h a :: zA8 l (zdA h a)
def zY9:List GAct->List Bare->List Told
 | [],_=>[]
 | a :: l,b=>zUS b a :: zY9 l (zGI b a)
def zsV:List GAct->Host->Host
 | [],h=>h
 | a :: l,h=>zsV l (zdA h a)
def z0a:List GAct->List Bare->List Bare
 | [],b=>b
 | a :: l,b=>z0a l (zGI b a)
theorem zUm:∀(l:List GAct) (u:Host×List Told),zw4 l u=(zsV l u.1,u.2++zA8 l u.1)
 | [],u=>by simp[zw4,zsV,zA8]
 | a :: l,u=>by rw[zw4,zUm l];simp[zsV,zA8,ap]
theorem zXA:∀(l:List GAct) {h:Host},Safe h->Safe (zsV l h)/\zc9 (zsV l h)=z0a l (zc9 h)/\zHY l (zA8 l h)=zHY l (zY9 l (zc9 h))/\(zsV l h).Mons.length=h.Mons.length
 | [],h,S=>⟨S,rfl,rfl,rfl⟩
 | a :: l,h,S=>by
  have h1:=zO4 S a;have h2:=zSk S a;obtain ⟨e1,e2,e3,e4⟩:=zXA l h1.1;refine ⟨e1,by show zc9 (zsV l (zdA h a))=z0a l (zGI (zc9 h) a);rw[e2,h2.1],?_,e4.trans h1.2.1⟩
  show (cond (zjg a) _ _)=(cond (zjg a) _ _)
  cases hi:zjg a with
  | false=>rw[cond_false,cond_false,e3,h2.1]
  | true=>rw[cond_true,cond_true,e3,h2.1,h2.2 hi]
theorem cz8 (q:Int)(hq:0<=q):zsv.countP (fun s=>ieq s.Page q)=0:=by
 rw[uX];intro s hs;have:=(uK.1 hs).2;rw[this]
 show ¬ ieq (-1) q=true
 rw[zbg];omega
theorem zSx {p:List Ins}(h:zcU p=true):GOk (zem p):=⟨h,rfl,rfl,rfl,rfl,rfl,rfl,rfl,rfl⟩
theorem zYf {ps:List (List Ins)}(h1:1<=ps.length)(h:∀p∈ps,zcU p=true):MOk (zfR ps):=by
 have e8:∀s∈zsv,s=noSlot:=fun s hs=>(uK.1 hs).2;refine ⟨?_,?_,?_,rfl,fun s hs=>.inl (e8 s hs),rfl,rfl,jS _,rfl,rfl,rfl,fun g hg=>?_,fun p hp=>?_⟩
 .show 1<=((ps.take 2).map zem).length
  simp;omega
 .show ((ps.take 2).map zem).length<=2
  simp;omega
 .show ((ps.take 2).map (fun _=>ziX)).length=((ps.take 2).map zem).length
  simp
 .obtain ⟨p,hp,rfl⟩:=q9.1 hg;exact zrb.2 (zSx (h p (jZ hp)))
 .have hp':=zn.1 hp;have e:p=0\/p=1\/p=2\/p=3\/p=4\/p=5\/p=6\/p=7:=by omega
  rcases e with rfl|rfl|rfl|rfl|rfl|rfl|rfl|rfl<;>rfl
def z2K (ps:List (List (List Ins))):Prop:=1<=ps.length/\∀p∈ps,1<=p.length/\∀x∈p,zcU x=true
theorem zHW {ps:List (List (List Ins))}(h:z2K ps):Safe (zeV ps):=by
 have hmem:∀x∈(zeV ps).Mons,∃p∈ps,x=zfR p:=fun x hx=>by
  obtain ⟨p,hp,rfl⟩:=q9.1 hx;exact ⟨p,jZ hp,rfl⟩
 have hO:∀x∈(zeV ps).Mons,x.Outer=zsv:=fun x hx=>by
  obtain ⟨p,_,rfl⟩:=hmem x hx;rfl
 have H:HOk (zeV ps):=by
  refine ⟨rfl,fun c hc=>?_,?_,?_,rfl,rfl,fun x hx=>?_,fun q hq=>?_⟩
  .have:c=[0,0,0,0]:=(uK.1 hc).2;rw[this];rfl
  .show 1<=((ps.take 3).map zfR).length
   have:=h.1;simp;omega
  .show ((ps.take 3).map zfR).length<=3
   simp;omega
  .obtain ⟨p,hp,rfl⟩:=hmem x hx;exact zYf (h.2 p hp).1 (h.2 p hp).2
  .have:zd0 (zeV ps).Mons q=0:=by
    unfold zd0;have:(zeV ps).Mons.map (fun x=>cPg x q)=(zeV ps).Mons.map (fun _=>0):=List.map_congr_left fun x hx=>by
     unfold cPg;rw[hO x hx];exact cz8 q hq
    rw[this];generalize (zeV ps).Mons=l
    induction l with
    | nil=>rfl
    | cons x l ih=>rw[jC,uF,ih]
   omega
 refine ⟨H,fun m hm g hg=>?_,fun e he=>(by cases he),fun e he=>(by cases he)⟩
 obtain ⟨p,hp,e⟩:=hmem _ (zkp hm mZ);rw[e]at hg ⊢;have hg1:hasB g (ln ((p.take 2).map zem))=true:=hg;have ht:ix (zfR p).Tables g kZ=ziX:=by
  have:hasB g (ln ((p.take 2).map (fun _=>ziX)))=true:=by
   unfold ln at hg1 ⊢;simpa using hg1
  obtain ⟨k,hk,_,e2⟩:=ztc this kZ
  show ix ((p.take 2).map (fun _=>ziX)) g kZ=_
  rw[e2];simp
 have hl:(ix (zfR p).Guests g gZ).Live=zj4:=by
  obtain ⟨k,hk,_,e2⟩:=ztc hg1 gZ
  show (ix ((p.take 2).map zem) g gZ).Live=_
  rw[e2];simp[zem]
 rw[ht,hl]
 show KOk ziX zj4 zsv
 refine ⟨rfl,rfl,fun i hi=>?_⟩;have hi':=zn.1 hi;have:ln zj4=4:=rfl;rw[this]at hi';have e4:i=0\/i=1\/i=2\/i=3:=by omega
 rcases e4 with rfl|rfl|rfl|rfl<;>rfl
theorem zEa (outer:List Slot)(ts:List Kept):∀(l:List Guest) (i:Nat),(∀k (hk:k<l.length),((i+k:Nat):Int)<ln ts->zjC (ix ts ((i+k:Nat):Int) kZ) l[k].Live outer=true)->zoB outer ts l i=true
 | [],_,_=>rfl
 | g :: l,i,h=>by
  unfold zoB;cases hi:ilt (i:Int) (ln ts) with
  | false=>rfl
  | true =>
   have h0:=h 0 (by simp) (by simpa using qE hi)
   rw[cond_true,show zjC (ix ts (i:Int) zdd) g.Live outer=true from h0,cond_true]
   exact zEa outer ts l (i+1) fun k hk hlt=>by
    have:=h (k+1) (by simpa using hk) (by rw[show i+(k+1)=i+1+k by omega];exact hlt)
    rw[show i+(k+1)=i+1+k by omega] at this
    exact this
theorem zY4 {h:Host}(S:Safe h):zlv h=true:=by
 unfold zlv;rw[qJ];intro x hx;obtain ⟨m,hm,e⟩:=zvp hx mZ;have T:=S.rt.t m hm;rw[e] at T;refine zEa _ _ _ 0 fun k hk hlt=>z3W.2 ?_;have hg:hasB ((0+k:Nat):Int) (ln x.Guests)=true:=zn.2 ⟨by omega,by unfold ln;omega⟩
 have:=T _ hg;rw[show ix x.Guests ((0+k:Nat):Int) gZ=x.Guests[k] by rw[show ((0+k:Nat):Int)=(k:Int) by omega];exact ziE hk gZ] at this
 exact this
def cU (u:List Int)(q:Int):Nat:=u.countP fun z=>ieq z q
theorem zRH:∀(l:List Slot) (u:List Int),(∀s∈l,SOk s)->(∀q,0<=q->(l.countP fun s=>ieq s.Page q)+cU u q<=1)->∃v,spS l u=some v/\∀q,0<=q->cU v q=(l.countP fun s=>ieq s.Page q)+cU u q
 | [],u,_,_=>⟨u,rfl,fun q _=>by simp⟩
 | s :: l,u,hs,hc=>by
  have hl:∀x∈l,SOk x:=fun x hx=>hs x (qU _ hx);unfold spS
  by_cases e:s.Page = -1
  .rw [zbg.2 e,cond_true];obtain ⟨v,h1,h2⟩:=zRH l u hl fun q hq=>by
    have:=hc q hq;rw[zia,if_neg (by omega)] at this
    exact this
   exact ⟨v,h1,fun q hq=>by rw[h2 q hq,zia,if_neg (by omega)];rfl⟩
  .have hp:=(hs s jD).pos e;rw[zbE.2 e,cond_false];have h0:=hc s.Page hp.1;rw[zia,if_pos rfl]at h0;have hu:u.any (fun z=>ieq z s.Page)=false:=by
    rw[<- vG,kM]
    rintro ⟨z,hz,hzs⟩
    have:0<cU u s.Page:=uY.2 ⟨z,hz,hzs⟩;omega
   rw[hu,cond_false];have hcu:∀q,cU (ap u [s.Page]) q=cU u q+if s.Page=q then 1 else 0:=fun q=>by
    unfold cU ap;rw[List.countP_append,uR,List.countP_nil]
    by_cases eq:s.Page=q
    .rw [if_pos eq,if_pos (zbg.2 eq)]
    .rw [if_neg eq,if_neg (by rw[zbg];exact eq)]
   obtain ⟨v,h1,h2⟩:=zRH l (ap u [s.Page]) hl fun q hq=>by
    have:=hc q hq;rw[zia] at this;rw[hcu];omega
   exact ⟨v,h1,fun q hq=>by rw[h2 q hq,hcu,zia];omega⟩
theorem zY2:∀(l:List Mon) (u:List Int),(∀x∈l,∀s∈x.Outer,SOk s)->(∀q,0<=q->zd0 l q+cU u q<=1)->spM l u=true
 | [],_,_,_=>rfl
 | x :: l,u,hs,hc=>by
  have hcc:∀q,zd0 (x :: l) q=(x.Outer.countP fun s=>ieq s.Page q)+zd0 l q:=fun q=>rfl;obtain ⟨v,h1,h2⟩:=zRH x.Outer u (hs x jD) fun q hq=>by
   have:=hc q hq;rw[hcc] at this;omega
  unfold spM;rw[h1];exact zY2 l v (fun y hy=>hs y (qU _ hy)) fun q hq=>by
   have:=hc q hq;rw[hcc] at this;rw[h2 q hq];omega
theorem zZl {h:Host}(H:HOk h):zqQ h=true:=by
 rw[zZm];refine zY2 _ _ (fun x hx=>(H.mons x hx).sl) fun q hq=>?_;have:=H.uq q hq;simpa [cU] using this
theorem zYI {h:Host}(S:Safe h):zsr h=true:=by
 unfold zsr;rw[zhJ.2 S.ok,cond_true,zZl S.ok,cond_true,zY4 S,cond_true,show zjt h h.Buffer=true from qJ.2 S.rt.e1,cond_true]
 exact qJ.2 S.rt.e2
structure Clear (h:Host) (m p:Int):Prop where
 d:ix (ix h.Mons m mZ).Dirty p false=false
 s:(ix (ix h.Mons m mZ).Outer p sZ).Page≠-1->(ix (ix h.Mons m mZ).Outer p sZ).Rights=1/\(∀e∈h.Buffer,e.Host≠(ix (ix h.Mons m mZ).Outer p sZ).Page)/\(∀e∈h.IoBuffer,e.Host≠(ix (ix h.Mons m mZ).Outer p sZ).Page) /\
  ∀g i,hasB g (ln (ix h.Mons m mZ).Guests)=true->hasB i (ln (ix (ix h.Mons m mZ).Guests g gZ).Live)=true->(ix (ix (ix h.Mons m mZ).Guests g gZ).Live i sZ).Page=p->ix (ix (ix h.Mons m mZ).Tables g kZ).Known i false=false
def Bl (b:List Entry):Prop:=∀e∈b,e.Host≠-1
structure Bf (h:Host):Prop where
 b:Bl h.Buffer
 io:Bl h.IoBuffer
theorem zPb {b c:List Entry}(k:Bl b)(s:∀e∈c,e∈b):Bl c:=fun e he=>k e (s e he)
theorem zd7 {h r:Host}(k:Bf h)(e1:r.Buffer=h.Buffer)(e2:r.IoBuffer=h.IoBuffer):Bf r:=⟨by rw[e1];exact k.b,by rw[e2];exact k.io⟩
theorem zGN {b:List Entry}(k:Bl b)(p:Int):Bl (flushed b p):=zPb k fun e he=>(kT.1 he).1
theorem zzb {b:List Entry}(k:Bl b)(t p:Int):Bl (zce b t p):=zPb k fun e he=>(kT.1 he).1
theorem zWZ {b:List Entry}(k:Bl b){e:Entry}(he:e.Host≠-1):Bl (zod b e):=by
 have h1:Bl (ap (zce b e.Tag e.Page) [e]):=fun x hx=>by
  unfold ap at hx;rcases jF.1 hx with hx|hx
  .exact zzb k _ _ x hx
  .rw [qF.1 hx];exact he
 unfold zod;cases igt (ln (ap (zce b e.Tag e.Page) [e])) 6 with
 | true=>exact zPb h1 fun x hx=>kF hx
 | false=>exact h1
theorem zqG {h:Host}(k:Bf h)(m p:Int)(s:Slot):Bf (zbU h m p s):=by
 unfold zbU;cases ine (ix (ix h.Mons m zf).Outer p zI).Page (-1) with
 | true=>exact ⟨zGN k.b _,zGN k.io _⟩
 | false=>exact ⟨k.b,k.io⟩
theorem zTP {h:Host}(k:Bf h)(m p:Int):Bf (zcC h m p):=zqG (h:=zd3 h m p) (zd7 k rfl rfl) m p noSlot
theorem zZs {h:Host}(k:Bf h)(m p:Int):Bf (zmJ h m p):=by
 unfold zmJ;cases zbJ h m p with
 | false=>exact k
 | true =>
  rw[cond_true];cases zcd (ix (ix h.Mons m zf).Outer p zI) noSlot with
  | true=>exact zd7 k rfl rfl
  | false=>exact zqG (h:=zms h m p) (zd7 k rfl rfl) m p _
theorem zWX {h:Host}(k:Bf h):Bf (zcu h):=by
 unfold zcu;cases ieq (ln (zbR h)) 0 with
 | true=>exact zTP k _ _
 | false=>exact k
theorem zGK {h:Host}(k:Bf h)(m p:Int):Bf (fetched h m p):=zqG (h:=landing (zcu h) m p (ix (zbR (zcu h)) 0 0)) (zd7 (zWX k) rfl rfl) m p _
theorem zPa {h:Host}(k:Bf h)(m p n:Int):Bf (zg4 h m p n):=by
 unfold zg4;cases ieq (wand .i64 n 2) 0 with
 | true=>exact k
 | false =>
  show Bf (opened (zbp h m p) m p)
  unfold opened;cases ieq (wand .i64 (ix (ix (zbp h m p).Mons m mZ).Outer p sZ).Rights 2) 0 with
  | true=>exact zqG (h:=zbp h m p) (zd7 k rfl rfl) m p _
  | false=>exact zd7 k rfl rfl
theorem zMf {h:Host}(k:Bf h)(m p n:Int):Bf (mended h m p n):=by
 unfold mended;cases ieq (ix (ix h.Mons m mZ).Outer p sZ).Page (-1) with
 | true=>exact zPa (zGK k m p) m p n
 | false=>exact zPa k m p n
theorem zWW {h:Host}(k:Bf h){m g page:Int}{io:Bool}(hn:(zdF (zcc h m g) page).Page≠-1):Bf (zoZ h m g page io):=by
 unfold zoZ;cases io with
 | true=>exact ⟨k.b,zWZ k.io (e:=zBn h m g page) hn⟩
 | false=>exact ⟨zWZ k.b (e:=zBn h m g page) hn,k.io⟩
theorem z2T {h:Host}(k:Bf h)(m g page:Int):Bf (zdf h m g page):=zd7 k rfl rfl
theorem zZt {h:Host}(k:Bf h){b:List Entry}{m g page need q:Int}{io:Bool}(hn:(zfI h b m g page need q io).2.1≠-1):Bf (zfI h b m g page need q io).1:=by
 unfold zfI at hn ⊢;cases hf:zge b m g page need with
 | true=>exact k
 | false =>
  rw[hf,cond_false]at hn;rw[cond_false];cases hs:zef h m g page need with
  | true =>
   rw[hs,cond_true]at hn;rw[cond_true];exact zWW (z2T (zMf k m q need) m g page) hn
  | false =>
   rw[hs,cond_false]at hn;rw[cond_false];exact zWW k hn
theorem zJr {h:Host}(S:Safe h)(k:Bf h)(m g page need:Int)(io:Bool){b:List Entry}(hb:∀e∈b,zb0 h e=true):Bf (lookOf h b m g page need io).1:=by
 cases hl:zbP h m g page need with
 | false=>unfold lookOf;rw[hl];exact k
 | true =>
  have hn:=(zzV S io hl hb).1.ne;unfold lookOf at hn ⊢;rw[hl,cond_true]at hn ⊢;refine zZt ?_ hn;cases ieq need 2 with
  | true=>exact zd7 k rfl rfl
  | false=>exact k
theorem zJs {h:Host}(k:Bf h)(m g:Int)(x:Guest):Bf (zjc h m g x):=zd7 k rfl rfl
theorem zUU {L:Host×Int×Bool}(k:Bf L.1)(m g:Int)(x:Guest)(w:Bool):Bf (zgD L m g x w):=by
 unfold zgD;cases L.2.2 with
 | false=>exact zd7 k rfl rfl
 | true =>
  cases w with
  | true=>exact zd7 k rfl rfl
  | false=>exact zd7 k rfl rfl
theorem z2X {h:Host}(k:Bf h)(m g:Int)(x:Guest)(w:Int):Bf (zpr h m g x w):=by
 have k0:Bf (zew h m x w):=by
  unfold zew;cases (cond (ine w 6) (ieq (zuj (ix h.Mons m mZ).Traps x.Ctl.Traps (zsx w)) 2) false) with
  | false=>exact k
  | true =>
   show Bf (owned h m)
   unfold owned;cases ilt (ix h.Mons m mZ).Own 1000000000 with
   | true=>exact zd7 k rfl rfl
   | false=>exact k
 unfold zpr zfq;refine zJs ?_ m g _;cases (cond (ziz x.Ctl.Traps w) (ieq w 5) false) with
 | false=>exact k0
 | true =>
  show Bf (zjG (zew h m x w) m _)
  unfold zjG;cases ilt (ln (ix (zew h m x w).Mons m mZ).Outs) 40 with
  | true=>exact zd7 k0 rfl rfl
  | false=>exact k0
theorem z2W {h:Host}(S:Safe h)(k:Bf h)(m g:Int):Bf (zbn h m g).1:=by
 unfold zbn;cases zbH h m g with
 | false=>exact k
 | true =>
  rw[cond_true];unfold zI6;cases ieq (zM (gOf h m g)) 0 with
  | true=>exact k
  | false =>
   rw[cond_false];cases ieq (zM (gOf h m g)) 1 with
   | true=>exact zJs k m g _
   | false =>
    rw[cond_false];cases ieq (zM (gOf h m g)) 2 with
    | true=>exact zJs k m g _
    | false =>
     rw[cond_false];cases (cond (ieq (zM (gOf h m g)) 3) true (ieq (zM (gOf h m g)) 4)) with
     | true=>exact zUU (zJr S k _ _ _ _ _ S.rt.e1) m g _ _
     | false=>exact z2X k m g _ _
theorem znQ {h:Host}(k:Bf h)(m:Int)(b:Bare):Bf (zdS h m b):=by
 unfold zdS;cases zcl h m with
 | true=>exact zd7 k rfl rfl
 | false=>exact k
theorem zZr {h:Host}(k:Bf h)(m g p:Int):Bf (zgX h m g p):=by
 unfold zgX;cases zcl h m with
 | false=>exact k
 | true =>
  rw[cond_true];cases zbK (zB h m) g (hasB p 4) with
  | false=>exact k
  | true=>exact ⟨zzb k.b _ _,zzb k.io _ _⟩
theorem z2U {h:Host}(k:Bf h)(m p c v:Int):Bf (zii h m p c v):=by
 unfold zii;cases zeh h m p c v with
 | false=>exact k
 | true=>exact zd7 (zMf k m p 2) rfl rfl
theorem z4U {h:Host}(S:Safe h)(k:Bf h)(m g a v:Int):Bf (zkj h m g a v):=by
 unfold zkj;cases zfu h m g a v with
 | false=>exact k
 | true=>exact zd7 (zJr S k m g (zbb a) 2 true S.rt.e2) rfl rfl
theorem z2V {h:Host}(S:Safe h)(k:Bf h)(m g a:Int):Bf (zij h m g a):=by
 unfold zij;cases zeF h m g a with
 | false=>exact k
 | true=>exact zJr S k m g (zbb a) 1 true S.rt.e2
theorem zGL {h:Host}(k:Bf h)(m p:Int):Bf (zbM h m p):=by
 unfold zbM;cases zbJ h m p with
 | false=>exact k
 | true =>
  cases zfX h m p with
  | true=>exact k
  | false=>exact zTP k m p
theorem zWV {h:Host}(k:Bf h)(m p:Int):Bf (zmV h m p):=by
 unfold zmV;cases zbJ h m p with
 | false=>exact k
 | true =>
  cases zfX h m p with
  | true=>exact zGK k m p
  | false=>exact k
theorem zZu {h:Host}(k:Bf h)(m t:Int):Bf (zgC h m t):=by
 unfold zgC;cases zbB h with
 | false=>exact k
 | true =>
  cases hasB m (ln h.Mons) with
  | false=>exact k
  | true =>
   cases win t 0 3 with
   | true=>exact zd7 k rfl rfl
   | false=>exact k
theorem z2S (h:Host):Bf (cold h):=⟨fun e he=>(by cases he),fun e he=>(by cases he)⟩
theorem z4T {h:Host}(S:Safe h)(k:Bf h)(a:GAct):Bf (zdA h a):=by
 unfold zdA;cases win a.Kind 1 17 with
 | false=>exact k
 | true =>
  rw[cond_true];cases win a.Kind 13 17 with
  | true =>
   rw[cond_true];unfold zjH;cases ieq a.Kind 13 with
   | true=>exact zGL k _ _
   | false =>
    cases ieq a.Kind 14 with
    | true=>exact zWV k _ _
    | false =>
     cases ieq a.Kind 15 with
     | true=>exact zZs k _ _
     | false =>
      cases ieq a.Kind 16 with
      | true=>exact zZu k _ _
      | false=>exact z2S h
  | false =>
   rw[cond_false];unfold zpJ;cases ieq a.Kind 1 with
   | true=>exact z2W S k _ _
   | false =>
    cases ieq a.Kind 2 with
    | true=>exact znQ k _ _
    | false =>
     cases ieq a.Kind 3 with
     | true=>exact zZr k _ _ _
     | false =>
      cases ieq a.Kind 4 with
      | true=>exact znQ k _ _
      | false =>
       cases ieq a.Kind 5 with
       | true=>exact znQ k _ _
       | false =>
        cases ieq a.Kind 6 with
        | true=>exact znQ k _ _
        | false =>
         cases ieq a.Kind 7 with
         | true=>exact znQ k _ _
         | false =>
          cases ieq a.Kind 8 with
          | true=>exact z2U k _ _ _ _
          | false =>
           cases ieq a.Kind 9 with
           | true=>exact znQ k _ _
           | false =>
            cases ieq a.Kind 10 with
            | true=>exact znQ k _ _
            | false =>
             cases ieq a.Kind 11 with
             | true=>exact z4U S k _ _ _ _
             | false=>exact z2V S k _ _ _
theorem zWY:∀(l:List GAct) (u:Host×List Told),Safe u.1->Bf u.1->Bf (zw4 l u).1
 | [],u,_,k=>k
 | a :: l,u,S,k=>zWY l (zdA u.1 a,ap u.2 [zhC u.1 a]) (zO4 S a).1 (z4T S k a)
end
end Go.Proofs.YtdaahiceaagpdaaGreat.E
namespace Go.Proofs
open Go Go.Shelf
def Tryz.laysSort_ren : Go.Shelf.Ren := ⟨fun | 189 => 142 | 125 => 184 | 257 => 183 | 128 => 240 | 129 => 241 | 294 => 231 | 295 => 232 | 296 => 233 | 297 => 234 | 298 => 235 | 299 => 236 | 216 => 237 | 300 => 238 | 301 => 239 | 328 => 285 | 329 => 286 | 330 => 287 | 331 => 288 | 332 => 289 | 215 => 290 | 343 => 316 | n => n, fun | 28 => 30 | 3 => 3 | 46 => 169 | 0 => 0 | 51 => 225 | 53 => 227 | 4 => 4 | 183 => 219 | 182 => 218 | 131 => 41 | 5 => 5 | 9 => 9 | 218 => 244 | 222 => 248 | 228 => 256 | 229 => 208 | n => n, fun | n => n⟩
theorem Tryz.laysSort : Go.Proofs.Lays.n189 Tryz.prog Tryz.laysSort_ren := {
  mixed := by kernel_rfl
  f125 := Tryz.func184.trans (congrArg some (by kernel_rfl))
  f128 := Tryz.func240.trans (congrArg some (by kernel_rfl))
  f129 := Tryz.func241.trans (congrArg some (by kernel_rfl))
  f189 := Tryz.func142.trans (congrArg some (by kernel_rfl))
  f215 := Tryz.func290.trans (congrArg some (by kernel_rfl))
  f216 := Tryz.func237.trans (congrArg some (by kernel_rfl))
  f257 := Tryz.func183.trans (congrArg some (by kernel_rfl))
  f294 := Tryz.func231.trans (congrArg some (by kernel_rfl))
  f295 := Tryz.func232.trans (congrArg some (by kernel_rfl))
  f296 := Tryz.func233.trans (congrArg some (by kernel_rfl))
  f297 := Tryz.func234.trans (congrArg some (by kernel_rfl))
  f298 := Tryz.func235.trans (congrArg some (by kernel_rfl))
  f299 := Tryz.func236.trans (congrArg some (by kernel_rfl))
  f300 := Tryz.func238.trans (congrArg some (by kernel_rfl))
  f301 := Tryz.func239.trans (congrArg some (by kernel_rfl))
  f328 := Tryz.func285.trans (congrArg some (by kernel_rfl))
  f329 := Tryz.func286.trans (congrArg some (by kernel_rfl))
  f330 := Tryz.func287.trans (congrArg some (by kernel_rfl))
  f331 := Tryz.func288.trans (congrArg some (by kernel_rfl))
  f332 := Tryz.func289.trans (congrArg some (by kernel_rfl))
  f343 := Tryz.func316.trans (congrArg some (by kernel_rfl))
  t0 := Tryz.underlying0
  a0 := Tryz.isAgg0
  z0 := Tryz.sizeOf0
  v0 := Tryz.zeroValue0
  t3 := Tryz.underlying3
  a3 := Tryz.isAgg3
  z3 := Tryz.sizeOf3
  v3 := Tryz.zeroValue3
  t4 := Tryz.underlying4
  a4 := Tryz.isAgg4
  z4 := Tryz.sizeOf4
  v4 := Tryz.zeroValue4
  t5 := Tryz.underlying5
  a5 := Tryz.isAgg5
  z5 := Tryz.sizeOf5
  v5 := Tryz.zeroValue5
  t9 := Tryz.underlying9
  a9 := Tryz.isAgg9
  z9 := Tryz.sizeOf9
  v9 := Tryz.zeroValue9
  t28 := Tryz.underlying30
  a28 := Tryz.isAgg30
  z28 := Tryz.sizeOf30
  v28 := Tryz.zeroValue30
  t46 := Tryz.underlying169
  a46 := Tryz.isAgg169
  z46 := Tryz.sizeOf169
  v46 := Tryz.zeroValue169
  t51 := Tryz.underlying225
  a51 := Tryz.isAgg225
  z51 := Tryz.sizeOf225
  v51 := Tryz.zeroValue225
  t53 := Tryz.underlying227
  a53 := Tryz.isAgg227
  z53 := Tryz.sizeOf227
  v53 := Tryz.zeroValue227
  t131 := Tryz.underlying41
  a131 := Tryz.isAgg41
  z131 := Tryz.sizeOf41
  v131 := Tryz.zeroValue41
  t182 := Tryz.underlying218
  a182 := Tryz.isAgg218
  z182 := Tryz.sizeOf218
  v182 := Tryz.zeroValue218
  t183 := Tryz.underlying219
  a183 := Tryz.isAgg219
  z183 := Tryz.sizeOf219
  v183 := Tryz.zeroValue219
  t218 := Tryz.underlying244
  a218 := Tryz.isAgg244
  z218 := Tryz.sizeOf244
  v218 := Tryz.zeroValue244
  t222 := Tryz.underlying248
  a222 := Tryz.isAgg248
  z222 := Tryz.sizeOf248
  v222 := Tryz.zeroValue248
  t228 := Tryz.underlying256
  a228 := Tryz.isAgg256
  z228 := Tryz.sizeOf256
  v228 := Tryz.zeroValue256
  t229 := Tryz.underlying208
  a229 := Tryz.isAgg208
  z229 := Tryz.sizeOf208
  v229 := Tryz.zeroValue208 }
def Tryz.laysCompact_ren : Go.Shelf.Ren := ⟨fun | 20 => 143 | n => n, fun | 22 => 30 | 3 => 3 | 4 => 4 | 0 => 0 | n => n, fun | n => n⟩
theorem Tryz.laysCompact : Go.Proofs.Lays2.n20 Tryz.prog Tryz.laysCompact_ren := {
  mixed := by kernel_rfl
  f20 := Tryz.func143.trans (congrArg some (by kernel_rfl))
  t0 := Tryz.underlying0
  a0 := Tryz.isAgg0
  z0 := Tryz.sizeOf0
  v0 := Tryz.zeroValue0
  t3 := Tryz.underlying3
  a3 := Tryz.isAgg3
  z3 := Tryz.sizeOf3
  v3 := Tryz.zeroValue3
  t4 := Tryz.underlying4
  a4 := Tryz.isAgg4
  z4 := Tryz.sizeOf4
  v4 := Tryz.zeroValue4
  t22 := Tryz.underlying30
  a22 := Tryz.isAgg30
  z22 := Tryz.sizeOf30
  v22 := Tryz.zeroValue30
  i3 := by kernel_rfl }
end Go.Proofs
namespace Go.Proofs.YtdaahiceaagpdaaGreat.E
open Go
set_option linter.unusedVariables false
set_option maxRecDepth 100000
set_option linter.unusedSimpArgs false
set_option linter.unusedSectionVars false
noncomputable section
section
open Go Go.Sort Go.Proofs
theorem zWz (blk off cap:Nat)(zs:List Int)(w:World)(hH:Go.Sort.Holds (Value.int .i64) w blk off zs.toArray)(hblk:blk<w.heap.size)(hsz:zs.length<4611686018427387904) :
 Calls Tryz.prog 142 #[.slice (some ⟨blk,off,none⟩) zs.length cap] w fun e w' =>
  e = .returned (.tuple #[])/\∃n os,w'=grow (putRow (Value.int .i64) (Sort.ahead w n) blk off (zs.mergeSort fun x y=>decide (x<=y)).toArray) os :=
 Any.slices_Sort_int Tryz.laysSort blk off cap zs w hH hblk hsz
theorem zY0 (p:Option Addr)(cap:Nat)(w:World):Calls Tryz.prog 142 #[.slice p 0 cap] w fun e w'=>e = .returned (.tuple #[])/\w'=w :=
 Any.slices_Sort_int_none Tryz.laysSort p cap w
theorem zNc (blk off cap:Nat)(zs:List Int)(w:World)(hH:Go.Sort.Holds (Value.int .i64) w blk off zs.toArray)(hsz:zs.length<=9223372036854775807)(hcap:zs.length<=cap) :
 Calls Tryz.prog 143 #[.slice (some ⟨blk,off,none⟩) zs.length cap] w fun e w'=>e = .returned (.slice (some ⟨blk,off,none⟩) (Lib.compact zs).length cap)/\∃q,w'=putRow (Value.int .i64) (Sort.ahead w q) blk off (Lib.compact zs++List.replicate (zs.length-(Lib.compact zs).length) 0).toArray :=
 Any.slices_Compact_int Tryz.laysCompact blk off cap zs w hH hsz hcap
theorem zPi (a:Option Addr)(cap:Nat)(w:World):Calls Tryz.prog 143 #[.slice a 0 cap] w fun e w'=>e = .returned (.slice a 0 cap)/\w'=w :=
 Any.slices_Compact_int_empty Tryz.laysCompact a cap w
def zeD (zs:List Int):List Int:=Lib.compact (zs.mergeSort fun x y=>decide (x<=y))
theorem zMd (zs:List Int):(zeD zs).length<=zs.length:=by
 have:=Lib.compact_length_le (zs.mergeSort fun x y=>decide (x<=y));simpa [zeD] using this
theorem zTx {blk off cap n:Nat}{zs:List Int}{w:World}(hn:zs.length=n)(hH:Go.Sort.Holds (Value.int .i64) w blk off zs.toArray)(hblk:blk<w.heap.size)(hsz:n<4611686018427387904) :
 Calls Tryz.prog 142 #[.slice (some ⟨blk,off,none⟩) n cap] w fun e w' =>
  e = .returned (.tuple #[])/\∃n os,w'=grow (putRow (Value.int .i64) (Sort.ahead w n) blk off (zs.mergeSort fun x y=>decide (x<=y)).toArray) os:=by
 subst hn;exact zWz blk off cap zs w hH hblk hsz
theorem zJu {blk off cap n:Nat}{zs:List Int}{w:World}(hn:zs.length=n)(hH:Go.Sort.Holds (Value.int .i64) w blk off zs.toArray)(hsz:n<=9223372036854775807)(hcap:n<=cap) :
 Calls Tryz.prog 143 #[.slice (some ⟨blk,off,none⟩) n cap] w fun e w'=>e = .returned (.slice (some ⟨blk,off,none⟩) (Lib.compact zs).length cap)/\∃q,w'=putRow (Value.int .i64) (Sort.ahead w q) blk off (Lib.compact zs++List.replicate (n-(Lib.compact zs).length) 0).toArray:=by
 subst hn;exact zNc blk off cap zs w hH hsz hcap
theorem heap_put {w:World}{g off n:Nat}{os:Array Obj}{cur:Array Value}{e:TypeId}{fr:Nat×Nat}(d:Array Int)(hb:w.heap[g]?=some (.cells cur e fr)) :
 (grow (putRow (Value.int .i64) (Sort.ahead w n) g off d) os).heap[g]?=some (.cells (Sort.putCells (Value.int .i64) off d cur) e fr):=by
 have hg:g<w.heap.size:=(qP.1 hb).1;rw[heap_grow_old _ _ (by simpa using hg)]
 simp[putRow,mapBlock,Sort.ahead,uA,hb,onCells]
theorem zXQ {w:World}{g off n:Nat}{cur:Array Value}{e:TypeId}{fr:Nat×Nat}(d:Array Int)(hb:w.heap[g]?=some (.cells cur e fr)) :
 (putRow (Value.int .i64) (Sort.ahead w n) g off d).heap[g]?=some (.cells (Sort.putCells (Value.int .i64) off d cur) e fr):=by
 simp[putRow,mapBlock,Sort.ahead,uA,hb,onCells]
theorem size_put {cur:Array Value}{off:Nat}(d:Array Int):(Sort.putCells (Value.int .i64) off d cur).size=cur.size:=by simp[Sort.putCells]
theorem zMe:zeD []=[]:=by simp[zeD,Lib.compact,Lib.compactUpTo]
theorem zTM {cur:Array Value}{off:Nat}(d:List Int)(j:Nat)(x:Int)(hx:d[j]?=some x)(h:off+d.length<=cur.size):(Sort.putCells (Value.int .i64) off d.toArray cur)[off+j]?=some (.int .i64 x):=by
 have hj:j<d.length:=(qA.1 hx).1;have e:d[j]=x:=(qA.1 hx).2;have hc:off+j<cur.size:=by omega
 simp[Sort.putCells,hc,show off<=off+j by omega,show off+j<off+d.length by omega,hj,e]
theorem zPO {w:World}{g off:Nat}{cur:Array Value}{e:TypeId}{zs:List Int}(hb:w.heap[g]?=some (.cells cur e (0,0)))(hv:∀(j:Nat) (x:Int),zs[j]?=some x->cur[off+j]?=some (.int .i64 x)):Go.Sort.Holds (Value.int .i64) w g off zs.toArray:=by
 intro j hj;have hj':j<zs.length:=by simpa using hj
 refine ⟨?_,by simp[World.frozen?,hb]⟩
 have:=hv j zs[j] (by simp[hj'])
 simp[World.cell?,hb,this,hj']
theorem zZp {b off cap n:Nat}{zs:List Int}{w:World}{cur:Array Value}{e:TypeId}(hn:zs.length=n)(hb:w.heap[b]?=some (.cells cur e (0,0)))(hv:∀(j:Nat) (x:Int),zs[j]?=some x->cur[off+j]?=some (.int .i64 x))(hc:off+n<=cur.size)(hsz:n<4611686018427387904)(hcap:n<=cap) :
 Calls Tryz.prog 84 #[.slice (some ⟨b,off,none⟩) n cap] w fun r w'=>r = .returned (.slice (some ⟨b,off,none⟩) (zeD zs).length cap) /\
  ∃k os q,w'=putRow (Value.int .i64) (Sort.ahead (grow (putRow (Value.int .i64) (Sort.ahead w k) b off (zs.mergeSort fun x y=>decide (x<=y)).toArray) os) q) b off (zeD zs++List.replicate (n-(zeD zs).length) 0).toArray:=by
 have hH:=zPO hb hv;have hblk:b<w.heap.size:=(qP.1 hb).1;have hn2:(zs.mergeSort fun x y=>decide (x<=y)).length=n:=by simpa using hn
 have hH2:∀k os,Go.Sort.Holds (Value.int .i64) (grow (putRow (Value.int .i64) (Sort.ahead w k) b off (zs.mergeSort fun x y=>decide (x<=y)).toArray) os) b off (zs.mergeSort fun x y=>decide (x<=y)).toArray:=fun k os =>
  zPO (heap_put _ hb) (fun j x hx=>zTM _ j x hx (by rw[hn2];exact hc))
 clear hv hb hc
 go_enter Tryz.func84,Tryz.ntmps84
 go_wp2_with (first
  | (go_at_call 142;refine (zTx hn hH hblk hsz).mono ?_;rintro r w' ⟨rfl,k,os,rfl⟩)
  | (go_at_call 143;refine (zJu hn2 (hH2 _ _) (by omega) hcap).mono ?_;rintro r w' ⟨rfl,q,rfl⟩))
 go_ret
 exact ⟨rfl,_,_,_,rfl⟩
theorem zWO (p:Option Addr)(cap:Nat)(w:World):Calls Tryz.prog 84 #[.slice p 0 cap] w fun r w'=>r = .returned (.slice p 0 cap)/\w'=w:=by
 go_enter Tryz.func84,Tryz.ntmps84
 go_wp2_with (first
  | (go_at_call 142;refine (zY0 _ _ _).mono ?_;rintro r w' ⟨rfl,rfl⟩)
  | (go_at_call 143;refine (zPi _ _ _).mono ?_;rintro r w' ⟨rfl,rfl⟩))
 go_ret
 exact ⟨rfl,rfl⟩
end
section
open Go Go.Sort Go.Proofs
theorem z0j {w:World}{g off n:Nat}{os:Array Obj}(d:Array Int){x:Nat}(hx:x<w.heap.size)(hne:x≠g):(grow (putRow (Value.int .i64) (Sort.ahead w n) g off d) os).heap[x]?=w.heap[x]?:=by
 rw[heap_grow_old _ _ (by simpa using hx)]
 have:g≠x:=fun e=>hne e.symm;simp[putRow,mapBlock,Sort.ahead,uA,this]
theorem zXP {w:World}{g off n:Nat}(d:Array Int){x:Nat}(hne:x≠g):(putRow (Value.int .i64) (Sort.ahead w n) g off d).heap[x]?=w.heap[x]?:=by
 have:g≠x:=fun e=>hne e.symm;simp[putRow,mapBlock,Sort.ahead,uA,this]
theorem z2Q {w:World}{u:Value}{l:List Int}{K:zT}(hR:Rep true w u (.s .int l) K)(hK:∀x,K x->x<w.heap.size) :
 Calls Tryz.prog 84 #[u] w fun r w'=>∃v,r = .returned v/\Rep true w' v (.s .int (zeD l)) K/\w'.os=w.os/\w'.tape=w.tape/\w'.output=w.output/\w.heap.size<=w'.heap.size /\
  ∀b,b<w.heap.size->¬ K b->w'.heap[b]?=w.heap[b]?:=by
 cases hR with
 | nil t =>
  refine (zWO none 0 w).mono ?_
  rintro r w' ⟨rfl,rfl⟩
  exact ⟨_,rfl,by rw[zMe];exact .nil _ _,rfl,rfl,rfl,qX _,fun _ _ _=>rfl⟩
 | void t a S ho=>cases ho
 | sl t l b off cap arr e fz V K' S hb hfz hlen hcap hsz hS hsub hdis hv hc =>
  have hz:=hfz rfl;subst hz;have hwd:Ty.int.width=1:=rfl;have hvv:∀(j:Nat) (x:Int),l[j]?=some x->arr[off+j]?=some (.int .i64 x):=by
   intro j x hx;have hj:j<l.length:=(qA.1 hx).1;have h1:=hv j 0 hj (by rw[hwd];decide)
   have h2:=(hc j x hx 0 (.i .i64 x) rfl).int_inv;rw[hwd,Nat.mul_one,j7,h2]at h1;exact h1
  rw[hwd,Nat.mul_one]at hsz;have hbig:l.length<4611686018427387904:=by unfold big at hlen;omega
  refine (zZp rfl hb hvv (by omega) hbig hcap).mono ?_
  rintro r w' ⟨rfl,k,os,q,rfl⟩
  have hle:=zMd l;have hn2:(l.mergeSort fun x y=>decide (x<=y)).length=l.length:=by simp
  have h1:=heap_put (off:=off) (n:=k) (os:=os) (l.mergeSort fun x y=>decide (x<=y)).toArray hb;have h2:=zXQ (off:=off) (n:=q) (zeD l++List.replicate (l.length-(zeD l).length) 0).toArray h1;refine ⟨_,rfl,?_,rfl,rfl,rfl,?_,fun x hx hne=>?_⟩
  .refine .sl .int (zeD l) b off cap _ e (0,0) (fun i _=>.int .i64 ((zeD l).getD i 0)) (fun _ _ _=>False) K h2 (fun _=>rfl) (by omega) (by omega) ?_ hS (fun _ _ _ _ _ h=>h.elim) (fun _ _ _ _ _ _ _ _ _ _ h=>h.elim) ?_ ?_
   .rw [hwd,Nat.mul_one];rw[size_put,size_put];exact hsz
   .intro i j hi hj;have hj0:j=0:=by rw[hwd]at hj;omega
    subst hj0;rw[hwd,Nat.mul_one,j7];refine zTM _ i _ ?_ ?_
    .rw [qT hi];simp[List.getD,hi]
    .rw [size_put,jR,List.length_replicate];omega
   .intro i x hx j c hcj;have hx2:(zeD l).getD i 0=x:=by simp[List.getD,hx]
    cases j with
    | zero =>
     simp only[Ty.cells,qH,qC]at hcj;subst hcj;rw[hx2];exact .i _ _ _
    | succ j=>simp[Ty.cells]at hcj
  .have:(putRow (Value.int .i64) (Sort.ahead (grow (putRow (Value.int .i64) (Sort.ahead w k) b off (l.mergeSort fun x y=>decide (x<=y)).toArray) os) q) b off (zeD l++List.replicate (l.length-(zeD l).length) 0).toArray).heap.size=w.heap.size+os.size:=by
    simp[putRow,mapBlock,grow,Sort.ahead]
   omega
  .have hxb:x≠b:=fun e=>hne (e ▸ hS);rw[zXP _ hxb,z0j _ hx hxb]
def zgM (_:List Int):Bool:=true
abbrev ziV (l:List Int):List Int:=zeD l
def zmZ:List AV->Option (Bool×List AV)
 | [.one (.s .int b)]=>some (zgM b,[.one (.s .int (ziV b))])
 | _=>none
theorem zBT:zdp Tryz.prog 84 [true] none zmZ:=by
 refine zdp.of (by simp) fun al hal=>⟨zdN (by kernel_rfl),?_⟩
 intro w K avs xs rs hx ho hr hK hd hq hrun;unfold zmZ at hrun;split at hrun
 .rename_i a0;cases hrun;have hl:xs.length=1:=hx
  match xs,hl with
  | [u],_ =>
   have hR:Rep true w u (.s .int a0) (K 0):=hr 0 _ u rfl rfl;refine (z2Q hR (fun x hx=>hK 0 x (by simp[zo,AV.cvs]) hx)).mono ?_
   rintro r w' ⟨v,rfl,g1,g2,g3,g4,g5,g6⟩
   refine ⟨g2,g3,g4,g5,fun b hb hn=>g6 b hb (hn 0 (by simp[zo,AV.cvs]) rfl),[v],fun _=>K 0,⟨rfl,?_⟩,rfl,?_,?_,?_⟩
   .intro i c x hc hx;cases i with
    | zero =>
     simp only[qH,qC]at hx;subst hx;have:c = .s .int (zeD a0):=by simpa [zo,AV.cvs] using hc.symm
     subst this;exact g1
    | succ i=>simp at hx
   .intro i x _ hKx;have:=hK 0 x (by simp[zo,AV.cvs]) hKx
    exact ⟨by omega,.inl ⟨0,by simp[zo,AV.cvs],rfl,hKx⟩⟩
   .intro i j x hi hj hne;simp[zo,AV.cvs]at hi hj;omega
   .intro ja jr js h;cases h
 .cases hrun
end
def zun:List Int->Int->List Int
 | [],n=>[n]
 | x :: l,n=>if x<n then x :: zun l n else if x=n then x :: l else n :: x :: l
def zgo (l:List Int):Prop:=l.Pairwise (· < ·)
theorem zFz:∀(l:List Int) (n x:Int),x∈zun l n↔x=n\/x∈l
 | [],n,x=>by simp[zun]
 | y :: l,n,x=>by
  unfold zun;split
  .have:=zFz l n x;simp only[qG,this];constructor
   .rintro (h|h|h)<;>simp [h]
   .rintro (h|h|h)<;>simp [h]
  .split
   .rename_i h;subst h;simp only[qG];constructor
    .exact fun h=>.inr h
    .rintro (h|h)
     .exact .inl h
     .exact h
   .simp only [qG]
theorem zUH:∀(l:List Int) (n:Int),zgo l->zgo (zun l n)
 | [],n,_=>by simp[zun,zgo]
 | y :: l,n,h=>by
  have h1:=kP.1 h;unfold zun;split
  .rename_i hlt;refine kP.2 ⟨fun z hz=>?_,zUH l n h1.2⟩;rcases (zFz l n z).1 hz with rfl|hz
   .exact hlt
   .exact h1.1 z hz
  .split
   .exact h
   .rename_i h2 h3;refine kP.2 ⟨fun z hz=>?_,h⟩;rcases qG.1 hz with rfl|hz
    .omega
    .have:=h1.1 z hz;omega
theorem zZb:∀(l m:List Int),zgo l->zgo m->(∀x,x∈l↔x∈m)->l=m
 | [],[],_,_,_=>rfl
 | [],y :: m,_,_,h=>by have:=(h y).2 (by simp);cases this
 | x :: l,[],_,_,h=>by have:=(h x).1 (by simp);cases this
 | x :: l,y :: m,hl,hm,h=>by
  have h1:=kP.1 hl;have h2:=kP.1 hm;have e:x=y:=by
   have a:x∈y :: m:=(h x).1 (by simp)
   have b:y∈x :: l:=(h y).2 (by simp)
   rcases qG.1 a with a|a
   .exact a
   .rcases qG.1 b with b|b
    .exact b.symm
    .have:=h2.1 x a;have:=h1.1 y b;omega
  subst e;have ih:=zZb l m h1.2 h2.2 (fun z=>by
   constructor
   .intro hz;rcases qG.1 ((h z).1 (by simp[hz])) with a|a
    .have:=h1.1 z hz;omega
    .exact a
   .intro hz;rcases qG.1 ((h z).2 (by simp[hz])) with a|a
    .have:=h2.1 z hz;omega
    .exact a)
  rw[ih]
def zz3 (l:List Int)(xs:List Int):List Int:=xs.foldl zun l
theorem zBb:∀(xs l:List Int),zgo l->zgo (zz3 l xs)
 | [],_,h=>h
 | x :: xs,l,h=>zBb xs (zun l x) (zUH l x h)
theorem zwV:∀(xs l:List Int) (x:Int),x∈zz3 l xs↔x∈l\/x∈xs
 | [],l,x=>by simp[zz3]
 | y :: xs,l,x=>by
  have:=zwV xs (zun l y) x;unfold zz3 at this ⊢;rw[kY,this,zFz,qG];constructor
  .rintro ((h|h)|h)<;>simp [h]
  .rintro (h|h|h)<;>simp [h]
theorem zI4 {d:List Int}(h:d.Pairwise (·<=·)){i j:Nat}(hij:i<=j)(hj:j<d.length):d[i]<=d[j]:=by
 by_cases e:i=j
 .subst e;exact jU _
 .exact List.pairwise_iff_getElem.1 h i j (by omega) hj (by omega)
theorem zie {d:List Int}{i:Nat}(h:i<d.length):d.toArray[i]! = d[i]:=by simp[h]
theorem zWG {d:List Int}(h:d.Pairwise (·<=·)):zgo (Lib.compact d):=by
 unfold zgo Lib.compact Lib.compactUpTo;refine List.pairwise_map.2 (List.Pairwise.imp_of_mem ?_ (List.Pairwise.filter _ List.pairwise_lt_range));intro a b ha hb hab;have hb1:=kT.1 hb;have hb2:b<d.length:=j9.1 hb1.1;have hk:=hb1.2;have ha2:a<d.length:=by omega
 rw[zie ha2,zie hb2];have h1:d[a]<=d[b-1]:=zI4 h (by omega) (by omega)
 have h2:d[b-1]<=d[b]:=zI4 h (by omega) hb2
 have h3:d[b-1]≠d[b]:=by
  intro e;have:Lib.keeps d.toArray b=false:=Lib.keeps_neg (by omega) (by rw[zie hb2,zie (by omega)];exact e.symm)
  rw[this]at hk;cases hk
 omega
theorem mem_compact {d:List Int}(x:Int):x∈Lib.compact d↔x∈d:=by
 unfold Lib.compact Lib.compactUpTo;simp only[q9,kT,j9];constructor
 .rintro ⟨j,⟨hj,-⟩,rfl⟩
  rw[zie hj];exact jB hj
 .intro hx;obtain ⟨j,hj,rfl⟩:=List.mem_iff_getElem.1 hx;have key:∀(j:Nat) (hj:j<d.length),∃i,(i<d.length/\Lib.keeps d.toArray i=true)/\d.toArray[i]! = d[j]:=by
   intro j
   induction j with
   | zero=>exact fun hj=>⟨0,⟨hj,Lib.keeps_lt_one _ 0 (by decide)⟩,zie hj⟩
   | succ j ih =>
    intro hj
    by_cases e:d[j+1]=d[j]
    .obtain ⟨i,h1,h2⟩:=ih (by omega)
     exact ⟨i,h1,h2.trans e.symm⟩
    .exact ⟨j+1,⟨hj,Lib.keeps_pos (by rw[zie hj,zie (by omega)];exact e)⟩,zie hj⟩
  exact key j hj
theorem zID (xs:List Int):zz3 [] xs=zeD xs:=by
 have hs:(xs.mergeSort fun x y=>decide (x<=y)).Pairwise (·<=·):=by
  have:=List.pairwise_mergeSort (le:=fun x y:Int=>decide (x<=y)) (fun a b c h1 h2=>by simp at *;omega) (fun a b=>by simp;omega) xs
  exact this.imp (fun h=>by simpa using h)
 refine zZb _ _ (zBb xs [] List.Pairwise.nil) (zWG hs) (fun x=>?_);rw[zwV,zeD,mem_compact,List.mem_mergeSort];simp
theorem zPC {α:Type}{l:List α}(h:l.length<=2147483648):few (ln l)=true:=zgs h
def z6K:ze3:=[(84,([true],none,zmZ))]++zj7
theorem zUB:zdY z6K:=zl5 zy (by
 intro x hx;simp only[qG,qY,or_false]at hx;rcases hx with rfl
 .exact zBT)
def z5k:zU:=[(49,zAk),(101,zAm),(82,zz5),(83,zr0),(98,zuq)]++zmD
theorem zMv:zD z5k:=zh zDs (zh zDt (zh zDr (zh zvb (zh zxJ zfE))))
def picks {α:Type}(f:Nat->α->Option Int):List α->Nat->List Int
 | [],_=>[]
 | x :: l,i=>match f i x with
  | some n=>n :: picks f l (i+1)
  | none=>picks f l (i+1)
theorem ztg {α:Type}(f:Nat->α->Option Int):∀(l:List α) (i:Nat),(picks f l i).length<=l.length
 | [],_=>qX _
 | x :: l,i=>by
  have:=ztg f l (i+1);unfold picks;split<;>simp<;>omega
def zEj {ρ:Type}(o:Option Int)(t:List Int)(κ:List Int->Option ρ):Option ρ:=match o with
 | some n=>bif few (ln (ap t [n])) then κ (ap t [n]) else none
 | none=>κ t
theorem zu7 {α ρ:Type}(f:Nat->α->Option Int)(K:List Int->Option ρ):∀(l:List α) (i:Nat) (t:List Int),t.length+l.length<=2147483648 ->
 goL (fun i x t κ=>zEj (f i x) t κ) K l i t=K (t++picks f l i)
 | [],_,_,_=>by simp[goL,picks]
 | x :: l,i,t,h=>by
  simp only[qV]at h;simp only[goL,zEj,picks];cases f i x with
  | none=>exact zu7 f K l (i+1) t (by omega)
  | some n =>
   simp only[zPC (show (ap t [n]).length<=2147483648 by simp[ap];omega),cT]
   refine (zu7 f K l (i+1) (ap t [n]) (by simp[ap];omega)).trans ?_
   simp[ap]
def zBE (s:Slot):Option Int:=bif ine s.Page (-1) then some s.Page else none
def zhr (h:Host)(m:Int):List Int:=zeD (picks (fun _ s=>zBE s) (zjS h m).Outer 0)
theorem z4p {h:Host}(hs:zbI h)(m:Int):(zjS h m).Outer.length<=1048576:=(z0D hs m).len
def zrO (h:Host)(_:Int):Bool:=pc (zbI h)
def zqK (h:Host)(m:Int):List Int:=zhr h m
def zvw:Run:=rF2 dH dI fun b c=>(zrO b c,[aS .int (zqK b c)])
def zyD (N:Nat)(a0:Host)(a1:Int):OA:=
 (oN (zdx a1 (ln a0.Mons)) (cond (nB (zdP a1 (ln a0.Mons))) (some [(aS .int [])]) (oN (inb a1 (ln a0.Mons)) (iter (σ:=(Int×(Int×(Int×((List Int)×(lN×Unit)))))) N (fun r3 s4=>let y2:=s4.2.2.2.1;let y1:=(ix s4.2.2.2.2.1 s4.1 zf).Outer;let y0:=(ix y1 s4.2.2.1 zI).Page; (cond (ilt s4.2.2.1 s4.2.1) (oN (inb s4.2.2.1 (ln y1)) (cond (ine y0 (-1)) (oN (few (ln (ap y2 [y0]))) (r3 (s4.1,(s4.2.1,((zG .i64 s4.2.2.1 1),((ap y2 [y0]),(s4.2.2.2.2.1,()))))))) (r3 (s4.1,(s4.2.1,((zG .i64 s4.2.2.1 1),(y2,(s4.2.2.2.2.1,())))))))) (oN (zgM y2) (some [(aS .int (ziV y2))])))) (a1,((ln (ix a0.Mons a1 zf).Outer),(0,([],(a0.Mons,())))))))))
def zLz:FuncId->Nat->Option Tmpl:=zx [(30,0,{ n:=37,tm:=[(5,.sl 0 []),(20,.sl 1 [0]),(21,ti),(22,ti)],lo:=[],ro:=[(0,.int,true),(1,.mon,false)] })]
theorem zKu (a0:Host)(a1:Int)(hc:zrO a0 a1=true):∃N,zyD N a0 a1=some [aS .int (zqK a0 a1)]:=by
 have hs:=zF.1 hc;have hl:=z4p hs a1;have hlb:=(zcF (n:=(zjS a0 a1).Outer.length) hl).1;refine zb9 fun N hNN=>?_;unfold zyD zqK zhr zdP oN nB
 conv=>zeta
 cases hh:hasB a1 (ln a0.Mons)
 .simp only [zdx,cT,Bool.not_false,zjS,hh,cF];rw[show zf.Outer=[] from rfl,picks,zMe]
 .have e:zjS a0 a1=ix a0.Mons a1 zf:=by unfold zjS;rw[hh];rfl
  rw[e]at hl hlb ⊢;refine (show _=_ from rfl:_=(cond (inb a1 (ln a0.Mons)) _ none)).trans ?_
  rw[zu hh,cT];refine (zX ((ix a0.Mons a1 zf).Outer) (fun i (t:(List Int))=>(a1,(ln (ix a0.Mons a1 zf).Outer),(i:Int),t,a0.Mons,())) _ (fun _ (x:Slot) (t:List Int) κ=>zEj (zBE x) t κ) (fun (t:(List Int))=>(cond (zgM t) (some [(.one (.s .int (ziV t)))]) none)) (fun i hi t rec=>?_) (fun t rec=>?_) _ ([]) (hNN hlb)).trans ?_
  .simp only [zbs hi,zV hi,zbe hi,zQ hi hlb,cT];unfold zBE;cases ine (ix a0.Mons a1 zf).Outer[i].Page (-1)<;>rfl
  .simp only [zbl,cF]
  rw[zu7 (fun _ s=>zBE s) _ _ 0 [] (by simp;omega)]
  rfl
theorem zEH:vH 30 zvw:=kF2 zMv zl zq zUB zLz zKu
theorem zUY {ρ:Type}{c:Bool}{a b r:Option ρ}(h:c=true)(k:a=r):(cond c a b)=r:=by rw[h];exact k
theorem z6x {ρ:Type}{c:Bool}{a b r:Option ρ}(h:c=false)(k:b=r):(cond c a b)=r:=by rw[h];exact k
def zVV (s:Slot):Option Int:=bif ine s.Page (-1) then some s.Page else none
def zwf (k:Kept)(j:Nat):Option Int:=bif zfv k (j:Int) then zVV (zdF k (j:Int)) else none
def zIF (k:Kept):List Int:=picks (fun j (_:Slot)=>zwf k j) k.Slots 0
def zlf:List Kept->List Int
 | []=>[]
 | k :: l=>zIF k++zlf l
def znC:List Kept->Nat
 | []=>0
 | k :: l=>k.Slots.length+znC l
theorem zw2:∀l:List Kept,(zlf l).length<=znC l
 | []=>qX _
 | k :: l=>by
  have h1:=zw2 l;have h2:=ztg (fun j (_:Slot)=>zwf k j) k.Slots 0;simp only[zlf,znC,jR];unfold zIF;omega
theorem zHc {ρ:Type}(K:List Int->Option ρ):∀(l:List Kept) (i:Nat) (t:List Int),t.length+znC l<=2147483648 ->
 goL (fun _ (x:Kept) t κ=>goL (fun j (_:Slot) u κ₁=>zEj (zwf x j) u κ₁) κ x.Slots 0 t) K l i t=K (t++zlf l)
 | [],_,_,_=>by simp[goL,zlf]
 | k :: l,i,t,h=>by
  simp only[znC]at h;simp only[goL,zlf];have hq:=ztg (fun j (_:Slot)=>zwf k j) k.Slots 0;rw[zu7 (fun j (_:Slot)=>zwf k j) _ k.Slots 0 t (by omega),<- kA]
  exact zHc K l (i+1) _ (by simp only[jR];omega)
def zLv (m:Int)(e:Entry):Option Int:=bif ieq (zcg e.Tag) m then some e.Host else none
def zIE (h:Host)(m:Int):List Int:=picks (fun _ e=>zLv m e) (h.Buffer++h.IoBuffer) 0
def zi0 (h:Host)(m:Int):List Int:=bif hasB m (ln h.Mons) then zeD (zlf (ix h.Mons m zf).Tables++zIE h m) else []
def zBg (h:Host)(m:Int):Prop:=zbI h/\(hasB m (ln h.Mons)=true->znC (ix h.Mons m zf).Tables<=16777216)
theorem zYB {h:Host}{m:Int}(hr:zBg h m):(zi0 h m).length<=33554432:=by
 unfold zi0;cases hh:hasB m (ln h.Mons)
 .simp
 .have h1:=hr.2 hh;have h2:=zMd (zlf (ix h.Mons m zf).Tables++zIE h m);have h3:=zw2 (ix h.Mons m zf).Tables;have h4:=ztg (fun _ e=>zLv m e) (h.Buffer++h.IoBuffer) 0;have h5:=hr.1.buf.len;have h6:=hr.1.iob.len;unfold sm at h5 h6;unfold zIE at h2 ⊢;simp only[jR] at *;simp only[cT];omega
theorem z3X {h:Host}(hs:zbI h){m:Int}(hh:hasB m (ln h.Mons)=true):∀x∈(ix h.Mons m zf).Tables,x.Known.length<=1048576/\x.Slots.length<=1048576:=by
 intro x hx;have hm:=hs.mons.inv.2 _ (zbq hh zf);have hT:CVB sm (.s .kept (ix h.Mons m zf).Tables):=hm _ (by simp[Ty.cells])
 exact ⟨(hT.inv.2 x hx (.s .bool x.Known) (by simp[Ty.cells])).len,(hT.inv.2 x hx (.s .slot x.Slots) (by simp[Ty.cells])).len⟩
def zta (h:Host)(m:Int):Bool:=pc (zBg h m)
def zfH (h:Host)(m:Int):List Int:=zi0 h m
def zDK:Run:=rF2 dH dI fun b c=>(zta b c,[aS .int (zfH b c)])
def zLV (N:Nat)(a0:Host)(a1:Int):OA:=
 (oN (zdx a1 (ln a0.Mons)) (cond (nB (zdP a1 (ln a0.Mons))) (some [(aS .int [])]) (oN (inb a1 (ln a0.Mons)) (iter (σ:=(Int×(Int×(Int×(Int×((List Int)×(lN×(lM×(lE×(lE×Unit)))))))))) N (fun r3 s4=>let y14:=s4.2.2.2.2.2.2.2.1;let y11:=s4.2.2.2.1;let y10:=(ix s4.2.2.2.2.2.1 s4.2.1 zf).Tables;let y3:=(ap (ap [] y14) s4.2.2.2.2.2.2.2.2.1); (cond (ilt y11 s4.2.2.1) (oN (inb y11 (ln y10)) (iter (σ:=(Int×(Int×(Int×(Int×(Int×(Int×(Int×(Int×(Int×(Int×((List Int)×(lN×(lM×(lE×(lE×Unit)))))))))))))))) N (fun r5 s6=>let y19:=s6.2.2.2.2.2.2.1;let y15:=s6.2.2.2.2.2.2.2.1;let y13:=s6.2.2.2.2.2.2.2.2.1;let y12:=s6.2.2.2.2.2.2.2.2.2.1;let y9:=s6.2.2.2.2.2.2.2.2.2.2.2.2.1;let y8:=s6.2.2.2.2.2.2.2.2.2.2.2.2.2.1;let y7:=s6.2.2.2.2.2.2.2.2.2.2.2.2.2.2.1;let y6:=s6.2.2.2.2.2.2.2.2.2.2.1;let y5:=s6.2.2.2.2.2.1;let y4:=s6.2.2.2.2.2.2.2.2.2.2.2.1;let y1:=(r5 (s6.1,(s6.2.1,(s6.2.2.1,(s6.2.2.2.1,(s6.2.2.2.2.1,((zG .i64 y5 1),(y19,(y15,(y13,(y12,(y6,(y4,(y9,(y8,(y7,()))))))))))))))));let y0:=({ (ix (ix y4 y19 zf).Tables y15 zdd) with Slots:=(ix (ix y4 y13 zf).Tables y12 zdd).Slots }:Kept);let y18:=(zvd y0 y5).Page; (cond (ilt y5 s6.2.2.2.2.1) (oN (zBw y0 y5) (cond (zve y0 y5) (cond (ine y18 (-1)) (oN (few (ln (ap y6 [y18]))) (r5 (s6.1,(s6.2.1,(s6.2.2.1,(s6.2.2.2.1,(s6.2.2.2.2.1,((zG .i64 y5 1),(y19,(y15,(y13,(y12,((ap y6 [y18]),(y4,(y9,(y8,(y7,()))))))))))))))))) y1) y1)) (r3 (s6.1,(s6.2.1,(s6.2.2.1,((zG .i64 s6.2.2.2.1 1),(y6,(y4,(y9,(y8,(y7,())))))))))))) (s4.1,(s4.2.1,(s4.2.2.1,(y11,((ln (ix y10 y11 zdd).Slots),(0,(s4.2.1,(y11,(s4.2.1,(y11,(s4.2.2.2.2.1,(s4.2.2.2.2.2.1,(s4.2.2.2.2.2.2.1,(y14,(s4.2.2.2.2.2.2.2.2.1,()))))))))))))))))) (oN (few (ln (ap [] y14))) (oN (few (ln y3)) (iter (σ:=(Int×(Int×(Int×((List Int)×(lE×Unit)))))) N (fun r5 s6=>let y17:=s6.2.2.2.2.1;let y16:=s6.2.2.2.1;let y2:=(ix y17 s6.2.2.1 zdD); (cond (ilt s6.2.2.1 s6.2.1) (oN (inb s6.2.2.1 (ln y17)) (oN (zil y2.Tag) (cond (ieq (zjy y2.Tag) s6.1) (oN (few (ln (ap y16 [y2.Host]))) (r5 (s6.1,(s6.2.1,((zG .i64 s6.2.2.1 1),((ap y16 [y2.Host]),(y17,()))))))) (r5 (s6.1,(s6.2.1,((zG .i64 s6.2.2.1 1),(y16,(y17,()))))))))) (oN (zgM y16) (some [(aS .int (ziV y16))])))) (s4.1,((ln y3),(0,(s4.2.2.2.2.1,(y3,())))))))))) (a1,(a1,((ln (ix a0.Mons a1 zf).Tables),(0,([],(a0.Mons,(a0.Memory,(a0.Buffer,(a0.IoBuffer,())))))))))))))
def zTA:FuncId->Nat->Option Tmpl:=zx [(29,0,{ n:=81,tm:=[(1,ti),(2,.lp 0 0),(5,.sl 0 []),(25,.sl 1 [7]),(26,ti),(27,ti)],lo:=[(0,[.sl 2 [],.sl 1 [],.sl 3 [],.sl 4 []])],ro:=[(0,.int,true),(1,.mon,false),(2,(.sl .int),false),(3,.entry,false),(4,.entry,false)] }),(29,2,{ n:=81,tm:=[(1,ti),(2,.lp 0 0),(5,.sl 0 []),(7,.lp 1 0),(25,.sl 1 [7]),(26,ti),(27,ti),(33,ti),(34,ti)],lo:=[(0,[.sl 2 [],.sl 1 [],.sl 3 [],.sl 4 []]),(1,[.sl 1 [7,0],.sl 1 [7,1]])],ro:=[(0,.int,true),(1,.mon,false),(2,(.sl .int),false),(3,.entry,false),(4,.entry,false)] }),(29,4,{ n:=81,tm:=[(1,ti),(5,.sl 0 []),(62,.sl 1 []),(63,ti),(64,ti)],lo:=[],ro:=[(0,.int,true),(1,.entry,true)] })]
theorem zSF (a0:Host)(a1:Int)(hc:zta a0 a1=true):∃N,zLV N a0 a1=some [aS .int (zfH a0 a1)]:=by
 have hr:=zF.1 hc;have hs:=hr.1;refine zb9 fun N hNN=>?_;unfold zLV zfH zi0 oN nB
 conv=>zeta
 refine zUY rfl ?_;rw[show zdP a1 (ln a0.Mons)=hasB a1 (ln a0.Mons) from rfl]
 cases hh:hasB a1 (ln a0.Mons)
 .rfl
 have hK:=z3X hs hh;have hm:=hs.mons.inv.2 _ (zbq hh zf);have hT:CVB sm (.s .kept (ix a0.Mons a1 zf).Tables):=hm _ (by simp[Ty.cells])
 have hTb:=(zcF hT.len).1;have hsl:=hr.2 hh;have h5:=hs.buf.len;have h6:=hs.iob.len;unfold sm at h5 h6;have hA:=zw2 (ix a0.Mons a1 zf).Tables;refine z6x rfl (zUY (zu hh) ?_);refine (zX ((ix a0.Mons a1 zf).Tables) (fun i (t:(List Int))=>(a1,a1,(ln (ix a0.Mons a1 zf).Tables),(i:Int),t,a0.Mons,a0.Memory,a0.Buffer,a0.IoBuffer,())) _ (fun _ (x:Kept) (t:List Int) κ=>goL (fun j (_:Slot) u κ₁=>zEj (zwf x j) u κ₁) κ x.Slots 0 t) (fun (t:(List Int))=>(cond (few (ln (ap [] a0.Buffer))) (cond (few (ln (ap (ap [] a0.Buffer) a0.IoBuffer))) (iter (σ:=(Int×(Int×(Int×((List Int)×(lE×Unit)))))) N (fun r5 s6=>(cond (ilt s6.2.2.1 s6.2.1) (cond (inb s6.2.2.1 (ln s6.2.2.2.2.1)) (cond (zil (ix s6.2.2.2.2.1 s6.2.2.1 zdD).Tag) (cond (ieq (zjy (ix s6.2.2.2.2.1 s6.2.2.1 zdD).Tag) s6.1) (cond (few (ln (ap s6.2.2.2.1 [(ix s6.2.2.2.2.1 s6.2.2.1 zdD).Host]))) (r5 (s6.1,(s6.2.1,((zG .i64 s6.2.2.1 1),((ap s6.2.2.2.1 [(ix s6.2.2.2.2.1 s6.2.2.1 zdD).Host]),(s6.2.2.2.2.1,())))))) none) (r5 (s6.1,(s6.2.1,((zG .i64 s6.2.2.1 1),(s6.2.2.2.1,(s6.2.2.2.2.1,()))))))) none) none) (cond (zgM s6.2.2.2.1) (some [(.one (.s .int (ziV s6.2.2.2.1)))]) none))) (a1,((ln (ap (ap [] a0.Buffer) a0.IoBuffer)),(0,(t,((ap (ap [] a0.Buffer) a0.IoBuffer),())))))) none) none)) (fun i hi t rec=>?_) (fun t rec=>?_) _ ([]) (hNN hTb)).trans ?_
 .simp only [zbs hi,zV hi,zbe hi,zQ hi hTb,cT];obtain ⟨hk1,hk2⟩:=hK _ (jB hi);have hkb:=(zcF (n:=(ix a0.Mons a1 zf).Tables[i].Slots.length) hk2).1;refine (zX (((ix a0.Mons a1 zf).Tables)[i].Slots) (fun j (u:(List Int))=>(a1,a1,(ln (ix a0.Mons a1 zf).Tables),(i:Int),(ln ((ix a0.Mons a1 zf).Tables)[i].Slots),(j:Int),a1,(i:Int),a1,(i:Int),u,a0.Mons,a0.Memory,a0.Buffer,a0.IoBuffer,())) _ (fun j (_:Slot) (u:List Int) κ₁=>zEj (zwf (ix a0.Mons a1 zf).Tables[i] j) u κ₁) (fun (u:(List Int))=>(rec (a1,(a1,((ln (ix a0.Mons a1 zf).Tables),((((i+1:Nat)):Int),(u,(a0.Mons,(a0.Memory,(a0.Buffer,(a0.IoBuffer,()))))))))))) (fun j hj u rec1=>?_) (fun u rec1=>?_) _ (t) (hNN hkb)).trans ?_
  .simp only [zbs hj,zV hj,zbe hj,zQ hj hkb,cT,zV hi,zbe hi,zQ hi hTb,zu hh];simp only[zBw,zvd,zve,cT];unfold zwf zVV;cases zfv (ix a0.Mons a1 zf).Tables[i] (j:Int)
   .rfl
   .cases ine (zdF (ix a0.Mons a1 zf).Tables[i] (j:Int)).Page (-1)<;>rfl
  .simp only [zbl,cF,zV hi,zbe hi,zQ hi hTb,zu hh]
  rfl
 .simp only [zbl,cF]
 rw[zHc _ _ 0 [] (by simp;omega)]
 refine zUY (zPC (by rw[zgT];omega)) (zUY (zPC (by rw[zgT];simp only[ap,jR];omega)) ?_)
 have hbl:(ap (ap [] a0.Buffer) a0.IoBuffer).length<=big:=by rw[znR,zgT];simp only[ap,jR];omega
 obtain ⟨t,ht⟩:∃t,t=[]++zlf (ix a0.Mons a1 zf).Tables:=⟨_,rfl⟩;rw[<- ht];refine (zX (ap (ap [] a0.Buffer) a0.IoBuffer) (fun j (u:(List Int))=>(a1,(ln (ap (ap [] a0.Buffer) a0.IoBuffer)),(j:Int),u,(ap (ap [] a0.Buffer) a0.IoBuffer),())) _ (fun _ (y:Entry) (u:List Int) κ=>zEj (zLv a1 y) u κ) (fun (u:(List Int))=>(cond (zgM u) (some [(.one (.s .int (ziV u)))]) none)) (fun j hj u rec1=>?_) (fun u rec1=>?_) _ (t) (hNN hbl)).trans ?_
 .simp only [zbs hj,zV hj,zbe hj,zQ hj hbl,cT];unfold zLv;simp only[zil,zjy,cT];cases ieq (zcg (ap (ap [] a0.Buffer) a0.IoBuffer)[j].Tag) a1<;>rfl
 .simp only [zbl,cF]
 subst ht;rw[zu7 (fun _ y=>zLv a1 y) _ _ 0 _ (by rw[zgT];simp only[ap,jR,uV];omega)]
 rfl
theorem zNk:vH 29 zDK:=kF2 zMv zl zq zUB zTA zSF
theorem zUe {l:List Int}{x:Int}:x∈zeD l↔x∈l:=by
 rw[<- zID,zwV];simp
theorem z5L (l:List Int):zgo (zeD l):=by
 rw[<- zID];exact zBb l [] List.Pairwise.nil
theorem z1f {l:List Int}(h:zgo l):l.Nodup:=List.Pairwise.imp (fun h e=>by omega) h
theorem zUA:∀{l r:List Int},l.Nodup->(∀x∈l,x∈r)->l.length<=r.length
 | [],_,_,_=>jS _
 | x :: l,r,hn,hs=>by
  have h1:=List.nodup_cons.1 hn;have hx:=hs x jD;have:l.length<=(r.erase x).length:=zUA h1.2 fun y hy=>by
   have hne:y≠x:=fun e=>h1.1 (e ▸ hy);exact (List.mem_erase_of_ne hne).2 (hs y (qU _ hy))
  rw[List.length_erase_of_mem hx] at this;have:=List.length_pos_of_mem hx;simp only[qV];omega
theorem zte {α:Type}{f:Nat->α->Option Int}{q:Int}:∀{l:List α} {i:Nat},q∈picks f l i↔∃k:Nat,∃hk:k<l.length,f (i+k) l[k]=some q
 | [],i=>by simp[picks]
 | x :: l,i=>by
  have ih:=@zte α f q l (i+1);unfold picks;constructor
  .intro h;cases hf:f i x with
   | none =>
    rw[hf]at h;obtain ⟨k,hk,e⟩:=ih.1 h;exact ⟨k+1,by simp;omega,by rw[show i+(k+1)=i+1+k by omega];exact e⟩
   | some n =>
    rw[hf]at h;rcases qG.1 h with rfl|h
    .exact ⟨0,by simp,hf⟩
    .obtain ⟨k,hk,e⟩:=ih.1 h;exact ⟨k+1,by simp;omega,by rw[show i+(k+1)=i+1+k by omega];exact e⟩
  .rintro ⟨k,hk,e⟩
   have tail:∀k:Nat,∀hk:k+1<(x :: l).length,f (i+(k+1)) (x :: l)[k+1]=some q->q∈picks f l (i+1):=fun k hk e=>ih.2 ⟨k,by simpa using hk,by rw[show i+1+k=i+(k+1) by omega];exact e⟩
   cases hf:f i x with
   | none =>
    cases k with
    | zero=>rw[show f (i+0) (x :: l)[0]=f i x from rfl,hf] at e;cases e
    | succ k=>exact tail k hk e
   | some n =>
    cases k with
    | zero=>rw[show f (i+0) (x :: l)[0]=f i x from rfl,hf] at e;cases e;exact jD
    | succ k=>exact qU _ (tail k hk e)
theorem z4i {h:Host}{m:Int}(hm:hasB m (ln h.Mons)=true):zjS h m=ix h.Mons m mZ:=by
 show (cond (hasB m (ln h.Mons)) _ _)=_
 rw[hm];rfl
theorem zUh {h:Host}{m:Int}(hm:hasB m (ln h.Mons)=true){q:Int}:q∈zhr h m↔q≠-1/\∃k,hasB k (ln (ix h.Mons m mZ).Outer)=true/\(ix (ix h.Mons m mZ).Outer k sZ).Page=q:=by
 unfold zhr;rw[zUe,z4i hm,zte];constructor
 .rintro ⟨k,hk,e⟩
  unfold zBE at e
  by_cases hp:(ix h.Mons m mZ).Outer[k].Page = -1
  .rw [show ine (ix h.Mons m mZ).Outer[k].Page (-1)=false by simp[ine,hp]] at e;cases e
  .rw [zko.2 hp] at e;have e':(ix h.Mons m mZ).Outer[k].Page=q:=Option.some.inj e;refine ⟨e' ▸ hp,(k:Int),zn.2 ⟨by omega,by unfold ln;omega⟩,?_⟩
   rw[ziE hk];exact e'
 .rintro ⟨hq,k,hk,e⟩
  obtain ⟨j,hj,rfl,e2⟩:=ztc hk sZ;refine ⟨j,hj,?_⟩;rw[e2] at e;unfold zBE;rw[zko.2 (e ▸ hq),<- e];rfl
theorem zTu {o:List Slot}{p:Int}(h:(zbf o p).Page≠-1):hasB p (ln o)=true/\zbf o p=ix o p sZ:=by
 unfold zbf at h ⊢;cases hh:hasB p (ln o) with
 | false=>rw[hh]at h;exact absurd rfl h
 | true=>exact ⟨rfl,rfl⟩
theorem zPk {s:Slot}{o:List Slot}(h:(zW s o).Page≠-1):(zW s o).Page=(zbf o s.Page).Page:=by
 unfold zW at h ⊢;cases h1:ieq s.Page (-1) with
 | true=>rw[h1]at h;exact absurd rfl h
 | false =>
  rw[h1]at h;rw[cond_false]at h ⊢;cases h2:ieq (zbf o s.Page).Page (-1) with
  | true=>rw[h2]at h;exact absurd rfl h
  | false =>
   rw[h2]at h;rw[cond_false]at h ⊢;cases h3:ieq (zcR s.Rights (zbf o s.Page).Rights) 0 with
   | true=>rw[h3]at h;exact absurd rfl h
   | false=>rfl
theorem zDf {h:Host}{m:Int}(hm:hasB m (ln h.Mons)=true){s:Slot}{q:Int}(e:(zW s (ix h.Mons m mZ).Outer).Page=q)(hq:q≠-1):q∈zhr h m:=by
 have h1:=zPk (e ▸ hq);rw[e]at h1;obtain ⟨h2,h3⟩:=zTu (o:=(ix h.Mons m mZ).Outer) (p:=s.Page) (h1 ▸ hq);exact (zUh hm).2 ⟨hq,s.Page,h2,by rw[<- h3];exact h1.symm⟩
theorem zMW {h:Host}(S:Safe h)(B:Bf h){m:Int}(hm:hasB m (ln h.Mons)=true):∀q∈zi0 h m,q∈zhr h m:=by
 intro q hq;unfold zi0 at hq;rw[hm,cond_true,zUe]at hq;rcases jF.1 hq with hq|hq
 .have key:∀l:List Kept,q∈zlf l->∃k∈l,q∈zIF k:=by
   intro l
   induction l with
   | nil=>intro hh;cases hh
   | cons k l ih =>
    intro hh;rcases jF.1 hh with hh|hh
    .exact ⟨k,jD,hh⟩
    .obtain ⟨k',h1,h2⟩:=ih hh;exact ⟨k',qU _ h1,h2⟩
  obtain ⟨k,hk,hq⟩:=key _ hq;obtain ⟨g,hg,e⟩:=zvp hk kZ;have M:=S.ok.mon hm;have hg2:hasB g (ln (ix h.Mons m mZ).Guests)=true:=by
   have:(ix h.Mons m mZ).Tables.length=(ix h.Mons m mZ).Guests.length:=M.gt;unfold ln at hg ⊢;rw[<- this];exact hg
  have K:=S.rt.t m hm g hg2;rw[e] at K;unfold zIF at hq;obtain ⟨j,hj,e1⟩:=zte.1 hq;rw[jX] at e1;unfold zwf at e1;cases hn:zfv k (j:Int) with
  | false=>rw[hn] at e1;cases e1
  | true =>
   rw[hn,cond_true] at e1;unfold zdF at e1;rw[hn,cond_true] at e1;unfold zVV at e1
   by_cases hp:(ix k.Slots (j:Int) zI).Page = -1
   .rw [show ine (ix k.Slots (j:Int) zI).Page (-1)=false by simp[ine,hp]] at e1;cases e1
   .rw [zko.2 hp] at e1;have e2:(ix k.Slots (j:Int) sZ).Page=q:=Option.some.inj e1;have hl:hasB (j:Int) (ln (ix (ix h.Mons m mZ).Guests g gZ).Live)=true:=zn.2 ⟨by omega,by have:=K.l2;unfold ln;omega⟩
    have e3:=K.at' (j:Int) hl;unfold zfv at hn;have hkn:ix k.Known (j:Int) false=true:=by
     cases hh:zcY k (j:Int) with
     | false=>rw[hh]at hn;cases hn
     | true=>rw[hh]at hn;exact hn
    rw[hkn,cond_true] at e3;rw[e3] at e2;exact zDf hm e2 (by rw[<- e2,<- e3];exact hp)
 .unfold zIE at hq;obtain ⟨j,hj,e1⟩:=zte.1 hq;have hmem:(h.Buffer++h.IoBuffer)[j]∈h.Buffer++h.IoBuffer:=jB hj;generalize (h.Buffer++h.IoBuffer)[j]=en at e1 hmem;unfold zLv at e1;cases ht:ieq (zcg en.Tag) m with
  | false=>rw[ht] at e1;cases e1
  | true =>
   rw[ht] at e1;have e2:en.Host=q:=Option.some.inj e1;have et:zcg en.Tag=m:=zbg.1 ht;have hb:zb0 h en=true/\en.Host≠-1:=by
    rcases jF.1 hmem with hb|hb
    .exact ⟨S.rt.e1 en hb,B.b en hb⟩
    .exact ⟨S.rt.e2 en hb,B.io en hb⟩
   obtain ⟨_,_,hbl⟩:=zes.1 hb.1;rw[et]at hbl;rcases zl9.1 hbl with hno|⟨hp,_⟩
   .exact absurd (congrArg Slot.Page hno) hb.2
   .have hp:en.Host=(zW _ (ix h.Mons m mZ).Outer).Page:=hp;exact zDf hm (hp.symm.trans e2) (by rw[<- e2];exact hb.2)
theorem z0N {h:Host}(S:Safe h)(B:Bf h){m:Int}(hm:hasB m (ln h.Mons)=true):(zi0 h m).length<=(zhr h m).length:=by
 have hr:=zMW S B hm;refine zUA (z1f ?_) hr;unfold zi0;rw[hm,cond_true];exact z5L _
theorem z4o {h:Host}(H:HOk h){m p:Int}(hm:hasB m (ln h.Mons)=true)(hp:hasB p 8=true)(hn:(ix (ix h.Mons m mZ).Outer p sZ).Page≠-1):(ix (ix h.Mons m mZ).Outer p sZ).Page∉zhr (zcC h m p) m:=by
 intro hq;have hop:=zLg H hm hp hn;have hm2:hasB m (ln (zcC h m p).Mons)=true:=by rw[hop.like.has];exact hm
 obtain ⟨_,k,hk,e⟩:=(zUh hm2).1 hq;obtain ⟨b,e0⟩:=zM1 H hm hp;have hk8:hasB k 8=true:=by
  have:(ix (zcC h m p).Mons m mZ).Outer.length=8:=(hop.ok.mon hm2).o8;unfold ln at hk;rw[this]at hk;exact hk
 by_cases hkp:k=p
 .rw [hkp,e0] at e;exact hn e.symm
 .rw [b.ne m k hm hk8 (fun x=>hkp x.2)] at e;have:=H.uniq hm hk8 hm hp e rfl (by
   obtain ⟨h1,_⟩:=(H.mon hm).slot hp |>.pos hn;exact h1)
  exact hkp this.2
def Ends {ρ:Type}(G:ρ->Prop)(o:Option ρ):Prop:=∃a,o=some a/\G a
section
variable {ρ:Type} {G:ρ->Prop}
theorem zbx {c:Bool}{a b:Option ρ}(h:c=true)(k:Ends G a):Ends G (cond c a b):=by rw[h];exact k
theorem z3C {c:Bool}{a b:Option ρ}(h:c=false)(k:Ends G b):Ends G (cond c a b):=by rw[h];exact k
theorem zcZ {c:Bool}{a b:Option ρ}(h1:c=true->Ends G a)(h2:c=false->Ends G b):Ends G (cond c a b):=by
 cases c
 .exact h2 rfl
 .exact h1 rfl
theorem zlK {x:Option ρ}{f:Option ρ->Option ρ}(h:Ends G x)(k:∀t,Ends G t->Ends G (f t)):Ends G (share x f):=k x h
theorem zGY {a:ρ}(h:G a):Ends G (some a):=⟨a,rfl,h⟩
theorem zrA {σ:Type}{F:(σ->Option ρ)->σ->Option ρ}(I:Nat->σ->Prop)(h:∀n s rec,I n s->(∀k s',k<n->I k s'->Ends G (rec s'))->Ends G (F rec s)):∀(N n:Nat) (s:σ),I n s->n<N->Ends G (iter N F s)
 | 0,n,s,_,hn=>absurd hn (Nat.not_lt_zero n)
 | N+1,n,s,hI,hn=>h n s (iter N F) hI fun k s' hk hs=>zrA I h N k s' hs (by omega)
theorem z3G {G:Ans->Prop}{o:OA}{r:Ans}(h:Ends (fun a=>a=r) o):o=some r:=by
 obtain ⟨a,h1,h2⟩:=h;rw[h1,h2]
end
instance:Inhabited Cur:=⟨⟨[],0,0⟩⟩
instance:Inhabited Ins:=⟨⟨0,0⟩⟩
instance:Inhabited GAct:=⟨⟨0,0,0,0,0,0⟩⟩
instance:Inhabited Ctl:=⟨⟨0,0,false⟩⟩
instance:Inhabited Host:=⟨⟨[],[],[],[]⟩⟩
def zdk (c:Cur):Prop:=0<=c.i/\c.b.length<=big
theorem zkh {T:Type}(av:T->AV){good:T->Prop}{b:List Int}{x y:Int}{v:T}(h:0<=x)(g:good v):Ends (fun a=>∃s v0,a=(AV.agg (zbF s) :: [av v0])/\(s.b=b/\0<=s.i)/\good v0) (some (AV.agg [.s .u8 b,.i .i64 x,.i .i64 y] :: [av v])) :=
 ⟨_,rfl,⟨b,x,y⟩,v,rfl,⟨rfl,h⟩,g⟩
def zk0 (N:Nat)(c:Cur)  : OA :=
 let y0:=(zG .i64 (zl8 .i64 c.h 6364136223846793005) 1442695040888963407);let y1:=(wand .i64 (z1k .i64 (zBe .i64 y0 33) (zBe .i64 y0 45)) 255); (oN (ile 0 33) (oN (ile 0 45) (cond (ilt c.i (ln c.b)) (oN (inb c.i (ln c.b)) (some [(.agg [(.s .u8 c.b),(.i .i64 (zG .i64 c.i 1)),(.i .i64 y0)]),(aI (wand .i64 (zG .i64 y1 (wcv .i64 (ix c.b c.i 0))) 255))])) (some [(.agg [(.s .u8 c.b),(.i .i64 c.i),(.i .i64 y0)]),(aI y1)]))))
theorem zQZ (N:Nat)(c:Cur)  : zfV (cQ zmD zlQ zLi zj7) (zx []) N 12 88 [false,true,true] (zbF c) []=zk0 N c:=by kernel_rfl
def zjV (c:Cur)(s:Cur)(v0:Int):Prop:=(∃N,zk0 N c=some (AV.agg (zbF s) :: [aI v0]))/\(s.b=c.b/\0<=s.i)/\(0<=v0/\v0<=255)
def zc1 (c:Cur)  : Bool:=pc (∃s v0,zjV c s v0)
def zpk (c:Cur)  : Cur×Int:=Classical.epsilon fun r=>zjV c r.1 r.2
def zci (c:Cur)  : Cur:=bif zc1 c then (zpk c).1 else ⟨[],0,0⟩
def ze1 (c:Cur)  : Int:=(zpk c).2
theorem zi8 {c:Cur}(h:zc1 c=true):zjV c (zci c) (ze1 c):=by
 obtain ⟨s,v0,h2⟩:=zF.1 h;have h3:zjV c (zpk c).1 (zpk c).2:=Classical.epsilon_spec (p:=fun r=>zjV c r.1 r.2) ⟨(s,v0),h2⟩;unfold zci;rw[h,cT];exact h3
theorem zlo (c:Cur)  : 0<=(zci c).i:=by
 unfold zci;cases h:zc1 c with
 | false=>exact jU 0
 | true =>
  have:=(zi8 h).2.1.2;unfold zci at this
  rwa [h] at this
theorem zTg (c:Cur)(h:∃N,Ends (fun a=>∃s v0,a=(AV.agg (zbF s) :: [aI v0])/\(s.b=c.b/\0<=s.i)/\(0<=v0/\v0<=255)) (zk0 N c)):zc1 c=true:=by
 obtain ⟨N,a,e,s,v0,rfl,h⟩:=h;exact zbh ⟨s,v0,⟨N,e⟩,h⟩
def zn8:List CV->List AV->Option (Bool×List CV×List AV)
 | [.s .u8 b,.i .i64 c,.i .i64 d],[]=>some ((zc1 (⟨b,c,d⟩:Cur)),zbF (zci (⟨b,c,d⟩:Cur)),[aI (ze1 (⟨b,c,d⟩:Cur))])
 | _,_=>none
theorem zN6 (c:Cur)(hb:zbQ big (.agg (zbF c) :: []))(hc:zc1 c=true):∃N,zk0 N c=some (.agg (zbF (zci c)) :: [aI (ze1 c)]):=by
 exact (zi8 hc).1
theorem zHG:zdo Tryz.prog 88 [false,true,true] zn8:=by
 refine zb3 (zcW zfE zbt zq zy) (zdN (by kernel_rfl)) ?_
 intro cs avs cs' rs hl hr h;have hb:=zcs hr;unfold zn8 at h;split at h
 .obtain ⟨hc,rfl,rfl⟩:=zcM h;obtain ⟨N,hN⟩:=zN6 _ (by exact hb) hc
  exact ⟨rfl,_,N,12,(zQZ N _ ).trans hN⟩
 .cases h
theorem zM7 {x m:Int}(h0:0<=m)(h1:m<9223372036854775808):0<=wand .i64 x m/\wand .i64 x m<=m:=by
 have hm:(BitVec.ofInt 64 m).toNat=m.toNat:=by
  rw[BitVec.toNat_ofInt];omega
 have hle:(BitVec.ofInt 64 x &&& BitVec.ofInt 64 m).toNat<=m.toNat:=by
  rw[BitVec.toNat_and,hm];exact Nat.and_le_right
 unfold wand
 show 0<=IntKind.wrap .i64 ((BitVec.ofInt 64 x &&& BitVec.ofInt 64 m).toNat:Int)/\IntKind.wrap .i64 ((BitVec.ofInt 64 x &&& BitVec.ofInt 64 m).toNat:Int)<=m
 rw[zrm (by omega) (by omega)]
 omega
@[simp] theorem zGQ {c:Cur}(h:zdk c):zc1 c=true:=by
 refine zTg c ⟨0,?_⟩;unfold zk0 oN
 conv=>zeta
 refine zbx rfl (zbx rfl (zcZ (fun h0=>zbx (qL ⟨h.1,qE h0⟩) (zkh aI ?_ (zM7 (by omega) (by omega)))) (fun _=>zkh aI h.1 (zM7 (by omega) (by omega)))))
 have h1:c.i<ln c.b:=qE h0;have h2:=h.2;have h3:=h.1;rw[znR]at h2;unfold ln at h1;rw[zoC (by omega) (by omega)]
 omega
def zVZ:zdl:=[(88,([false,true,true],zn8))]++zLi
theorem zQ9:zcE zVZ:=zd1 zq (by
 intro x hx;simp only[qG,qY,or_false]at hx;rcases hx with rfl
 .exact zHG)
theorem zEz {b:List Int}{i h:Int}(h0:0<=i)(hb:b.length<=big):zdk ⟨b,i,h⟩:=⟨h0,hb⟩
theorem zBP {x n:Int}(h0:0<=x)(hn:0<n):0<=ziA x n/\ziA x n<n:=by
 unfold ziA;exact ⟨Int.tmod_nonneg _ h0,Int.tmod_lt_of_pos _ hn⟩
def zjj (N:Nat)(c:Cur)(a0:Int):OA:=
 let y2:=({ (zci c) with b:=c.b }:Cur);let y0:=({ (zci y2) with b:=c.b }:Cur);let y1:=({ (zci y0) with b:=c.b }:Cur); (cond (ile a0 0) (some [(.agg [(.s .u8 c.b),(.i .i64 c.i),(.i .i64 c.h)]),(aI 0)]) (cond (ile a0 256) (oN (zc1 c) (oN (ine a0 0) (some [(.agg [(.s .u8 c.b),(.i .i64 (zci c).i),(.i .i64 (zci c).h)]),(aI (ziA (ze1 c) a0))]))) (oN (zc1 c) (oN (zc1 y2) (oN (zc1 y0) (oN (zc1 y1) (oN (ine a0 0) (some [(.agg [(.s .u8 c.b),(.i .i64 (zci y1).i),(.i .i64 (zci y1).h)]),(aI (ziA (zG .i64 (zG .i64 (zG .i64 (zl8 .i64 (ze1 c) 16777216) (zl8 .i64 (ze1 y2) 65536)) (zl8 .i64 (ze1 y0) 256)) (ze1 y1)) a0))]))))))))
theorem zOn (N:Nat)(c:Cur)(a0:Int):zfV (cQ zmD zlQ zVZ zj7) (zx []) N 12 33 [false,true,true] (zbF c) [aI a0]=zjj N c a0:=by kernel_rfl
def ziM (c:Cur)(a0:Int)(s:Cur)(v0:Int):Prop:=(∃N,zjj N c a0=some (AV.agg (zbF s) :: [aI v0]))/\(s.b=c.b/\0<=s.i)/\((0<a0->0<=v0/\v0<a0))
def zZ (c:Cur)(a0:Int):Bool:=pc (∃s v0,ziM c a0 s v0)
def zny (c:Cur)(a0:Int):Cur×Int:=Classical.epsilon fun r=>ziM c a0 r.1 r.2
def zC (c:Cur)(a0:Int):Cur:=bif zZ c a0 then (zny c a0).1 else ⟨[],0,0⟩
def zba (c:Cur)(a0:Int):Int:=(zny c a0).2
theorem znx {c:Cur}{a0:Int}(h:zZ c a0=true):ziM c a0 (zC c a0) (zba c a0):=by
 obtain ⟨s,v0,h2⟩:=zF.1 h;have h3:ziM c a0 (zny c a0).1 (zny c a0).2:=Classical.epsilon_spec (p:=fun r=>ziM c a0 r.1 r.2) ⟨(s,v0),h2⟩;unfold zC;rw[h,cT];exact h3
theorem zcv (c:Cur)(a0:Int):0<=(zC c a0).i:=by
 unfold zC;cases h:zZ c a0 with
 | false=>exact jU 0
 | true =>
  have:=(znx h).2.1.2;unfold zC at this
  rwa [h] at this
theorem zRs (c:Cur)(a0:Int)(h:∃N,Ends (fun a=>∃s v0,a=(AV.agg (zbF s) :: [aI v0])/\(s.b=c.b/\0<=s.i)/\((0<a0->0<=v0/\v0<a0))) (zjj N c a0)):zZ c a0=true:=by
 obtain ⟨N,a,e,s,v0,rfl,h⟩:=h;exact zbh ⟨s,v0,⟨N,e⟩,h⟩
def zmW:List CV->List AV->Option (Bool×List CV×List AV)
 | [.s .u8 b,.i .i64 c,.i .i64 d],[.one (.i .i64 e)]=>some ((zZ (⟨b,c,d⟩:Cur) e),zbF (zC (⟨b,c,d⟩:Cur) e),[aI (zba (⟨b,c,d⟩:Cur) e)])
 | _,_=>none
theorem zKY (c:Cur)(a0:Int)(hb:zbQ big (.agg (zbF c) :: [aI a0]))(hc:zZ c a0=true):∃N,zjj N c a0=some (.agg (zbF (zC c a0)) :: [aI (zba c a0)]):=by
 exact (znx hc).1
theorem zE8:zdo Tryz.prog 33 [false,true,true] zmW:=by
 refine zb3 (zcW zfE zbt zQ9 zy) (zdN (by kernel_rfl)) ?_
 intro cs avs cs' rs hl hr h;have hb:=zcs hr;unfold zmW at h;split at h
 .obtain ⟨hc,rfl,rfl⟩:=zcM h;obtain ⟨N,hN⟩:=zKY _ _ (by exact hb) hc
  exact ⟨rfl,_,N,12,(zOn N _ _ ).trans hN⟩
 .cases h
theorem zhF {c:Cur}(h:zdk c)(n:Int):zZ c n=true:=by
 refine zRs c n ⟨0,?_⟩;have k1:=zGQ h;have k2:zc1 { zci c with b:=c.b }=true:=zGQ (zEz (zlo _) h.2);have k3:zc1 { zci { zci c with b:=c.b } with b:=c.b }=true:=zGQ (zEz (zlo _) h.2);have k4:zc1 { zci { zci { zci c with b:=c.b } with b:=c.b } with b:=c.b }=true:=zGQ (zEz (zlo _) h.2);have b1:=(zi8 k1).2.2;have b2:=(zi8 k2).2.2;have b3:=(zi8 k3).2.2;have b4:=(zi8 k4).2.2;unfold zjj oN
 conv=>zeta
 refine zcZ (fun h0=>zkh aI h.1 (fun hn=>absurd (qE h0) (by omega))) (fun h0=>?_)
 have hn:¬ n<=0:=jV h0;have hz:ine n 0=true:=by simp[ine];omega
 refine zcZ (fun h1=>zbx k1 (zbx hz (zkh aI (zlo _) (fun hp=>zBP b1.1 hp)))) (fun h1=>?_);refine zbx k1 (zbx k2 (zbx k3 (zbx k4 (zbx hz (zkh aI (zlo _) (fun hp=>zBP ?_ hp))))));generalize ze1 c=x1 at b1;generalize ze1 _=x2 at b2;generalize ze1 _=x3 at b3;generalize ze1 _=x4 at b4;have w1:zl8 .i64 x1 16777216=x1*16777216:=zrm (by omega) (by omega)
 have w2:zl8 .i64 x2 65536=x2*65536:=zrm (by omega) (by omega)
 have w3:zl8 .i64 x3 256=x3*256:=zrm (by omega) (by omega)
 rw[w1,w2,w3,zoC (x:=x1*16777216) (by omega) (by omega),zoC (x:=x1*16777216+x2*65536) (by omega) (by omega),zoC (by omega) (by omega)]
 omega
def zOK:zdl:=[(33,([false,true,true],zmW))]++zVZ
theorem zFD:zcE zOK:=zd1 zQ9 (by
 intro x hx;simp only[qG,qY,or_false]at hx;rcases hx with rfl
 .exact zE8)
def zk1 (N:Nat)(c:Cur)(a0:Int):OA:=
 (oN (zZ c a0) (some [(.agg [(.s .u8 c.b),(.i .i64 (zC c a0).i),(.i .i64 (zC c a0).h)]),(aB (ieq (zba c a0) 0))]))
theorem zQ0 (N:Nat)(c:Cur)(a0:Int):zfV (cQ zmD zlQ zOK zj7) (zx []) N 12 147 [false,true,true] (zbF c) [aI a0]=zk1 N c a0:=by kernel_rfl
def zjX (c:Cur)(a0:Int)(s:Cur)(v0:Bool):Prop:=(∃N,zk1 N c a0=some (AV.agg (zbF s) :: [aB v0]))/\(s.b=c.b/\0<=s.i)/\(True)
def zea (c:Cur)(a0:Int):Bool:=pc (∃s v0,zjX c a0 s v0)
def zpl (c:Cur)(a0:Int):Cur×Bool:=Classical.epsilon fun r=>zjX c a0 r.1 r.2
def zcq (c:Cur)(a0:Int):Cur:=bif zea c a0 then (zpl c a0).1 else ⟨[],0,0⟩
def zjW (c:Cur)(a0:Int):Bool:=(zpl c a0).2
theorem zDZ {c:Cur}{a0:Int}(h:zea c a0=true):zjX c a0 (zcq c a0) (zjW c a0):=by
 obtain ⟨s,v0,h2⟩:=zF.1 h;have h3:zjX c a0 (zpl c a0).1 (zpl c a0).2:=Classical.epsilon_spec (p:=fun r=>zjX c a0 r.1 r.2) ⟨(s,v0),h2⟩;unfold zcq;rw[h,cT];exact h3
theorem zhx (c:Cur)(a0:Int):0<=(zcq c a0).i:=by
 unfold zcq;cases h:zea c a0 with
 | false=>exact jU 0
 | true =>
  have:=(zDZ h).2.1.2;unfold zcq at this
  rwa [h] at this
theorem zTh (c:Cur)(a0:Int)(h:∃N,Ends (fun a=>∃s v0,a=(AV.agg (zbF s) :: [aB v0])/\(s.b=c.b/\0<=s.i)/\(True)) (zk1 N c a0)):zea c a0=true:=by
 obtain ⟨N,a,e,s,v0,rfl,h⟩:=h;exact zbh ⟨s,v0,⟨N,e⟩,h⟩
def zn9:List CV->List AV->Option (Bool×List CV×List AV)
 | [.s .u8 b,.i .i64 c,.i .i64 d],[.one (.i .i64 e)]=>some ((zea (⟨b,c,d⟩:Cur) e),zbF (zcq (⟨b,c,d⟩:Cur) e),[aB (zjW (⟨b,c,d⟩:Cur) e)])
 | _,_=>none
theorem zN7 (c:Cur)(a0:Int)(hb:zbQ big (.agg (zbF c) :: [aI a0]))(hc:zea c a0=true):∃N,zk1 N c a0=some (.agg (zbF (zcq c a0)) :: [aB (zjW c a0)]):=by
 exact (zDZ hc).1
theorem zHH:zdo Tryz.prog 147 [false,true,true] zn9:=by
 refine zb3 (zcW zfE zbt zFD zy) (zdN (by kernel_rfl)) ?_
 intro cs avs cs' rs hl hr h;have hb:=zcs hr;unfold zn9 at h;split at h
 .obtain ⟨hc,rfl,rfl⟩:=zcM h;obtain ⟨N,hN⟩:=zN7 _ _ (by exact hb) hc
  exact ⟨rfl,_,N,12,(zQ0 N _ _ ).trans hN⟩
 .cases h
theorem zQ7 {c:Cur}(h:zdk c)(n:Int):zea c n=true:=by
 refine zTh c n ⟨0,?_⟩;unfold zk1 oN;exact zbx (zhF h _) (zkh aB (zcv _ _) trivial)
def zhD (N:Nat)(c:Cur)(a0:List Int):OA:=
 (oN (zZ c (ln a0)) (oN (inb (zba c (ln a0)) (ln a0)) (some [(.agg [(.s .u8 c.b),(.i .i64 (zC c (ln a0)).i),(.i .i64 (zC c (ln a0)).h)]),(aI (ix a0 (zba c (ln a0)) 0))])))
theorem zIq (N:Nat)(c:Cur)(a0:List Int):zfV (cQ zmD zlQ zOK zj7) (zx []) N 12 204 [false,true,true] (zbF c) [aS .int a0]=zhD N c a0:=by kernel_rfl
def zhb (c:Cur)(a0:List Int)(s:Cur)(v0:Int):Prop:=(∃N,zhD N c a0=some (AV.agg (zbF s) :: [aI v0]))/\(s.b=c.b/\0<=s.i)/\((0<a0.length->v0∈a0))
def zdc (c:Cur)(a0:List Int):Bool:=pc (∃s v0,zhb c a0 s v0)
def zkP (c:Cur)(a0:List Int):Cur×Int:=Classical.epsilon fun r=>zhb c a0 r.1 r.2
def zbT (c:Cur)(a0:List Int):Cur:=bif zdc c a0 then (zkP c a0).1 else ⟨[],0,0⟩
def zeO (c:Cur)(a0:List Int):Int:=(zkP c a0).2
theorem zou {c:Cur}{a0:List Int}(h:zdc c a0=true):zhb c a0 (zbT c a0) (zeO c a0):=by
 obtain ⟨s,v0,h2⟩:=zF.1 h;have h3:zhb c a0 (zkP c a0).1 (zkP c a0).2:=Classical.epsilon_spec (p:=fun r=>zhb c a0 r.1 r.2) ⟨(s,v0),h2⟩;unfold zbT;rw[h,cT];exact h3
theorem zkO (c:Cur)(a0:List Int):0<=(zbT c a0).i:=by
 unfold zbT;cases h:zdc c a0 with
 | false=>exact jU 0
 | true =>
  have:=(zou h).2.1.2;unfold zbT at this
  rwa [h] at this
theorem zLp (c:Cur)(a0:List Int)(h:∃N,Ends (fun a=>∃s v0,a=(AV.agg (zbF s) :: [aI v0])/\(s.b=c.b/\0<=s.i)/\((0<a0.length->v0∈a0))) (zhD N c a0)):zdc c a0=true:=by
 obtain ⟨N,a,e,s,v0,rfl,h⟩:=h;exact zbh ⟨s,v0,⟨N,e⟩,h⟩
def zkY:List CV->List AV->Option (Bool×List CV×List AV)
 | [.s .u8 b,.i .i64 c,.i .i64 d],[.one (.s .int e)]=>some ((zdc (⟨b,c,d⟩:Cur) e),zbF (zbT (⟨b,c,d⟩:Cur) e),[aI (zeO (⟨b,c,d⟩:Cur) e)])
 | _,_=>none
theorem zFv (c:Cur)(a0:List Int)(hb:zbQ big (.agg (zbF c) :: [aS .int a0]))(hc:zdc c a0=true):∃N,zhD N c a0=some (.agg (zbF (zbT c a0)) :: [aI (zeO c a0)]):=by
 exact (zou hc).1
theorem zzE:zdo Tryz.prog 204 [false,true,true] zkY:=by
 refine zb3 (zcW zfE zbt zFD zy) (zdN (by kernel_rfl)) ?_
 intro cs avs cs' rs hl hr h;have hb:=zcs hr;unfold zkY at h;split at h
 .obtain ⟨hc,rfl,rfl⟩:=zcM h;obtain ⟨N,hN⟩:=zFv _ _ (by exact hb) hc
  exact ⟨rfl,_,N,12,(zIq N _ _ ).trans hN⟩
 .cases h
theorem zIB {c:Cur}(h:zdk c){l:List Int}(hl:l≠[]):zdc c l=true:=by
 refine zLp c l ⟨0,?_⟩;have hp:0<ln l:=by unfold ln;have:=kL.2 hl;omega
 have g:=(znx (zhF h (ln l))).2.2 hp;have hb:inb (zba c (ln l)) (ln l)=true:=qL ⟨g.1,g.2⟩;unfold zhD oN;exact zbx (zhF h _) (zbx hb (zkh aI (zcv _ _) (fun _=>zbq hb 0)))
def zV1:zdl:=[(147,([false,true,true],zn9)),(204,([false,true,true],zkY))]++zOK
theorem zRa:zcE zV1:=zd1 zFD (by
 intro x hx;simp only[qG,qY,or_false]at hx;rcases hx with rfl|rfl
 .exact zHH
 .exact zzE)
theorem ze5 {c:Cur}{i k:Int}(h:zdk c)(h0:0<=i):zdk ⟨c.b,i,k⟩:=⟨h0,h.2⟩
theorem z4s {c:Cur}(h:zdk c){l:List Int}(hl:l≠[]):zeO c l∈l:=(zou (zIB h hl)).2.2 (kL.2 hl)
theorem zlH {c:Cur}(h:zdk c){n:Int}(hn:0<n):0<=zba c n/\zba c n<n:=(znx (zhF h n)).2.2 hn
theorem zHZ {o x:Int}(h:(o=1\/o=2\/o=5\/o=6)/\0<=x/\x<=99\/(o=3\/o=4)/\0<=x/\x<=15\/o=8/\0<=x/\x<=11):zdu ⟨o,x⟩=true:=by
 have w:∀{a b:Int},a<=x->x<=b->win x a b=true:=fun h1 h2=>by simp only[win,ige,ile,qD,qW];exact ⟨h1,h2⟩
 rcases h with ⟨h|h|h|h,h1,h2⟩|⟨h|h,h1,h2⟩|⟨h,h1,h2⟩<;>subst h<;>exact w h1 h2
def zmw (N:Nat)(c:Cur)  : OA :=
 let y1:=(zeO c [1,2,3,3,3,4,4,4,5,6,8]);let y0:=({ (zbT c [1,2,3,3,3,4,4,4,5,6,8]) with b:=c.b }:Cur); (share (oN (zZ y0 16) (some [(.agg [(.s .u8 c.b),(.i .i64 (zC y0 16).i),(.i .i64 (zC y0 16).h)]),(.agg [(.i .i64 y1),(.i .i64 (zba y0 16))])])) (fun t1=>(share (cond (ieq y1 8) (oN (zZ y0 4) (some [(.agg [(.s .u8 c.b),(.i .i64 (zC y0 4).i),(.i .i64 (zC y0 4).h)]),(.agg [(.i .i64 y1),(.i .i64 (zba y0 4))])])) (oN (zZ y0 100) (some [(.agg [(.s .u8 c.b),(.i .i64 (zC y0 100).i),(.i .i64 (zC y0 100).h)]),(.agg [(.i .i64 y1),(.i .i64 (zba y0 100))])]))) (fun t0=>(oN (zdc c [1,2,3,3,3,4,4,4,5,6,8]) (cond (ieq y1 3) (cond (ieq y1 3) t1 t0) (cond (ieq y1 4) t1 t0)))))))
theorem zS6 (N:Nat)(c:Cur)  : zfV (cQ zmD zlQ zV1 zj7) (zx []) N 12 274 [false,true,true] (zbF c) []=zmw N c:=by kernel_rfl
def zlp (c:Cur)(s:Cur)(v0:Ins):Prop:=(∃N,zmw N c=some (AV.agg (zbF s) :: [aT .ins v0]))/\(s.b=c.b/\0<=s.i)/\(zdu v0=true)
def zhc (c:Cur)  : Bool:=pc (∃s v0,zlp c s v0)
def zq2 (c:Cur)  : Cur×Ins:=Classical.epsilon fun r=>zlp c r.1 r.2
def zf1 (c:Cur)  : Cur:=bif zhc c then (zq2 c).1 else ⟨[],0,0⟩
def zso (c:Cur)  : Ins:=(zq2 c).2
theorem zxf {c:Cur}(h:zhc c=true):zlp c (zf1 c) (zso c):=by
 obtain ⟨s,v0,h2⟩:=zF.1 h;have h3:zlp c (zq2 c).1 (zq2 c).2:=Classical.epsilon_spec (p:=fun r=>zlp c r.1 r.2) ⟨(s,v0),h2⟩;unfold zf1;rw[h,cT];exact h3
theorem zWf (c:Cur)  : 0<=(zf1 c).i:=by
 unfold zf1;cases h:zhc c with
 | false=>exact jU 0
 | true =>
  have:=(zxf h).2.1.2;unfold zf1 at this
  rwa [h] at this
theorem zWe (c:Cur)(h:∃N,Ends (fun a=>∃s v0,a=(AV.agg (zbF s) :: [aT .ins v0])/\(s.b=c.b/\0<=s.i)/\(zdu v0=true)) (zmw N c)):zhc c=true:=by
 obtain ⟨N,a,e,s,v0,rfl,h⟩:=h;exact zbh ⟨s,v0,⟨N,e⟩,h⟩
def zp6:List CV->List AV->Option (Bool×List CV×List AV)
 | [.s .u8 b,.i .i64 c,.i .i64 d],[]=>some ((zhc (⟨b,c,d⟩:Cur)),zbF (zf1 (⟨b,c,d⟩:Cur)),[aT .ins (zso (⟨b,c,d⟩:Cur))])
 | _,_=>none
theorem zQI (c:Cur)(hb:zbQ big (.agg (zbF c) :: []))(hc:zhc c=true):∃N,zmw N c=some (.agg (zbF (zf1 c)) :: [aT .ins (zso c)]):=by
 exact (zxf hc).1
theorem zKh:zdo Tryz.prog 274 [false,true,true] zp6:=by
 refine zb3 (zcW zfE zbt zRa zy) (zdN (by kernel_rfl)) ?_
 intro cs avs cs' rs hl hr h;have hb:=zcs hr;unfold zp6 at h;split at h
 .obtain ⟨hc,rfl,rfl⟩:=zcM h;obtain ⟨N,hN⟩:=zQI _ (by exact hb) hc
  exact ⟨rfl,_,N,12,(zS6 N _ ).trans hN⟩
 .cases h
theorem z2v {c:Cur}(h:zdk c):zhc c=true:=by
 refine zWe c ⟨0,?_⟩;have hk:([1,2,3,3,3,4,4,4,5,6,8]:List Int)≠[]:=by simp
 have hm:=z4s h hk;have h1:zdk { zbT c [1,2,3,3,3,4,4,4,5,6,8] with b:=c.b }:=ze5 h (zkO _ _);have b16:=zlH h1 (n:=16) (by omega)
 have b4:=zlH h1 (n:=4) (by omega)
 have b100:=zlH h1 (n:=100) (by omega)
 unfold zmw oN
 conv=>zeta
 generalize zeO c [1,2,3,3,3,4,4,4,5,6,8]=o at hm;simp only[qG,qY,or_false]at hm;have no:∀{n:Int},ieq o n=false->o≠n:=fun h e=>by subst e;simp[ieq]at h
 have ye:∀{n:Int},ieq o n=true->o=n:=fun h=>by simpa [ieq] using h
 have L:∀(n:Int),0<n->(zdu ⟨o,zba { zbT c [1,2,3,3,3,4,4,4,5,6,8] with b:=c.b } n⟩=true)->Ends (fun a=>∃s v0,a=(AV.agg (zbF s) :: [aT .ins v0])/\(s.b=c.b/\0<=s.i)/\zdu v0=true)
  (cond (zZ { zbT c [1,2,3,3,3,4,4,4,5,6,8] with b:=c.b } n) (some (AV.agg [.s .u8 c.b,.i .i64 (zC { zbT c [1,2,3,3,3,4,4,4,5,6,8] with b:=c.b } n).i,.i .i64 (zC { zbT c [1,2,3,3,3,4,4,4,5,6,8] with b:=c.b } n).h] :: [.agg [.i .i64 o,.i .i64 (zba { zbT c [1,2,3,3,3,4,4,4,5,6,8] with b:=c.b } n)]])) none) :=
  fun n hn hi=>zbx (zhF h1 n) (zkh (aT .ins) (v:=⟨o,zba _ n⟩) (zcv _ _) hi)
 refine zbx (zIB h hk) (zcZ (fun h3=>zcZ (fun _=>L 16 (by omega) (zHZ ?_)) (fun h4=>absurd (ye h3) (no h4))) (fun h3=>zcZ (fun h4=>L 16 (by omega) (zHZ ?_)) (fun h4=>zcZ (fun h8=>L 4 (by omega) (zHZ ?_)) (fun h8=>L 100 (by omega) (zHZ ?_)))))
 .have:=ye h3;omega
 .have:=ye h4;omega
 .have:=ye h8;omega
 .have:=no h3;have:=no h4;have:=no h8;omega
def zV2:zdl:=[(274,([false,true,true],zp6))]++zV1
theorem zRb:zcE zV2:=zd1 zRa (by
 intro x hx;simp only[qG,qY,or_false]at hx;rcases hx with rfl
 .exact zKh)
theorem zmu {x y:Int}(h0:0<=x)(h1:x<=1000000)(h2:0<=y)(h3:y<=1000000):zG .i64 x y=x+y:=zoC (by omega) (by omega)
theorem zu4 {α:Type}{l:List α}(h:ln l<=1000000):few (ln l)=true:=qL ⟨by unfold ln;omega,by omega⟩
theorem zoQ {α:Type}(l:List α)(x:α):ln (ap l [x])=ln l+1:=by simp[ln,ap]
def zk2 (N:Nat)(c:Cur)  : OA :=
 (iter (σ:=(Int×(Int×(Int×(lI×((List Int)×Unit)))))) N (fun r2 s3=>let y3:=s3.2.2.2.1;let y2:=s3.2.2.2.2.1;let y1:=(⟨y2,s3.2.1,s3.2.2.1⟩:Cur);let y0:=({ (zC y1 7) with b:=y2 }:Cur); (oN (zZ y1 7) (cond (ilt s3.1 (zG .i64 2 (zba y1 7))) (oN (zhc y0) (oN (few (ln (ap y3 [(zso y0)]))) (r2 ((zG .i64 s3.1 1),((zf1 y0).i,((zf1 y0).h,((ap y3 [(zso y0)]),(y2,())))))))) (oN (zea y0 3) (cond (zjW y0 3) (oN (few (ln (ap y3 [(⟨7,0⟩:Ins)]))) (some [(.agg [(.s .u8 y2),(.i .i64 (zcq y0 3).i),(.i .i64 (zcq y0 3).h)]),(aS .ins (ap y3 [(⟨7,0⟩:Ins)]))])) (oN (few (ln (ap y3 [(⟨8,0⟩:Ins)]))) (some [(.agg [(.s .u8 y2),(.i .i64 (zcq y0 3).i),(.i .i64 (zcq y0 3).h)]),(aS .ins (ap y3 [(⟨8,0⟩:Ins)]))]))))))) (0,(c.i,(c.h,([],(c.b,()))))))
def zOz:FuncId->Nat->Option Tmpl:=zx [(203,0,{ n:=29,tm:=[(0,.lp 0 0),(3,.sl 0 []),(4,ti)],lo:=[(0,[.sl 1 [],ti,ti])],ro:=[(0,.ins,true),(1,.u8,false)] })]
theorem zQ1 (N:Nat)(c:Cur)  : zfV (cQ zmD zlQ zV2 zj7) zOz N 12 203 [false,true,true] (zbF c) []=zk2 N c:=by kernel_rfl
def zjY (c:Cur)(s:Cur)(v0:List Ins):Prop:=(∃N,zk2 N c=some (AV.agg (zbF s) :: [aS .ins v0]))/\(s.b=c.b/\0<=s.i)/\(zcU v0=true)
def zfl (c:Cur)  : Bool:=pc (∃s v0,zjY c s v0)
def zpm (c:Cur)  : Cur×List Ins:=Classical.epsilon fun r=>zjY c r.1 r.2
def zey (c:Cur)  : Cur:=bif zfl c then (zpm c).1 else ⟨[],0,0⟩
def zmk (c:Cur)  : List Ins:=(zpm c).2
theorem zuD {c:Cur}(h:zfl c=true):zjY c (zey c) (zmk c):=by
 obtain ⟨s,v0,h2⟩:=zF.1 h;have h3:zjY c (zpm c).1 (zpm c).2:=Classical.epsilon_spec (p:=fun r=>zjY c r.1 r.2) ⟨(s,v0),h2⟩;unfold zey;rw[h,cT];exact h3
theorem zTj (c:Cur)  : 0<=(zey c).i:=by
 unfold zey;cases h:zfl c with
 | false=>exact jU 0
 | true =>
  have:=(zuD h).2.1.2;unfold zey at this
  rwa [h] at this
theorem zTi (c:Cur)(h:∃N,Ends (fun a=>∃s v0,a=(AV.agg (zbF s) :: [aS .ins v0])/\(s.b=c.b/\0<=s.i)/\(zcU v0=true)) (zk2 N c)):zfl c=true:=by
 obtain ⟨N,a,e,s,v0,rfl,h⟩:=h;exact zbh ⟨s,v0,⟨N,e⟩,h⟩
def zoa:List CV->List AV->Option (Bool×List CV×List AV)
 | [.s .u8 b,.i .i64 c,.i .i64 d],[]=>some ((zfl (⟨b,c,d⟩:Cur)),zbF (zey (⟨b,c,d⟩:Cur)),[aS .ins (zmk (⟨b,c,d⟩:Cur))])
 | _,_=>none
theorem zOa (c:Cur)(hb:zbQ big (.agg (zbF c) :: []))(hc:zfl c=true):∃N,zk2 N c=some (.agg (zbF (zey c)) :: [aS .ins (zmk c)]):=by
 exact (zuD hc).1
theorem zHK:zdo Tryz.prog 203 [false,true,true] zoa:=by
 refine zb3 (zcW zfE zbt zRb zy) (zdN (by kernel_rfl)) ?_
 intro cs avs cs' rs hl hr h;have hb:=zcs hr;unfold zoa at h;split at h
 .obtain ⟨hc,rfl,rfl⟩:=zcM h;obtain ⟨N,hN⟩:=zOa _ (by exact hb) hc
  exact ⟨rfl,_,N,12,(zQ1 N _ ).trans hN⟩
 .cases h
theorem zYx {c:Cur}(h:zdk c):zfl c=true:=by
 refine zTi c ⟨9,?_⟩;unfold zk2 oN
 conv=>zeta
 refine zrA (fun n s=>s.1+(n:Int)=8/\0<=s.1/\0<=s.2.1/\(∀x∈s.2.2.2.1,zdu x=true)/\ln s.2.2.2.1=s.1/\s.2.2.2.2.1=c.b) ?_ 9 8 _ ⟨rfl,jU 0,h.1,by simp,rfl,rfl⟩ (by omega)
 rintro n ⟨t,i,k,l,b,u⟩ rec ⟨h1,h2,h3,h4,h5,h6⟩ hrec
 dsimp only at h1 h2 h3 h4 h5 h6 ⊢
 subst h6;have hcur:zdk ⟨c.b,i,k⟩:=ze5 h h3;have hx:=zlH hcur (n:=7) (by omega)
 have hw:=zmu (x:=2) (by omega) (by omega) hx.1 (by omega)
 have h7:zdk { zC ⟨c.b,i,k⟩ 7 with b:=c.b }:=ze5 h (zcv _ _);have fin:∀(y:Ins),zdu y=true->2<=t->zcU (ap l [y])=true:=by
  intro y hy ht;unfold zcU;rw[zoQ,h5];have:(ap l [y]).all zdu=true:=by
   simp only[ap,List.all_append,uD,List.all_nil,Bool.and_true,qD];exact ⟨qJ.2 h4,hy⟩
  rw[this,cT];simp only[win,ige,ile,qD,qW];omega
 refine zbx (zhF hcur 7) (zcZ (fun hc=>?_) (fun hc=>?_))
 .have hlt:t<zG .i64 2 (zba ⟨c.b,i,k⟩ 7):=qE hc;rw[hw]at hlt;refine zbx (z2v h7) (zbx (zu4 (by rw[zoQ];omega)) (hrec (n-1) _ (by omega) ⟨?_,?_,zWf _,?_,?_,rfl⟩))
  .show zG .i64 t 1+_=8
   rw[zmu h2 (by omega) (by omega) (by omega)];omega
  .show 0<=zG .i64 t 1
   rw[zmu h2 (by omega) (by omega) (by omega)];omega
  .intro x hx;rcases jF.1 hx with hx|hx
   .exact h4 x hx
   .rw [qF.1 hx];exact (zxf (z2v h7)).2.2
  .show ln (ap l [_])=zG .i64 t 1
   rw[zoQ,zmu h2 (by omega) (by omega) (by omega)];omega
 .have hge:¬ t<zG .i64 2 (zba ⟨c.b,i,k⟩ 7):=jV hc;rw[hw]at hge;refine zbx (zQ7 h7 3) (zcZ (fun _=>zbx (zu4 (by rw[zoQ];omega)) (zkh (aS .ins) (zhx _ _) (fin _ rfl (by omega)))) (fun _=>zbx (zu4 (by rw[zoQ];omega)) (zkh (aS .ins) (zhx _ _) (fin _ rfl (by omega)))))
def zV3:zdl:=[(203,([false,true,true],zoa))]++zV2
theorem zRc:zcE zV3:=zd1 zRb (by
 intro x hx;simp only[qG,qY,or_false]at hx;rcases hx with rfl
 .exact zHK)
theorem zSb {α:Type}{c:Cur}(h:zdk c){P:α->Prop}{fc:Cur->Bool}{fs:Cur->Cur}{fv:Cur->α}(hf:∀{c:Cur},zdk c->fc c=true)(hp:∀c,0<=(fs c).i)(hg:∀{c:Cur},zdk c->P (fv c)){G:Ans->Prop}{R:Cur->List α->Ans}(hG:∀s l,s.b=c.b->0<=s.i->1<=l.length->l.length<=2->(∀x∈l,P x)->G (R s l)){F:(Int×Int×Int×List α×List Int×Unit->OA)->Int×Int×Int×List α×List Int×Unit->OA}(hF:∀rec t i k l,F rec (t,i,k,l,c.b,())=bif zZ ⟨c.b,i,k⟩ 2 then (bif ilt t (zG .i64 1 (zba ⟨c.b,i,k⟩ 2)) then (bif fc { zC ⟨c.b,i,k⟩ 2 with b:=c.b } then (bif few (ln (ap l [fv { zC ⟨c.b,i,k⟩ 2 with b:=c.b }])) then
        rec (zG .i64 t 1,(fs { zC ⟨c.b,i,k⟩ 2 with b:=c.b }).i,(fs { zC ⟨c.b,i,k⟩ 2 with b:=c.b }).h,ap l [fv { zC ⟨c.b,i,k⟩ 2 with b:=c.b }],c.b,()) else none) else none) else some (R ⟨c.b,(zC ⟨c.b,i,k⟩ 2).i,(zC ⟨c.b,i,k⟩ 2).h⟩ l)) else none) :
 Ends G (iter 3 F (0,c.i,c.h,[],c.b,())):=by
 refine zrA (fun n s=>s.1+(n:Int)=2/\0<=s.1/\0<=s.2.1/\(∀x∈s.2.2.2.1,P x)/\ln s.2.2.2.1=s.1/\s.2.2.2.2.1=c.b) ?_ 3 2 _ ⟨rfl,jU 0,h.1,by simp,rfl,rfl⟩ (by omega)
 rintro n ⟨t,i,k,l,b,u⟩ rec ⟨h1,h2,h3,h4,h5,h6⟩ hrec
 dsimp only at h1 h2 h3 h4 h5 h6
 subst h6;rw[hF];have hcur:zdk ⟨c.b,i,k⟩:=ze5 h h3;have hx:=zlH hcur (n:=2) (by omega)
 have hw:=zmu (x:=1) (by omega) (by omega) hx.1 (by omega)
 have h7:zdk { zC ⟨c.b,i,k⟩ 2 with b:=c.b }:=ze5 h (zcv _ _);refine zbx (zhF hcur 2) (zcZ (fun hc=>?_) (fun hc=>?_))
 .have hlt:t<zG .i64 1 (zba ⟨c.b,i,k⟩ 2):=qE hc;rw[hw]at hlt;have ht:=zmu (y:=1) h2 (by omega) (by omega) (by omega)
  refine zbx (hf h7) (zbx (zu4 (by rw[zoQ];omega)) (hrec (n-1) _ (by omega) ⟨?_,?_,hp _,?_,?_,rfl⟩))
  .show zG .i64 t 1+_=2
   omega
  .show 0<=zG .i64 t 1
   omega
  .intro x hx;rcases jF.1 hx with hx|hx
   .exact h4 x hx
   .rw [qF.1 hx];exact hg h7
  .show ln (ap l [_])=zG .i64 t 1
   rw[zoQ];omega
 .have hge:¬ t<zG .i64 1 (zba ⟨c.b,i,k⟩ 2):=jV hc;rw[hw]at hge;unfold ln at h5;exact zGY (hG _ l rfl (zcv _ _) (by omega) (by omega) h4)
def zjk (N:Nat)(c:Cur)  : OA :=
 (iter (σ:=(Int×(Int×(Int×(lP×((List Int)×Unit)))))) N (fun r2 s3=>let y2:=s3.2.2.2.2.1;let y1:=(⟨y2,s3.2.1,s3.2.2.1⟩:Cur);let y0:=({ (zC y1 2) with b:=y2 }:Cur); (oN (zZ y1 2) (cond (ilt s3.1 (zG .i64 1 (zba y1 2))) (oN (zfl y0) (oN (few (ln (ap s3.2.2.2.1 [(zmk y0)]))) (r2 ((zG .i64 s3.1 1),((zey y0).i,((zey y0).h,((ap s3.2.2.2.1 [(zmk y0)]),(y2,())))))))) (some [(.agg [(.s .u8 y2),(.i .i64 (zC y1 2).i),(.i .i64 (zC y1 2).h)]),(aS (.sl .ins) s3.2.2.2.1)])))) (0,(c.i,(c.h,([],(c.b,()))))))
def zLH:FuncId->Nat->Option Tmpl:=zx [(146,0,{ n:=19,tm:=[(0,.lp 0 0),(3,.sl 0 []),(4,ti)],lo:=[(0,[.sl 1 [],ti,ti])],ro:=[(0,(.sl .ins),true),(1,.u8,false)] })]
theorem zOo (N:Nat)(c:Cur)  : zfV (cQ zmD zlQ zV3 zj7) zLH N 12 146 [false,true,true] (zbF c) []=zjk N c:=by kernel_rfl
def ziN (c:Cur)(s:Cur)(v0:List (List Ins)):Prop:=(∃N,zjk N c=some (AV.agg (zbF s) :: [aS (.sl .ins) v0]))/\(s.b=c.b/\0<=s.i)/\(1<=v0.length/\v0.length<=2/\∀x∈v0,zcU x=true)
def zeQ (c:Cur)  : Bool:=pc (∃s v0,ziN c s v0)
def znA (c:Cur)  : Cur×List (List Ins):=Classical.epsilon fun r=>ziN c r.1 r.2
def zeb (c:Cur)  : Cur:=bif zeQ c then (znA c).1 else ⟨[],0,0⟩
def zkQ (c:Cur)  : List (List Ins):=(znA c).2
theorem zsp {c:Cur}(h:zeQ c=true):ziN c (zeb c) (zkQ c):=by
 obtain ⟨s,v0,h2⟩:=zF.1 h;have h3:ziN c (znA c).1 (znA c).2:=Classical.epsilon_spec (p:=fun r=>ziN c r.1 r.2) ⟨(s,v0),h2⟩;unfold zeb;rw[h,cT];exact h3
theorem zRu (c:Cur)  : 0<=(zeb c).i:=by
 unfold zeb;cases h:zeQ c with
 | false=>exact jU 0
 | true =>
  have:=(zsp h).2.1.2;unfold zeb at this
  rwa [h] at this
theorem zRt (c:Cur)(h:∃N,Ends (fun a=>∃s v0,a=(AV.agg (zbF s) :: [aS (.sl .ins) v0])/\(s.b=c.b/\0<=s.i)/\(1<=v0.length/\v0.length<=2/\∀x∈v0,zcU x=true)) (zjk N c)):zeQ c=true:=by
 obtain ⟨N,a,e,s,v0,rfl,h⟩:=h;exact zbh ⟨s,v0,⟨N,e⟩,h⟩
def zmX:List CV->List AV->Option (Bool×List CV×List AV)
 | [.s .u8 b,.i .i64 c,.i .i64 d],[]=>some ((zeQ (⟨b,c,d⟩:Cur)),zbF (zeb (⟨b,c,d⟩:Cur)),[aS (.sl .ins) (zkQ (⟨b,c,d⟩:Cur))])
 | _,_=>none
theorem zKZ (c:Cur)(hb:zbQ big (.agg (zbF c) :: []))(hc:zeQ c=true):∃N,zjk N c=some (.agg (zbF (zeb c)) :: [aS (.sl .ins) (zkQ c)]):=by
 exact (zsp hc).1
theorem zE9:zdo Tryz.prog 146 [false,true,true] zmX:=by
 refine zb3 (zcW zfE zbt zRc zy) (zdN (by kernel_rfl)) ?_
 intro cs avs cs' rs hl hr h;have hb:=zcs hr;unfold zmX at h;split at h
 .obtain ⟨hc,rfl,rfl⟩:=zcM h;obtain ⟨N,hN⟩:=zKZ _ (by exact hb) hc
  exact ⟨rfl,_,N,12,(zOo N _ ).trans hN⟩
 .cases h
theorem zUk {c:Cur}(h:zdk c):zeQ c=true:=by
 refine zRt c ⟨3,?_⟩;unfold zjk oN
 conv=>zeta
 exact zSb h (P:=fun x=>zcU x=true) (fc:=zfl) (fs:=zey) (fv:=zmk) (R:=fun s l=>AV.agg (zbF s) :: [aS (.sl .ins) l]) zYx zTj (fun h=>(zuD (zYx h)).2.2) (fun s l hb hi h1 h2 hl=>⟨s,l,rfl,⟨hb,hi⟩,h1,h2,hl⟩) (fun rec t i k l=>rfl)
def zV4:zdl:=[(146,([false,true,true],zmX))]++zV3
theorem zRd:zcE zV4:=zd1 zRc (by
 intro x hx;simp only[qG,qY,or_false]at hx;rcases hx with rfl
 .exact zE9)
def zmy (N:Nat)(c:Cur)  : OA :=
 (iter (σ:=(Int×(Int×(Int×(lQ×((List Int)×Unit)))))) N (fun r2 s3=>let y2:=s3.2.2.2.2.1;let y1:=(⟨y2,s3.2.1,s3.2.2.1⟩:Cur);let y0:=({ (zC y1 2) with b:=y2 }:Cur); (oN (zZ y1 2) (cond (ilt s3.1 (zG .i64 1 (zba y1 2))) (oN (zeQ y0) (oN (few (ln (ap s3.2.2.2.1 [(zkQ y0)]))) (r2 ((zG .i64 s3.1 1),((zeb y0).i,((zeb y0).h,((ap s3.2.2.2.1 [(zkQ y0)]),(y2,())))))))) (some [(.agg [(.s .u8 y2),(.i .i64 (zC y1 2).i),(.i .i64 (zC y1 2).h)]),(aS (.sl (.sl .ins)) s3.2.2.2.1)])))) (0,(c.i,(c.h,([],(c.b,()))))))
def zR6:FuncId->Nat->Option Tmpl:=zx [(86,0,{ n:=19,tm:=[(0,.lp 0 0),(3,.sl 0 []),(4,ti)],lo:=[(0,[.sl 1 [],ti,ti])],ro:=[(0,(.sl (.sl .ins)),true),(1,.u8,false)] })]
theorem zS8 (N:Nat)(c:Cur)  : zfV (cQ zmD zlQ zV4 zj7) zR6 N 12 86 [false,true,true] (zbF c) []=zmy N c:=by kernel_rfl
def zlr (c:Cur)(s:Cur)(v0:List (List (List Ins))):Prop:=(∃N,zmy N c=some (AV.agg (zbF s) :: [aS (.sl (.sl .ins)) v0]))/\(s.b=c.b/\0<=s.i)/\(1<=v0.length/\v0.length<=2/\∀p∈v0,1<=p.length/\p.length<=2/\∀x∈p,zcU x=true)
def zhe (c:Cur)  : Bool:=pc (∃s v0,zlr c s v0)
def zq4 (c:Cur)  : Cur×List (List (List Ins)):=Classical.epsilon fun r=>zlr c r.1 r.2
def zfn (c:Cur)  : Cur:=bif zhe c then (zq4 c).1 else ⟨[],0,0⟩
def zow (c:Cur)  : List (List (List Ins)):=(zq4 c).2
theorem zxg {c:Cur}(h:zhe c=true):zlr c (zfn c) (zow c):=by
 obtain ⟨s,v0,h2⟩:=zF.1 h;have h3:zlr c (zq4 c).1 (zq4 c).2:=Classical.epsilon_spec (p:=fun r=>zlr c r.1 r.2) ⟨(s,v0),h2⟩;unfold zfn;rw[h,cT];exact h3
theorem zWj (c:Cur)  : 0<=(zfn c).i:=by
 unfold zfn;cases h:zhe c with
 | false=>exact jU 0
 | true =>
  have:=(zxg h).2.1.2;unfold zfn at this
  rwa [h] at this
theorem zWi (c:Cur)(h:∃N,Ends (fun a=>∃s v0,a=(AV.agg (zbF s) :: [aS (.sl (.sl .ins)) v0])/\(s.b=c.b/\0<=s.i)/\(1<=v0.length/\v0.length<=2/\∀p∈v0,1<=p.length/\p.length<=2/\∀x∈p,zcU x=true)) (zmy N c)):zhe c=true:=by
 obtain ⟨N,a,e,s,v0,rfl,h⟩:=h;exact zbh ⟨s,v0,⟨N,e⟩,h⟩
def zp8:List CV->List AV->Option (Bool×List CV×List AV)
 | [.s .u8 b,.i .i64 c,.i .i64 d],[]=>some ((zhe (⟨b,c,d⟩:Cur)),zbF (zfn (⟨b,c,d⟩:Cur)),[aS (.sl (.sl .ins)) (zow (⟨b,c,d⟩:Cur))])
 | _,_=>none
theorem zQK (c:Cur)(hb:zbQ big (.agg (zbF c) :: []))(hc:zhe c=true):∃N,zmy N c=some (.agg (zbF (zfn c)) :: [aS (.sl (.sl .ins)) (zow c)]):=by
 exact (zxg hc).1
theorem zKj:zdo Tryz.prog 86 [false,true,true] zp8:=by
 refine zb3 (zcW zfE zbt zRd zy) (zdN (by kernel_rfl)) ?_
 intro cs avs cs' rs hl hr h;have hb:=zcs hr;unfold zp8 at h;split at h
 .obtain ⟨hc,rfl,rfl⟩:=zcM h;obtain ⟨N,hN⟩:=zQK _ (by exact hb) hc
  exact ⟨rfl,_,N,12,(zS8 N _ ).trans hN⟩
 .cases h
theorem z1o {c:Cur}(h:zdk c):zhe c=true:=by
 refine zWi c ⟨3,?_⟩;unfold zmy oN
 conv=>zeta
 exact zSb h (P:=fun p=>1<=p.length/\p.length<=2/\∀x∈p,zcU x=true) (fc:=zeQ) (fs:=zeb) (fv:=zkQ) (R:=fun s l=>AV.agg (zbF s) :: [aS (.sl (.sl .ins)) l]) zUk zRu (fun h=>(zsp (zUk h)).2.2) (fun s l hb hi h1 h2 hl=>⟨s,l,rfl,⟨hb,hi⟩,h1,h2,hl⟩) (fun rec t i k l=>rfl)
def zV5:zdl:=[(86,([false,true,true],zp8))]++zV4
theorem zRe:zcE zV5:=zd1 zRd (by
 intro x hx;simp only[qG,qY,or_false]at hx;rcases hx with rfl
 .exact zKj)
theorem zBm {ρ:Type}{G:ρ->Prop}{x:Bool}{a b:Option ρ}(k:Ends G a)(h:x=true:=by first
 | exact zhF (by first|assumption|exact ze5 (by assumption) (zcv _ _)|exact ze5 (by assumption) (zhx _ _)|exact ze5 (by assumption) (zkO _ _)) _
 | exact zQ7 (by first|assumption|exact ze5 (by assumption) (zcv _ _)|exact ze5 (by assumption) (zhx _ _)) _
 | exact zIB (by first|assumption|exact ze5 (by assumption) (zcv _ _)) (by simp)):Ends G (cond x a b):=zbx h k
def zmx (N:Nat)(c:Cur)  : OA :=
 let y5:=(zba c 4);let y0:=({ (zC c 4) with b:=c.b }:Cur);let y4:=(zjW y0 4);let y3:=(zcq y0 4);let y1:=({ y3 with b:=c.b }:Cur);let y2:=({ (zcq y1 2) with b:=c.b }:Cur); (oN (zZ c 4) (oN (zea y0 4) (cond (nB y4) (cond (ine y5 2) (oN (zea y1 2) (cond (zjW y1 2) (oN (zZ y2 256) (some [(.agg [(.s .u8 c.b),(.i .i64 (zC y2 256).i),(.i .i64 (zC y2 256).h)]),(.agg [(.i .i64 y5),(.i .i64 (zba y2 256)),(.b (nB y4))])])) (some [(.agg [(.s .u8 c.b),(.i .i64 (zcq y1 2).i),(.i .i64 (zcq y1 2).h)]),(.agg [(.i .i64 y5),(.i .i64 0),(.b (nB y4))])]))) (some [(.agg [(.s .u8 c.b),(.i .i64 y3.i),(.i .i64 y3.h)]),(.agg [(.i .i64 y5),(.i .i64 0),(.b (nB y4))])])) (some [(.agg [(.s .u8 c.b),(.i .i64 y3.i),(.i .i64 y3.h)]),(.agg [(.i .i64 y5),(.i .i64 0),(.b (nB y4))])]))))
theorem zS7 (N:Nat)(c:Cur)  : zfV (cQ zmD zlQ zV5 zj7) (zx []) N 12 205 [false,true,true] (zbF c) []=zmx N c:=by kernel_rfl
def zlq (c:Cur)(s:Cur)(v0:Ctl):Prop:=(∃N,zmx N c=some (AV.agg (zbF s) :: [.agg (zzf v0)]))/\(s.b=c.b/\0<=s.i)/\(True)
def zhd (c:Cur)  : Bool:=pc (∃s v0,zlq c s v0)
def zq3 (c:Cur)  : Cur×Ctl:=Classical.epsilon fun r=>zlq c r.1 r.2
def zeP (c:Cur)  : Cur:=bif zhd c then (zq3 c).1 else ⟨[],0,0⟩
def zjZ (c:Cur)  : Ctl:=(zq3 c).2
theorem zIP {c:Cur}(h:zhd c=true):zlq c (zeP c) (zjZ c):=by
 obtain ⟨s,v0,h2⟩:=zF.1 h;have h3:zlq c (zq3 c).1 (zq3 c).2:=Classical.epsilon_spec (p:=fun r=>zlq c r.1 r.2) ⟨(s,v0),h2⟩;unfold zeP;rw[h,cT];exact h3
theorem zWh (c:Cur)  : 0<=(zeP c).i:=by
 unfold zeP;cases h:zhd c with
 | false=>exact jU 0
 | true =>
  have:=(zIP h).2.1.2;unfold zeP at this
  rwa [h] at this
theorem zWg (c:Cur)(h:∃N,Ends (fun a=>∃s v0,a=(AV.agg (zbF s) :: [.agg (zzf v0)])/\(s.b=c.b/\0<=s.i)/\(True)) (zmx N c)):zhd c=true:=by
 obtain ⟨N,a,e,s,v0,rfl,h⟩:=h;exact zbh ⟨s,v0,⟨N,e⟩,h⟩
def zp7:List CV->List AV->Option (Bool×List CV×List AV)
 | [.s .u8 b,.i .i64 c,.i .i64 d],[]=>some ((zhd (⟨b,c,d⟩:Cur)),zbF (zeP (⟨b,c,d⟩:Cur)),[.agg (zzf (zjZ (⟨b,c,d⟩:Cur)))])
 | _,_=>none
theorem zQJ (c:Cur)(hb:zbQ big (.agg (zbF c) :: []))(hc:zhd c=true):∃N,zmx N c=some (.agg (zbF (zeP c)) :: [.agg (zzf (zjZ c))]):=by
 exact (zIP hc).1
theorem zKi:zdo Tryz.prog 205 [false,true,true] zp7:=by
 refine zb3 (zcW zfE zbt zRe zy) (zdN (by kernel_rfl)) ?_
 intro cs avs cs' rs hl hr h;have hb:=zcs hr;unfold zp7 at h;split at h
 .obtain ⟨hc,rfl,rfl⟩:=zcM h;obtain ⟨N,hN⟩:=zQJ _ (by exact hb) hc
  exact ⟨rfl,_,N,12,(zS7 N _ ).trans hN⟩
 .cases h
theorem z5U {c:Cur}(h:zdk c):zhd c=true:=by
 refine zWg c ⟨0,?_⟩;unfold zmx oN nB
 conv=>zeta
 refine zBm (zBm (zcZ (fun _=>zcZ (fun _=>zBm (zcZ (fun _=>zBm (?_)) (fun _=>?_))) (fun _=>?_)) (fun _=>?_)))
 all_goals exact zkh (fun x=>AV.agg (zzf x)) (v:=⟨_,_,_⟩) (by first|exact zcv _ _|exact zhx _ _) trivial
def zV6:zdl:=[(205,([false,true,true],zp7))]++zV5
theorem zFE:zcE zV6:=zd1 zRe (by
 intro x hx;simp only[qG,qY,or_false]at hx;rcases hx with rfl
 .exact zKi)
theorem zdw {ρ:Type}{G:ρ->Prop}{x:Bool}{a b:Option ρ}(k:Ends G a)(h:x=true:=by first
 | exact zhF (by first|assumption|exact ze5 (by assumption) (zcv _ _)|exact ze5 (by assumption) (zkO _ _)) _
 | exact zIB (by first|assumption|exact ze5 (by assumption) (zcv _ _)) (by simp)
 | exact z5U (ze5 (by assumption) (zcv _ _))):Ends G (cond x a b):=zbx h k
def zmz (N:Nat)(c:Cur)  : OA :=
 let y13:=({ (zC c 2) with b:=c.b }:Cur);let y8:=(zba c 2);let y2:=(zba y13 2);let y1:=({ (zC y13 2) with b:=c.b }:Cur);let y10:=(zC y1 24);let y5:=(zba y1 24);let y0:=({ y10 with b:=c.b }:Cur);let y14:=(zC y0 8);let y12:=({ (zC y0 4) with b:=c.b }:Cur);let y11:=({ y14 with b:=c.b }:Cur);let y9:=({ (zC y0 16) with b:=c.b }:Cur);let y7:=({ (zbT y0 [16,17]) with b:=c.b }:Cur);let y6:=({ (zbT y0 [13,13,14,15]) with b:=c.b }:Cur);let y4:=({ (zC y11 4) with b:=c.b }:Cur);let y3:=({ (zC y12 8) with b:=c.b }:Cur); (share (oN (zdc y0 [13,13,14,15]) (oN (zZ y6 8) (some [(.agg [(.s .u8 c.b),(.i .i64 (zC y6 8).i),(.i .i64 (zC y6 8).h)]),(.agg [(.i .i64 (zeO y0 [13,13,14,15])),(.i .i64 y8),(.i .i64 y2),(.i .i64 (zba y6 8)),(.i .i64 0),(.i .i64 0)])]))) (fun t5=>(share (cond (ieq y5 16) (oN (zdc y0 [16,17]) (oN (zZ y7 4) (some [(.agg [(.s .u8 c.b),(.i .i64 (zC y7 4).i),(.i .i64 (zC y7 4).h)]),(.agg [(.i .i64 (zeO y0 [16,17])),(.i .i64 y8),(.i .i64 y2),(.i .i64 (zba y7 4)),(.i .i64 0),(.i .i64 0)])]))) (some [(.agg [(.s .u8 c.b),(.i .i64 y10.i),(.i .i64 y10.h)]),(.agg [(.i .i64 1),(.i .i64 y8),(.i .i64 y2),(.i .i64 0),(.i .i64 0),(.i .i64 0)])])) (fun t4=>(share (oN (zZ y0 4) (oN (zZ y12 8) (oN (zdc y3 [3,3,1,2]) (some [(.agg [(.s .u8 c.b),(.i .i64 (zbT y3 [3,3,1,2]).i),(.i .i64 (zbT y3 [3,3,1,2]).h)]),(.agg [(.i .i64 2),(.i .i64 y8),(.i .i64 y2),(.i .i64 (zba y0 4)),(.i .i64 (zba y12 8)),(.i .i64 (zeO y3 [3,3,1,2]))])])))) (fun t3=>(share (oN (zZ y0 4) (some [(.agg [(.s .u8 c.b),(.i .i64 (zC y0 4).i),(.i .i64 (zC y0 4).h)]),(.agg [(.i .i64 3),(.i .i64 y8),(.i .i64 y2),(.i .i64 (zba y0 4)),(.i .i64 0),(.i .i64 0)])])) (fun t2=>(share (cond (ieq y5 7) (oN (zZ y0 8) (some [(.agg [(.s .u8 c.b),(.i .i64 y14.i),(.i .i64 y14.h)]),(.agg [(.i .i64 6),(.i .i64 y8),(.i .i64 y2),(.i .i64 (zba y0 8)),(.i .i64 0),(.i .i64 0)])])) (cond (ieq y5 8) (oN (zhd y0) (cond ((zjZ y0).Open) (some [(.agg [(.s .u8 c.b),(.i .i64 (zeP y0).i),(.i .i64 (zeP y0).h)]),(.agg [(.i .i64 7),(.i .i64 y8),(.i .i64 y2),(.i .i64 (zjZ y0).Traps),(.i .i64 (zjZ y0).Post),(.i .i64 1)])]) (some [(.agg [(.s .u8 c.b),(.i .i64 (zeP y0).i),(.i .i64 (zeP y0).h)]),(.agg [(.i .i64 7),(.i .i64 y8),(.i .i64 y2),(.i .i64 (zjZ y0).Traps),(.i .i64 (zjZ y0).Post),(.i .i64 0)])]))) (cond (ieq y5 9) (oN (zZ y0 8) (oN (zZ y11 4) (oN (zZ y4 100) (some [(.agg [(.s .u8 c.b),(.i .i64 (zC y4 100).i),(.i .i64 (zC y4 100).h)]),(.agg [(.i .i64 8),(.i .i64 y8),(.i .i64 y2),(.i .i64 (zba y0 8)),(.i .i64 (zba y11 4)),(.i .i64 (zba y4 100))])])))) (cond (ieq y5 10) (oN (zZ y0 8) (some [(.agg [(.s .u8 c.b),(.i .i64 y14.i),(.i .i64 y14.h)]),(.agg [(.i .i64 9),(.i .i64 y8),(.i .i64 y2),(.i .i64 (zba y0 8)),(.i .i64 0),(.i .i64 0)])])) (cond (ieq y5 11) (some [(.agg [(.s .u8 c.b),(.i .i64 y10.i),(.i .i64 y10.h)]),(.agg [(.i .i64 10),(.i .i64 y8),(.i .i64 y2),(.i .i64 0),(.i .i64 0),(.i .i64 0)])]) (cond (ieq y5 12) (oN (zZ y0 16) (oN (zZ y9 100) (some [(.agg [(.s .u8 c.b),(.i .i64 (zC y9 100).i),(.i .i64 (zC y9 100).h)]),(.agg [(.i .i64 11),(.i .i64 y8),(.i .i64 y2),(.i .i64 (zba y0 16)),(.i .i64 (zba y9 100)),(.i .i64 0)])]))) (cond (ieq y5 13) (oN (zZ y0 16) (some [(.agg [(.s .u8 c.b),(.i .i64 (zC y0 16).i),(.i .i64 (zC y0 16).h)]),(.agg [(.i .i64 12),(.i .i64 y8),(.i .i64 y2),(.i .i64 (zba y0 16)),(.i .i64 0),(.i .i64 0)])])) (cond (ieq y5 14) (cond (ieq y5 14) t5 t4) (cond (ieq y5 15) t5 t4))))))))) (fun t0=>(share (cond (ieq y5 4) (oN (zZ y0 100) (some [(.agg [(.s .u8 c.b),(.i .i64 (zC y0 100).i),(.i .i64 (zC y0 100).h)]),(.agg [(.i .i64 4),(.i .i64 y8),(.i .i64 y2),(.i .i64 (zba y0 100)),(.i .i64 0),(.i .i64 0)])])) (cond (ieq y5 5) (cond (ieq y5 5) (some [(.agg [(.s .u8 c.b),(.i .i64 y10.i),(.i .i64 y10.h)]),(.agg [(.i .i64 5),(.i .i64 y8),(.i .i64 y2),(.i .i64 0),(.i .i64 0),(.i .i64 0)])]) t0) (cond (ieq y5 6) (some [(.agg [(.s .u8 c.b),(.i .i64 y10.i),(.i .i64 y10.h)]),(.agg [(.i .i64 5),(.i .i64 y8),(.i .i64 y2),(.i .i64 0),(.i .i64 0),(.i .i64 0)])]) t0))) (fun t1=>(share (cond (ieq y5 2) (cond (ieq y5 2) t2 t1) (cond (ieq y5 3) t2 t1)) (fun t6=>(oN (zZ c 2) (oN (zZ y13 2) (oN (zZ y1 24) (cond (ieq y5 0) (cond (ieq y5 0) t3 t6) (cond (ieq y5 1) t3 t6)))))))))))))))))))
theorem zTa (N:Nat)(c:Cur)  : zfV (cQ zmD zlQ zV6 zj7) (zx []) N 12 149 [false,true,true] (zbF c) []=zmz N c:=by kernel_rfl
def zlt (c:Cur)(s:Cur)(v0:GAct):Prop:=(∃N,zmz N c=some (AV.agg (zbF s) :: [aT .act v0]))/\(s.b=c.b/\0<=s.i)/\(True)
def zfo (c:Cur)  : Bool:=pc (∃s v0,zlt c s v0)
def zq6 (c:Cur)  : Cur×GAct:=Classical.epsilon fun r=>zlt c r.1 r.2
def zdU (c:Cur)  : Cur:=bif zfo c then (zq6 c).1 else ⟨[],0,0⟩
def zl1 (c:Cur)  : GAct:=(zq6 c).2
theorem zIQ {c:Cur}(h:zfo c=true):zlt c (zdU c) (zl1 c):=by
 obtain ⟨s,v0,h2⟩:=zF.1 h;have h3:zlt c (zq6 c).1 (zq6 c).2:=Classical.epsilon_spec (p:=fun r=>zlt c r.1 r.2) ⟨(s,v0),h2⟩;unfold zdU;rw[h,cT];exact h3
theorem zWl (c:Cur)  : 0<=(zdU c).i:=by
 unfold zdU;cases h:zfo c with
 | false=>exact jU 0
 | true =>
  have:=(zIQ h).2.1.2;unfold zdU at this
  rwa [h] at this
theorem zWk (c:Cur)(h:∃N,Ends (fun a=>∃s v0,a=(AV.agg (zbF s) :: [aT .act v0])/\(s.b=c.b/\0<=s.i)/\(True)) (zmz N c)):zfo c=true:=by
 obtain ⟨N,a,e,s,v0,rfl,h⟩:=h;exact zbh ⟨s,v0,⟨N,e⟩,h⟩
def zp9:List CV->List AV->Option (Bool×List CV×List AV)
 | [.s .u8 b,.i .i64 c,.i .i64 d],[]=>some ((zfo (⟨b,c,d⟩:Cur)),zbF (zdU (⟨b,c,d⟩:Cur)),[aT .act (zl1 (⟨b,c,d⟩:Cur))])
 | _,_=>none
theorem zQO (c:Cur)(hb:zbQ big (.agg (zbF c) :: []))(hc:zfo c=true):∃N,zmz N c=some (.agg (zbF (zdU c)) :: [aT .act (zl1 c)]):=by
 exact (zIQ hc).1
theorem zKn:zdo Tryz.prog 149 [false,true,true] zp9:=by
 refine zb3 (zcW zfE zbt zFE zy) (zdN (by kernel_rfl)) ?_
 intro cs avs cs' rs hl hr h;have hb:=zcs hr;unfold zp9 at h;split at h
 .obtain ⟨hc,rfl,rfl⟩:=zcM h;obtain ⟨N,hN⟩:=zQO _ (by exact hb) hc
  exact ⟨rfl,_,N,12,(zTa N _ ).trans hN⟩
 .cases h
theorem z5S {c:Cur}(h:zdk c):zfo c=true:=by
 refine zWk c ⟨0,?_⟩;unfold zmz oN
 conv=>zeta
 refine zlK (zdw (zdw (?_))) (fun _ ht5=>zlK (zcZ (fun _=>zdw (zdw (?_))) (fun _=>?_)) (fun _ ht4=>zlK (zdw (zdw (zdw (?_)))) (fun _ ht3=>zlK (zdw (?_)) (fun _ ht2=>zlK (zcZ (fun _=>zdw (?_)) (fun _=>zcZ (fun _=>zdw (zcZ (fun _=>?_) (fun _=>?_))) (fun _=>zcZ (fun _=>zdw (zdw (zdw (?_)))) (fun _=>zcZ (fun _=>zdw (?_)) (fun _=>zcZ (fun _=>?_) (fun _=>zcZ (fun _=>zdw (zdw (?_))) (fun _=>zcZ (fun _=>zdw (?_)) (fun _=>zcZ (fun _=>zcZ (fun _=>ht5) (fun _=>ht4)) (fun _=>zcZ (fun _=>ht5) (fun _=>ht4)))))))))) (fun _ ht0=>zlK (zcZ (fun _=>zdw (?_)) (fun _=>zcZ (fun _=>zcZ (fun _=>?_) (fun _=>ht0)) (fun _=>zcZ (fun _=>?_) (fun _=>ht0)))) (fun _ ht1=>zlK (zcZ (fun _=>zcZ (fun _=>ht2) (fun _=>ht1)) (fun _=>zcZ (fun _=>ht2) (fun _=>ht1))) (fun _ ht6=>zdw (zdw (zdw (zcZ (fun _=>zcZ (fun _=>ht3) (fun _=>ht6)) (fun _=>zcZ (fun _=>ht3) (fun _=>ht6))))))))))))
 all_goals exact zkh (aT .act) (v:=⟨_,_,_,_,_,_⟩) (by first|exact zcv _ _|exact zkO _ _|exact zWh _) trivial
def zjl (N:Nat)  : OA :=
 (iter (σ:=(Int×(lA×Unit))) N (fun r1 s2=>(cond (ilt s2.1 2) (iter (σ:=(Int×(Int×(lA×Unit)))) N (fun r3 s4=>(cond (ilt s4.2.1 2) (iter (σ:=(Int×(Int×(Int×(lA×Unit))))) N (fun r5 s6=>let y0:=(ap s6.2.2.2.1 [(⟨2,s6.1,s6.2.1,s6.2.2.1,(zG .i64 s6.2.2.1 (zl8 .i64 3 s6.2.1)),3⟩:GAct),(⟨3,s6.1,s6.2.1,s6.2.2.1,0,0⟩:GAct)]); (cond (ilt s6.2.2.1 3) (oN (few (ln y0)) (r5 (s6.1,(s6.2.1,((zG .i64 s6.2.2.1 1),(y0,())))))) (r3 (s6.1,((zG .i64 s6.2.1 1),(s6.2.2.2.1,())))))) (s4.1,(s4.2.1,(0,(s4.2.2.1,()))))) (r1 ((zG .i64 s4.1 1),(s4.2.2.1,()))))) (s2.1,(0,(s2.2.1,())))) (some [(aS .act s2.2.1)]))) (0,([],())))
def zLI:FuncId->Nat->Option Tmpl:=zx [(148,0,{ n:=34,tm:=[(1,.sl 0 []),(2,ti)],lo:=[],ro:=[(0,.act,true)] }),(148,2,{ n:=34,tm:=[(1,.sl 0 []),(2,ti),(3,ti)],lo:=[],ro:=[(0,.act,true)] }),(148,4,{ n:=34,tm:=[(1,.sl 0 []),(2,ti),(3,ti),(4,ti)],lo:=[],ro:=[(0,.act,true)] })]
def ziO  (v0:List GAct):Prop:=(∃N,zjl N=some [aS .act v0])/\(v0.length<=45)
def zhX  : Bool:=pc (∃v0,ziO v0)
def zAY  : List GAct:=Classical.epsilon fun r=>ziO r
def zq7  : List GAct:=(zAY)
theorem zAX  (h:zhX=true):ziO zq7:=by
 obtain ⟨v0,h2⟩:=zF.1 h;have h3:ziO (zAY):=Classical.epsilon_spec (p:=fun r=>ziO r) ⟨v0,h2⟩;exact h3
theorem zRv  (h:∃N,Ends (fun a=>∃v0,a=[aS .act v0]/\(v0.length<=45)) (zjl N)):zhX=true:=by
 obtain ⟨N,a,e,v0,rfl,h⟩:=h;exact zbh ⟨v0,⟨N,e⟩,h⟩
def zvW:Run:=rF0 (zhX,[aS .act zq7])
theorem zK1  (hc:zhX=true):∃N,zjl N  = some [aS .act zq7]:=by
 exact (zAX hc).1
theorem zFa:vH 148 zvW:=kF0 zfE zbt zFE zy zLI zK1
def zWT:List GAct:=match zjl 10 with
 | some [.one (.s .act l)]=>l
 | _=>[]
theorem zTO:zhX=true:=zRv ⟨10,_,(by kernel_rfl:zjl 10=some [aS .act zWT]),zWT,rfl,Nat.le_of_ble_eq_true (by kernel_rfl)⟩
def zV7:zdl:=[(149,([false,true,true],zp9))]++zV6
theorem zRf:zcE zV7:=zd1 zFE (by
 intro x hx;simp only[qG,qY,or_false]at hx;rcases hx with rfl
 .exact zKn)
def zW3:zU:=[(148,zvW)]++zmD
theorem zW4:zD zW3:=zh zFa zfE
theorem zMG {c:Cur}(h:zdk c){m:Int}(h0:0<=m)(hm:m<=1000){G:Ans->Prop}{R:Cur->List GAct->Ans}(hG:∀s l,s.b=c.b->0<=s.i->ln l<=45+m->G (R s l)){F:(Int×Int×Int×Int×List GAct×List Int×Unit->OA)->Int×Int×Int×Int×List GAct×List Int×Unit->OA}(hF:∀rec t i k l,F rec (m,t,i,k,l,c.b,())=bif zZ ⟨c.b,i,k⟩ (zG .i64 m 1) then (bif ilt t (zba ⟨c.b,i,k⟩ (zG .i64 m 1)) then (bif zfo { zC ⟨c.b,i,k⟩ (zG .i64 m 1) with b:=c.b } then (bif few (ln (ap l [zl1 { zC ⟨c.b,i,k⟩ (zG .i64 m 1) with b:=c.b }])) then
        rec (m,zG .i64 t 1,(zdU { zC ⟨c.b,i,k⟩ (zG .i64 m 1) with b:=c.b }).i,(zdU { zC ⟨c.b,i,k⟩ (zG .i64 m 1) with b:=c.b }).h,ap l [zl1 { zC ⟨c.b,i,k⟩ (zG .i64 m 1) with b:=c.b }],c.b,()) else none) else none) else some (R ⟨c.b,(zC ⟨c.b,i,k⟩ (zG .i64 m 1)).i,(zC ⟨c.b,i,k⟩ (zG .i64 m 1)).h⟩ l)) else none){i0 k0:Int}(hi0:0<=i0){l0:List GAct}(hl0:l0.length<=45):Ends G (iter 1002 F (m,0,i0,k0,l0,c.b,())):=by
 refine zrA (fun n s=>s.1=m/\s.2.1+(n:Int)=1000/\0<=s.2.1/\0<=s.2.2.1/\(ln s.2.2.2.2.1<=45+s.2.1/\s.2.1<=m)/\s.2.2.2.2.2.1=c.b) ?_ 1002 1000 _ ⟨rfl,rfl,jU 0,hi0,⟨by unfold ln;show ((l0.length:Nat):Int)<=45+0;omega,h0⟩,rfl⟩ (by omega)
 rintro n ⟨q,t,i,k,l,b,u⟩ rec ⟨h0,h1,h2,h3,⟨h5,hq⟩,h6⟩ hrec
 dsimp only at h0 h1 h2 h3 h5 h6 hq
 subst h6;subst h0;rw[hF];have hcur:zdk ⟨c.b,i,k⟩:=ze5 h h3;have hw:=zmu (x:=q) (y:=1) (by omega) (by omega) (by omega) (by omega)
 have hx:=zlH hcur (n:=zG .i64 q 1) (by omega)
 have h7:zdk { zC ⟨c.b,i,k⟩ (zG .i64 q 1) with b:=c.b }:=ze5 h (zcv _ _);refine zbx (zhF hcur _) (zcZ (fun hc=>?_) (fun hc=>?_))
 .have hlt:t<zba ⟨c.b,i,k⟩ (zG .i64 q 1):=qE hc;have ht:=zmu (y:=1) h2 (by omega) (by omega) (by omega)
  refine zbx (z5S h7) (zbx (zu4 (by rw[zoQ];omega)) (hrec (n-1) _ (by omega) ⟨rfl,?_,?_,zWl _,⟨?_,?_⟩,rfl⟩))
  .show zG .i64 t 1+_=1000
   omega
  .show 0<=zG .i64 t 1
   omega
  .show ln (ap l [_])<=45+zG .i64 t 1
   rw[zoQ];omega
  .show zG .i64 t 1<=q
   omega
 .refine zGY (hG _ l rfl (zcv _ _) ?_);omega
def zk4 (N:Nat)(c:Cur)(a0:Int):OA:=
 (oN (zea c 5) (cond (nB (zjW c 5)) (oN zhX (iter (σ:=(Int×(Int×(Int×(Int×(lA×((List Int)×Unit))))))) N (fun r3 s4=>let y6:=s4.2.2.2.2.2.1;let y4:=(zG .i64 s4.1 1);let y2:=(⟨y6,s4.2.2.1,s4.2.2.2.1⟩:Cur);let y0:=({ (zC y2 y4) with b:=y6 }:Cur);let y8:=(ap s4.2.2.2.2.1 [(zl1 y0)]); (oN (zZ y2 y4) (cond (ilt s4.2.1 (zba y2 y4)) (oN (zfo y0) (oN (few (ln y8)) (r3 (s4.1,((zG .i64 s4.2.1 1),((zdU y0).i,((zdU y0).h,(y8,(y6,()))))))))) (some [(.agg [(.s .u8 y6),(.i .i64 (zC y2 y4).i),(.i .i64 (zC y2 y4).h)]),(aS .act s4.2.2.2.2.1)])))) (a0,(0,((zcq c 5).i,((zcq c 5).h,(zq7,(c.b,())))))))) (iter (σ:=(Int×(Int×(Int×(Int×(lA×((List Int)×Unit))))))) N (fun r3 s4=>let y7:=s4.2.2.2.2.2.1;let y5:=(zG .i64 s4.1 1);let y3:=(⟨y7,s4.2.2.1,s4.2.2.2.1⟩:Cur);let y1:=({ (zC y3 y5) with b:=y7 }:Cur);let y9:=(ap s4.2.2.2.2.1 [(zl1 y1)]); (oN (zZ y3 y5) (cond (ilt s4.2.1 (zba y3 y5)) (oN (zfo y1) (oN (few (ln y9)) (r3 (s4.1,((zG .i64 s4.2.1 1),((zdU y1).i,((zdU y1).h,(y9,(y7,()))))))))) (some [(.agg [(.s .u8 y7),(.i .i64 (zC y3 y5).i),(.i .i64 (zC y3 y5).h)]),(aS .act s4.2.2.2.2.1)])))) (a0,(0,((zcq c 5).i,((zcq c 5).h,([],(c.b,())))))))))
def zOC:FuncId->Nat->Option Tmpl:=zx [(87,0,{ n:=26,tm:=[(0,.lp 0 0),(1,ti),(5,.sl 0 []),(6,ti)],lo:=[(0,[.sl 1 [],ti,ti])],ro:=[(0,.act,true),(1,.u8,false)] })]
theorem zQ6 (N:Nat)(c:Cur)(a0:Int):zfV (cQ zW3 zlQ zV7 zj7) zOC N 12 87 [false,true,true] (zbF c) [aI a0]=zk4 N c a0:=by kernel_rfl
def zj1 (c:Cur)(a0:Int)(s:Cur)(v0:List GAct):Prop:=(∃N,zk4 N c a0=some (AV.agg (zbF s) :: [aS .act v0]))/\(s.b=c.b/\0<=s.i)/\(ln v0<=45+a0)
def zgc (c:Cur)(a0:Int):Bool:=pc (∃s v0,zj1 c a0 s v0)
def zpp (c:Cur)(a0:Int):Cur×List GAct:=Classical.epsilon fun r=>zj1 c a0 r.1 r.2
def zfp (c:Cur)(a0:Int):Cur:=bif zgc c a0 then (zpp c a0).1 else ⟨[],0,0⟩
def zmn (c:Cur)(a0:Int):List GAct:=(zpp c a0).2
theorem zuE {c:Cur}{a0:Int}(h:zgc c a0=true):zj1 c a0 (zfp c a0) (zmn c a0):=by
 obtain ⟨s,v0,h2⟩:=zF.1 h;have h3:zj1 c a0 (zpp c a0).1 (zpp c a0).2:=Classical.epsilon_spec (p:=fun r=>zj1 c a0 r.1 r.2) ⟨(s,v0),h2⟩;unfold zfp;rw[h,cT];exact h3
theorem zTm (c:Cur)(a0:Int):0<=(zfp c a0).i:=by
 unfold zfp;cases h:zgc c a0 with
 | false=>exact jU 0
 | true =>
  have:=(zuE h).2.1.2;unfold zfp at this
  rwa [h] at this
theorem zTl (c:Cur)(a0:Int)(h:∃N,Ends (fun a=>∃s v0,a=(AV.agg (zbF s) :: [aS .act v0])/\(s.b=c.b/\0<=s.i)/\(ln v0<=45+a0)) (zk4 N c a0)):zgc c a0=true:=by
 obtain ⟨N,a,e,s,v0,rfl,h⟩:=h;exact zbh ⟨s,v0,⟨N,e⟩,h⟩
def zoc:List CV->List AV->Option (Bool×List CV×List AV)
 | [.s .u8 b,.i .i64 c,.i .i64 d],[.one (.i .i64 e)]=>some ((zgc (⟨b,c,d⟩:Cur) e),zbF (zfp (⟨b,c,d⟩:Cur) e),[aS .act (zmn (⟨b,c,d⟩:Cur) e)])
 | _,_=>none
theorem zOl (c:Cur)(a0:Int)(hb:zbQ big (.agg (zbF c) :: [aI a0]))(hc:zgc c a0=true):∃N,zk4 N c a0=some (.agg (zbF (zfp c a0)) :: [aS .act (zmn c a0)]):=by
 exact (zuE hc).1
theorem zHV:zdo Tryz.prog 87 [false,true,true] zoc:=by
 refine zb3 (zcW zW4 zbt zRf zy) (zdN (by kernel_rfl)) ?_
 intro cs avs cs' rs hl hr h;have hb:=zcs hr;unfold zoc at h;split at h
 .obtain ⟨hc,rfl,rfl⟩:=zcM h;obtain ⟨N,hN⟩:=zOl _ _ (by exact hb) hc
  exact ⟨rfl,_,N,12,(zQ6 N _ _ ).trans hN⟩
 .cases h
theorem zWL {c:Cur}(h:zdk c){m:Int}(h0:0<=m)(hm:m<=1000):zgc c m=true:=by
 refine zTl c m ⟨1002,?_⟩;unfold zk4 oN nB
 conv=>zeta
 have g:=zAX zTO;exact zbx (zQ7 h 5) (zcZ (fun _=>zbx zTO (zMG h h0 hm (R:=fun s l=>AV.agg (zbF s) :: [aS .act l]) (fun s l hb hi hl=>⟨s,l,rfl,⟨hb,hi⟩,hl⟩) (fun rec t i k l=>rfl) (zhx _ _) g.2)) (fun _=>zMG h h0 hm (R:=fun s l=>AV.agg (zbF s) :: [aS .act l]) (fun s l hb hi hl=>⟨s,l,rfl,⟨hb,hi⟩,hl⟩) (fun rec t i k l=>rfl) (zhx _ _) (jS _)))
def zV8:zdl:=[(87,([false,true,true],zoc))]++zV7
theorem zRg:zcE zV8:=zd1 zRf (by
 intro x hx;simp only[qG,qY,or_false]at hx;rcases hx with rfl
 .exact zHV)
def zwc (h:Host):Prop:=∃ps l,zGD ps/\(1<=ps.length/\∀p∈ps,1<=p.length/\∀x∈p,zcU x=true)/\h=(zrJ ps l).1
theorem z0L {p:List Ins}(h:zcU p=true):p.length<=12:=by
 unfold zcU at h;cases hc:p.all zdu with
 | false=>rw[hc]at h;cases h
 | true =>
  rw[hc,cT]at h;have h2:=(zfg.1 h).2;unfold ln at h2;omega
def zk3 (N:Nat)(c:Cur)  : OA :=
 let y0:=({ (zfn c) with b:=c.b }:Cur); (oN (zhe c) (oN (zgc y0 20) (oN (zsg (zow c) (zmn y0 20)) (some [(.agg [(.s .u8 c.b),(.i .i64 (zfp y0 20).i),(.i .i64 (zfp y0 20).h)]),(aH (zsf (zow c) (zmn y0 20)))]))))
theorem zQ2 (N:Nat)(c:Cur)  : zfV (cQ zEu zlQ zV8 zj7) (zx []) N 12 31 [false,true,true] (zbF c) []=zk3 N c:=by kernel_rfl
def zj0 (c:Cur)(s:Cur)(v0:Host):Prop:=(∃N,zk3 N c=some (AV.agg (zbF s) :: [aH v0]))/\(s.b=c.b/\0<=s.i)/\(zwc v0)
def zec (c:Cur)  : Bool:=pc (∃s v0,zj0 c s v0)
def zpn (c:Cur)  : Cur×Host:=Classical.epsilon fun r=>zj0 c r.1 r.2
def zpo (c:Cur)  : Cur:=bif zec c then (zpn c).1 else ⟨[],0,0⟩
def zh5 (c:Cur)  : Host:=(zpn c).2
theorem zD0 {c:Cur}(h:zec c=true):zj0 c (zpo c) (zh5 c):=by
 obtain ⟨s,v0,h2⟩:=zF.1 h;have h3:zj0 c (zpn c).1 (zpn c).2:=Classical.epsilon_spec (p:=fun r=>zj0 c r.1 r.2) ⟨(s,v0),h2⟩;unfold zpo;rw[h,cT];exact h3
theorem zTk (c:Cur)(h:∃N,Ends (fun a=>∃s v0,a=(AV.agg (zbF s) :: [aH v0])/\(s.b=c.b/\0<=s.i)/\(zwc v0)) (zk3 N c)):zec c=true:=by
 obtain ⟨N,a,e,s,v0,rfl,h⟩:=h;exact zbh ⟨s,v0,⟨N,e⟩,h⟩
def zob:List CV->List AV->Option (Bool×List CV×List AV)
 | [.s .u8 b,.i .i64 c,.i .i64 d],[]=>some ((zec (⟨b,c,d⟩:Cur)),zbF (zpo (⟨b,c,d⟩:Cur)),[aH (zh5 (⟨b,c,d⟩:Cur))])
 | _,_=>none
theorem zOf (c:Cur)(hb:zbQ big (.agg (zbF c) :: []))(hc:zec c=true):∃N,zk3 N c=some (.agg (zbF (zpo c)) :: [aH (zh5 c)]):=by
 exact (zD0 hc).1
theorem zHP:zdo Tryz.prog 31 [false,true,true] zob:=by
 refine zb3 (zcW zua zbt zRg zy) (zdN (by kernel_rfl)) ?_
 intro cs avs cs' rs hl hr h;have hb:=zcs hr;unfold zob at h;split at h
 .obtain ⟨hc,rfl,rfl⟩:=zcM h;obtain ⟨N,hN⟩:=zOf _ (by exact hb) hc
  exact ⟨rfl,_,N,12,(zQ2 N _ ).trans hN⟩
 .cases h
theorem zXR {c:Cur}(h:zdk c):zec c=true:=by
 refine zTk c ⟨0,?_⟩;have h1:zdk { zfn c with b:=c.b }:=ze5 h (zWj _);have g1:=(zxg (z1o h)).2.2;have g2:=(zuE (zWL h1 (m:=20) (by omega) (by omega))).2.2
 unfold zk3 oN
 conv=>zeta
 have g3:(zmn { zfn c with b:=c.b } 20).length<=65:=by
  unfold ln at g2;omega
 have S:zGD (zow c):=⟨by omega,fun p hp=>by
  have g:=g1.2.2 p hp;exact ⟨by omega,fun x hx=>by have:=z0L (g.2.2 x hx);omega⟩⟩
 exact zbx (z1o h) (zbx (zWL h1 (by omega) (by omega)) (zbx (zbh ⟨S,jE g3 (by decide)⟩) (zkh aH (zTm _ _) ⟨_,_,S,⟨g1.1,fun p hp=>⟨(g1.2.2 p hp).1,(g1.2.2 p hp).2.2⟩⟩,rfl⟩)))
def zV9:zdl:=[(31,([false,true,true],zob))]++zV8
theorem zw0:zcE zV9:=zd1 zRg (by
 intro x hx;simp only[qG,qY,or_false]at hx;rcases hx with rfl
 .exact zHP)
theorem zPH {α τ ρ:Type}{G:ρ->Prop}{body:Nat->α->τ->(τ->Option ρ)->Option ρ}{K:τ->Option ρ}(hb:∀i x t κ,(∀t,Ends G (κ t))->Ends G (body i x t κ))(hK:∀t,Ends G (K t)):∀(l:List α) (i:Nat) (t:τ),Ends G (goL body K l i t)
 | [],i,t=>hK t
 | x :: l,i,t=>hb i x t _ (fun t=>zPH hb hK l (i+1) t)
def zmv (N:Nat)(a0:List Int):OA:=
 (iter (σ:=(Int×(Int×((List Int)×(lM×(lN×(lE×(lE×Unit)))))))) N (fun r2 s3=>let y0:=(⟨s3.2.2.1,0,s3.1⟩:Cur); (cond (ilt s3.2.1 (ln s3.2.2.1)) (cond (ilt s3.2.1 4000) (oN (inb s3.2.1 (ln s3.2.2.1)) (r2 ((wand .i64 (zG .i64 (zG .i64 (zl8 .i64 s3.1 131) (wcv .i64 (ix s3.2.2.1 s3.2.1 0))) 7) 1073741823),((zG .i64 s3.2.1 1),(s3.2.2.1,(s3.2.2.2.1,(s3.2.2.2.2.1,(s3.2.2.2.2.2.1,(s3.2.2.2.2.2.2.1,()))))))))) (oN (zec y0) (some [(aH (zh5 y0))]))) (oN (zec y0) (some [(aH (zh5 y0))])))) ((zG .i64 94701 (ln a0)),(0,(a0,([],([],([],([],()))))))))
def zLD:FuncId->Nat->Option Tmpl:=zx [(32,0,{ n:=32,tm:=[(0,.sl 0 []),(3,ti),(4,ti)],lo:=[(0,[.sl 1 [],.sl 2 [],.sl 3 [],.sl 4 []])],ro:=[(0,.u8,false),(1,(.sl .int),true),(2,.mon,true),(3,.entry,true),(4,.entry,true)],sk:=[(0,2,0,.lp 0 0)] })]
def ziH (a0:List Int)(v0:Host):Prop:=(∃N,zmv N a0=some [aH v0])/\(zwc v0)
def zhS (a0:List Int):Bool:=pc (∃v0,ziH a0 v0)
def zAQ (a0:List Int):Host:=Classical.epsilon fun r=>ziH a0 r
def zg6 (a0:List Int):Host:=(zAQ a0)
theorem zsc {a0:List Int}(h:zhS a0=true):ziH a0 (zg6 a0):=by
 obtain ⟨v0,h2⟩:=zF.1 h;have h3:ziH a0 (zAQ a0):=Classical.epsilon_spec (p:=fun r=>ziH a0 r) ⟨v0,h2⟩;exact h3
theorem zRq (a0:List Int)(h:∃N,Ends (fun a=>∃v0,a=[aH v0]/\(zwc v0)) (zmv N a0)):zhS a0=true:=by
 obtain ⟨N,a,e,v0,rfl,h⟩:=h;exact zbh ⟨v0,⟨N,e⟩,h⟩
def zvJ:Run:=rF1 (dS .u8) fun b=>(zhS b,[aH (zg6 b)])
theorem zKJ (a0:List Int)(hc:zhS a0=true):∃N,zmv N a0=some [aH (zg6 a0)]:=by
 exact (zsc hc).1
theorem zEU:vH 8 zvJ:=kF1 zua zbt zw0 zy zLD zKJ
theorem zwq {a0:List Int}(h:a0.length<=big):zhS a0=true:=by
 refine zRq a0 (zb9 fun N hNN=>?_);unfold zmv oN
 conv=>zeta
 have fin:∀t,Ends (fun a=>∃v0,a=[aH v0]/\zwc v0) (cond (zec ⟨a0,0,t⟩) (some [aH (zh5 ⟨a0,0,t⟩)]) none):=fun t =>
  have hc:zdk ⟨a0,0,t⟩:=⟨jU 0,h⟩
  zbx (zXR hc) ⟨_,rfl,_,rfl,(zD0 (zXR hc)).2.2⟩
 refine (congrArg (Ends _) (zX a0 (fun i (t:Int)=>(t,(i:Int),a0,[],[],[],[],())) _ (fun i x (t:Int) κ=>bif ilt (i:Int) 4000 then κ (wand .i64 (zG .i64 (zG .i64 (zl8 .i64 t 131) (wcv .i64 x)) 7) 1073741823) else (cond (zec ⟨a0,0,t⟩) (some [aH (zh5 ⟨a0,0,t⟩)]) none)) (fun (t:Int)=>(cond (zec ⟨a0,0,t⟩) (some [aH (zh5 ⟨a0,0,t⟩)]) none)) (fun i hi t rec=>?_) (fun t rec=>?_) N (zG .i64 94701 (ln a0)) (hNN h))).mpr ?_
 .simp only [zbs hi,zV hi,zbe hi,zQ hi h,cT]
 .simp only [zbl,cF]
 exact zPH (fun i x t κ hk=>zcZ (fun _=>hk _) (fun _=>fin t)) fin _ _ _
def zW5:zU:=[(8,zvJ)]++zEu
theorem zW6:zD zW5:=zh zEU zua
theorem zUw:∀(l:List GAct) (u:Host×List Told),SmH u.1->SmH (zw4 l u).1
 | [],u,h=>h
 | a :: l,u,h=>zUw l (zdA u.1 a,ap u.2 [zhC u.1 a]) (zUt h)
theorem z0r {h:Host}(L:zwc h):Safe h/\SmH h:=by
 obtain ⟨ps,l,hS,hp,rfl⟩:=L;refine ⟨?_,zUw _ _ (zUu hS)⟩;unfold zrJ;rw[zUm];exact (zXA _ (zHW hp)).1
def zW7:zU:=zW5
theorem zzi:zD zW7:=zW6
theorem z0q {h:Host}(L:zwc h):Bf h:=by
 obtain ⟨ps,l,hS,hp,rfl⟩:=L;unfold zrJ;exact zWY _ _ (zHW hp) ⟨fun e he=>(by cases he),fun e he=>(by cases he)⟩
theorem zIV:∀l:List Kept,(∀k∈l,k.Slots.length=4)->znC l=4*l.length
 | [],_=>rfl
 | k :: l,h=>by
  have:=zIV l fun x hx=>h x (qU _ hx);have h4:=h k jD;simp only[znC,qV,this,h4];omega
theorem z6d {h:Host}(S:Safe h){m g:Int}(hm:hasB m (ln h.Mons)=true)(hg:hasB g (ln (ix h.Mons m mZ).Guests)=true):(ix (ix h.Mons m mZ).Guests g gZ).Live.length=4:=by
 have:=(zlu.1 (S.ok.guest hm hg).l).2;unfold ln at this;omega
theorem z0O {h:Host}(S:Safe h)(hs:zbI h)(m:Int):zBg h m:=by
 refine ⟨hs,fun hm=>?_⟩;have M:=S.ok.mon hm;have:znC (ix h.Mons m zf).Tables=4*(ix h.Mons m zf).Tables.length:=zIV _ fun k hk=>by
  obtain ⟨g,hg,e⟩:=zvp hk kZ;have hg2:hasB g (ln (ix h.Mons m mZ).Guests)=true:=by
   unfold ln at hg ⊢;rw[<- M.gt];exact hg
  have K:=S.rt.t m hm g hg2;rw[e] at K;rw[K.l2];exact z6d S hm hg2
 have h2:=M.g2;have h3:=M.gt;have h4:(ix h.Mons m zf).Tables.length=(ix h.Mons m mZ).Guests.length:=h3;omega
def zO3 (l:List Int):Prop:=l.length=12/\∀i:Int,0<=i->i<12->0<=ix l i 0/\ix l i 0<10000
def z2y:zdl:=zV9
theorem z0H:zcE z2y:=zw0
def z6i:zdl:=z2y
theorem z0I:zcE z6i:=z0H
def zj8 (N:Nat)(a0:List Int):OA:=
 (iter (σ:=(Int×(Int×((List Int)×((List Int)×Unit))))) N (fun r2 s3=>let y4:=s3.2.2.1; (cond (ilt s3.2.1 (ln y4)) (cond (ilt s3.2.1 4000) (oN (inb s3.2.1 (ln y4)) (r2 ((wand .i64 (zG .i64 (zG .i64 (zl8 .i64 s3.1 131) (wcv .i64 (ix y4 s3.2.1 0))) 7) 1073741823),((zG .i64 s3.2.1 1),(y4,(s3.2.2.2.1,())))))) (iter (σ:=(Int×(Int×(Int×((List Int)×((List Int)×Unit)))))) N (fun r4 s5=>let y0:=(⟨s5.2.2.2.2.1,s5.2.1,s5.2.2.1⟩:Cur);let y2:=(ap s5.2.2.2.1 [(zba y0 10000)]); (cond (ilt s5.1 12) (oN (zZ y0 10000) (oN (few (ln y2)) (r4 ((zG .i64 s5.1 1),((zC y0 10000).i,((zC y0 10000).h,(y2,(s5.2.2.2.2.1,())))))))) (some [(aS .int s5.2.2.2.1)]))) (0,(0,(s3.1,([],(y4,()))))))) (iter (σ:=(Int×(Int×(Int×((List Int)×((List Int)×Unit)))))) N (fun r4 s5=>let y1:=(⟨s5.2.2.2.2.1,s5.2.1,s5.2.2.1⟩:Cur);let y3:=(ap s5.2.2.2.1 [(zba y1 10000)]); (cond (ilt s5.1 12) (oN (zZ y1 10000) (oN (few (ln y3)) (r4 ((zG .i64 s5.1 1),((zC y1 10000).i,((zC y1 10000).h,(y3,(s5.2.2.2.2.1,())))))))) (some [(aS .int s5.2.2.2.1)]))) (0,(0,(s3.1,([],(y4,())))))))) ((zG .i64 94701 (ln a0)),(0,(a0,([],())))))
def zFS:FuncId->Nat->Option Tmpl:=zx [(32,0,{ n:=32,tm:=[(0,.sl 0 []),(3,ti),(4,ti)],lo:=[],ro:=[(0,.u8,false),(1,.int,true)],sk:=[(0,2,0,.sl 1 [])] }),(9,0,{ n:=19,tm:=[(3,.lp 0 0),(4,.sl 0 []),(5,ti)],lo:=[(0,[.sl 1 [],ti,ti])],ro:=[(0,.int,true),(1,.u8,false)] })]
def zg7 (a0:List Int)(v0:List Int):Prop:=(∃N,zj8 N a0=some [aS .int v0])/\(zO3 v0)
def zgn (a0:List Int):Bool:=pc (∃v0,zg7 a0 v0)
def zv0 (a0:List Int):List Int:=Classical.epsilon fun r=>zg7 a0 r
def zfB (a0:List Int):List Int:=(zv0 a0)
theorem zvZ {a0:List Int}(h:zgn a0=true):zg7 a0 (zfB a0):=by
 obtain ⟨v0,h2⟩:=zF.1 h;have h3:zg7 a0 (zv0 a0):=Classical.epsilon_spec (p:=fun r=>zg7 a0 r) ⟨v0,h2⟩;exact h3
theorem zLo (a0:List Int)(h:∃N,Ends (fun a=>∃v0,a=[aS .int v0]/\(zO3 v0)) (zj8 N a0)):zgn a0=true:=by
 obtain ⟨N,a,e,v0,rfl,h⟩:=h;exact zbh ⟨v0,⟨N,e⟩,h⟩
def zr3:Run:=rF1 (dS .u8) fun b=>(zgn b,[aS .int (zfB b)])
theorem zFq (a0:List Int)(hc:zgn a0=true):∃N,zj8 N a0=some [aS .int (zfB a0)]:=by
 exact (zvZ hc).1
theorem zzy:vH 9 zr3:=kF1 zzi zbt z0I zy zFS zFq
theorem zRj {a0:List Int}(h:a0.length<=big):zgn a0=true:=by
 refine zLo a0 (zb9 fun N hNN=>?_);unfold zj8 oN
 conv=>zeta
 have h12:12<N:=hNN (by rw[znR];omega)
 refine zrA (fun n s=>∃(t:Int) (i:Nat),s=(t,(i:Int),a0,[],())/\i+n=a0.length) ?_ N a0.length _ ⟨_,0,rfl,by omega⟩ (hNN h)
 rintro n s rec ⟨t,i,rfl,hi⟩ hrec
 dsimp only
 refine zcZ (fun h1=>zcZ (fun h2=>?_) (fun _=>?_)) (fun _=>?_)
 .have hlt:(i:Int)<ln a0:=qE h1;unfold ln at hlt;refine zbx (qL ⟨by omega,by unfold ln;omega⟩) (hrec (n-1) _ (by omega) (by rw[zQ (show i<a0.length by omega) h];exact ⟨_,i+1,rfl,by omega⟩))
 all_goals
  refine zrA (fun n s=>∃(k:Nat) (i x:Int) (l:List Int),s=((k:Int),i,x,l,a0,())/\k+n=12/\0<=i/\l.length=k/\∀y∈l,0<=y/\y<10000) ?_ N 12 _ ⟨0,0,t,[],rfl,rfl,jU 0,rfl,by simp⟩ h12
  rintro n' s rec' ⟨k,i',x,l,rfl,hk,hi0,hlk,hl⟩ hrec'
  dsimp only
  have hcur:zdk ⟨a0,i',x⟩:=⟨hi0,h⟩;have hx:=zlH hcur (n:=10000) (by omega)
  refine zcZ (fun h3=>?_) (fun h3=>⟨_,rfl,l,rfl,?_⟩)
  .have h3':(k:Int)<12:=qE h3;have hnew:∀y∈ap l [zba ⟨a0,i',x⟩ 10000],0<=y/\y<10000:=by
    intro y hy;rcases jF.1 hy with hy|hy
    .exact hl y hy
    .rw [qF.1 hy];exact hx
   exact zbx (zhF hcur _) (zbx (zu4 (by rw[zoQ];unfold ln;omega)) (hrec' (n'-1) _ (by omega) (by rw[zoC (show -9223372036854775808<=(k:Int)+1 by omega) (by omega)];exact ⟨k+1,_,_,_,rfl,by omega,zcv _ _,by simp[ap,hlk],hnew⟩)))
  .have h3':¬ (k:Int)<12:=jV h3;exact ⟨by omega,fun j h0 h1=>hl _ (zbq (qL ⟨h0,by unfold ln;omega⟩) 0)⟩
theorem zQW {α β:Type}{f:α->β}{l:List α}{x:β}{xs:List β}(h:l.map f=x :: xs):∃a r,l=a :: r/\f a=x/\r.map f=xs:=by
 cases l with
 | nil=>cases h
 | cons a r =>
  simp only[jC,List.cons.injEq]at h;exact ⟨a,r,rfl,h.1,h.2⟩
theorem z5G {a:AV}{ct:CTy}(h:some a.sh=some (false,[ct])):∃c,a = .one c/\c.ty=ct:=by
 cases a with
 | one c =>
  simp only[AV.sh,qC,jN,List.cons.injEq,and_true,true_and]at h;exact ⟨c,rfl,h⟩
 | agg l=>simp[AV.sh]at h
theorem z6H {a:AV}{t:Ty}(h:some a.sh=some (false,[.s t])):∃l:List t.den,a = .one (.s t l):=by
 obtain ⟨c,rfl,hc⟩:=z5G h;obtain ⟨l,rfl⟩:=zkf hc;exact ⟨l,rfl⟩
section
open Go Go.ChangeShapes Go.WideShapes Go.ChangeAt
abbrev zKs (_:List Int):Bool:=true
abbrev zH2 (l:List Int):Bool:=igt (ln l) 1048576
def zMY:Run:=rF1 (dS .u8) fun b=>(zKs b,[aB (zH2 b)])
def zTI (N:Nat)(a0:List Int):OA:=
 (some [(aB (igt (ln a0) 1048576))])
theorem zX2 (a0:List Int)(hc:zKs a0=true):∃N,zTI N a0=some [aB (zH2 a0)]:=by
 refine ⟨0,?_⟩;unfold zTI
 first|rfl|(simp only [*,zH2,cT,cF]<;>rfl)|simp_all[Ty.cells,zH2]
theorem zSy:vH 7 zMY:=kF1 zzi zbt zw0 zy (zx []) zX2
def z1V:zU:=[(7,zMY),(9,zr3),(28,zqc),(29,zDK),(30,zvw),(16,zvy)]++zW7
theorem zZY:zD z1V:=zh zSy (zh zzy (zh zs4 (zh zNk (zh zEH (zh zEJ zzi)))))
def zqD (N:Nat)(a0:List Int):OA:=
 let y5:=(zg6 a0).Mons;let y2:=(ziA (ix (zfB a0) 1 0) 8);let y0:=(ziA (ix (zfB a0) 0 0) (ln y5));let y7:=(ix y5 y0 zf).Outer;let y4:=(zoO (zg6 a0) y0 y2); (oN (zKs a0) (cond (zH2 a0) oT (oN (zhS a0) (oN (zgn a0) (oN (inb 0 (ln (zfB a0))) (oN (ine (ln y5) 0) (oN (inb 1 (ln (zfB a0))) (oN (ine 8 0) (oN (inb y0 (ln y5)) (oN (inb y2 (ln y7)) (oN (zuf (zg6 a0) y0 y2) (oN (zta y4 y0) (iter (σ:=(Int×(Int×(Bool×(Int×((List Int)×(lM×(lN×(lE×(lE×Unit)))))))))) N (fun r2 s3=>let y6:=s3.2.2.2.2.1;let y3:=(r2 (s3.1,(s3.2.1,(s3.2.2.1,((zG .i64 s3.2.2.2.1 1),(y6,(s3.2.2.2.2.2.1,(s3.2.2.2.2.2.2.1,(s3.2.2.2.2.2.2.2.1,(s3.2.2.2.2.2.2.2.2.1,()))))))))));let y1:=(⟨s3.2.2.2.2.2.1,s3.2.2.2.2.2.2.1,s3.2.2.2.2.2.2.2.1,s3.2.2.2.2.2.2.2.2.1⟩:Host); (cond (ilt s3.2.2.2.1 (ln y6)) (cond s3.2.2.1 (oN (inb s3.2.2.2.1 (ln y6)) (cond (ieq (ix y6 s3.2.2.2.1 0) s3.2.1) oF y3)) y3) (cond (znP s3.2.2.1 (ine s3.2.1 (-1))) (oN (zrP y1) (cond (zmN y1) (oN (zta y1 s3.1) (oN (zrO y1 s3.1) (some [(aB (ile (ln (zfH y1 s3.1)) (ln (zqK y1 s3.1))))]))) oF)) oF))) (y0,((ix y7 y2 zI).Page,((zhn (zg6 a0) y0 y2),(0,((zfH y4 y0),(y4.Memory,(y4.Mons,(y4.Buffer,(y4.IoBuffer,()))))))))))))))))))))))
def zA7:FuncId->Nat->Option Tmpl:=zx [(6,0,{ n:=83,tm:=[(5,ti),(7,ti),(8,.lp 0 0),(9,.b),(10,.sl 0 []),(11,ti)],lo:=[(0,[.sl 1 [],.sl 2 [],.sl 3 [],.sl 4 []])],ro:=[(0,.int,true),(1,(.sl .int),true),(2,.mon,true),(3,.entry,true),(4,.entry,true)] })]
theorem zS5 (N:Nat)(a0:List Int):evalFn (cQ z1V zlQ zV9 zj7) zA7 N 12 6 [aS .u8 a0]=zqD N a0:=by kernel_rfl
theorem zNd (a0:List Int)(hl:a0.length<=big):∃N,Ends (fun a=>a=[.one (.b true)]) (zqD N a0):=by
 refine zb9 fun N hNN=>?_;unfold zqD oN
 conv=>zeta
 refine zbx rfl (zcZ (fun _=>zGY rfl) (fun _=>zbx (zwq hl) (zbx (zRj hl) ?_)));obtain ⟨S,hs⟩:=z0r (zsc (zwq hl)).2;have B:=z0q (zsc (zwq hl)).2;obtain ⟨hp1,hp2⟩:=(zvZ (zRj hl)).2;generalize zg6 a0=h at S hs B;generalize zfB a0=p at hp1 hp2;have hS:zbI h:=(zN h).2 hs;have hn1:=S.ok.n1;have hlp:ln p=12:=by unfold ln;omega
 have hM:(0:Int)<ln h.Mons:=by unfold ln;omega
 have c1:inb 0 (ln p)=true:=zu (zn.2 (by omega))
 have c2:inb 1 (ln p)=true:=zu (zn.2 (by omega))
 have mM:=zBP (hp2 0 (by omega) (by omega)).1 hM
 have hm:hasB (ziA (ix p 0 0) (ln h.Mons)) (ln h.Mons)=true:=zn.2 mM;refine zbx c1 (zbx (zko.2 (by omega)) (zbx c2 (zbx rfl ?_)))
 generalize ziA (ix p 0 0) (ln h.Mons)=m at mM hm;have m8:=zBP (hp2 1 (by omega) (by omega)).1 (show (0:Int)<8 by omega)
 generalize ziA (ix p 1 0) 8=q at m8;have hq:hasB q 8=true:=zn.2 m8;have hqo:=(S.ok.mon hm).hasO hq;have hh:zbJ h m q=true:=zjK.2 ⟨S.ok,hm,hq⟩;have S2:Safe (zbM h m q):=(zwW S.ok m q).safe S;have B2:Bf (zbM h m q):=zGL B m q;have hs2:SmH (zbM h m q):=zUv hs;have hS2:zbI (zbM h m q):=(zN _).2 hs2;have hm2:hasB m (ln (zbM h m q).Mons)=true:=by rw[(zwW S.ok m q).like.has];exact hm
 have hr:zBg (zbM h m q) m:=z0O S2 hS2 m;refine zbx (zu hm) (zbx (zu hqo) (zbx (zbh hS) (zbx (zbh hr) ?_)));have hlen:(zfH (zbM h m q) m).length<=big:=jE (zYB hr) (by decide)
 have e2:zhn h m q=ine (ix (ix h.Mons m zf).Outer q zI).Page (-1):=by
  show zjL h m q=_
  unfold zjL;rw[hh];rfl
 have hno:ine (ix (ix h.Mons m zf).Outer q zI).Page (-1)=true->∀x∈zfH (zbM h m q) m,ieq x (ix (ix h.Mons m zf).Outer q zI).Page=false:=by
  intro hn x hx;have hn':=zko.1 hn;have ho:zbM h m q=zcC h m q:=by
   unfold zbM zfX;rw[hh,show ieq (ix (ix h.Mons m mZ).Outer q sZ).Page (-1)=false from zbE.2 hn'];rfl
  refine zbE.2 fun e=>?_;have h1:=zMW S2 B2 hm2 x hx;rw[ho,e]at h1;exact z4o S.ok hm hq hn' h1
 refine zrA (fun n s=>∃i:Nat,s=(m,(ix (ix h.Mons m zf).Outer q zI).Page,zhn h m q,(i:Int),zfH (zbM h m q) m,(zbM h m q).Memory,(zbM h m q).Mons,(zbM h m q).Buffer,(zbM h m q).IoBuffer,())/\i+n=(zfH (zbM h m q) m).length) ?_ N (zfH (zbM h m q) m).length _ ⟨0,rfl,by omega⟩ (hNN hlen)
 rintro n s rec ⟨i,rfl,hi⟩ hrec
 dsimp only
 refine zcZ (fun hlt=>?_) (fun hge=>?_)
 .have hi':i<(zfH (zbM h m q) m).length:=by have:=qE hlt;unfold ln at this;omega
  have hx:ix (zfH (zbM h m q) m) (i:Int) 0∈zfH (zbM h m q) m:=zbq (zV hi') 0;have next:=hrec (n-1) (m,(ix (ix h.Mons m zf).Outer q zI).Page,zhn h m q,zG .i64 (i:Int) 1,zfH (zbM h m q) m,(zbM h m q).Memory,(zbM h m q).Mons,(zbM h m q).Buffer,(zbM h m q).IoBuffer,()) (by omega) ⟨i+1,by rw[zQ hi' hlen],by omega⟩
  refine zcZ (fun hp=>zbx (zV hi') (z3C (hno (e2.symm.trans hp) _ hx) next)) (fun _=>next)
 .refine zbx (by rw[e2,zWU]) (zbx (zbh hS2) (zbx (zYI S2) (zbx (zbh hr) (zbx (zbh hS2) (zGY ?_)))))
  have:=z0N S2 B2 hm2
  show [AV.one (.b (ile ((zi0 (zbM h m q) m).length:Int) ((zhr (zbM h m q) m).length:Int)))]=_
  rw[show ile ((zi0 (zbM h m q) m).length:Int) ((zhr (zbM h m q) m).length:Int)=true from qL (by omega)]
theorem zO6 (a0:List Int)(ho:∀c∈zo [aS .u8 a0],CVOk c):∃N,zqD N a0=some [.one (.b true)]:=by
 have hb:zbQ big [aS .u8 a0]:=fun c hc=>CVB.of_ok (ho c hc);have hl:=(len0 hb);obtain ⟨N,h⟩:=zNd a0 hl;exact ⟨N,z3G (G:=fun a=>a=[.one (.b true)]) h⟩
theorem zLq:Tryz.f6.params.toList.map (zch Tryz.prog 4)=[some (false,[.s .u8])]:=by kernel_rfl
theorem zEi:zTF 6 Tryz.f6.params.toList:=by
 refine zSl zZY zbt zw0 zy (zdN (by kernel_rfl)) ?_
 intro avs hg;obtain ⟨h1,h2⟩:=hg;rw[zLq]at h1;obtain ⟨v0,r0,rfl,e0,h1⟩:=zQW h1;cases List.map_eq_nil_iff.1 h1;obtain ⟨a0,rfl⟩:=z6H e0;obtain ⟨N,hN⟩:=zO6 a0 h2;exact ⟨zA7,N,12,(zS5 N a0).trans hN⟩
theorem zOr (H:Type)(ds:List (DataW H))(h:ds.length=Tryz.f6.params.toList.length):Rows.fnGoneSpec.fn H ds={ results:=[.lit (.bool true)],args:=ds }:=by
 have hl:ds.length=1:=h.trans (by kernel_rfl)
 match ds,hl with
 | [d],_=>rfl
set_option maxRecDepth 100000 in
theorem zIj (os:Os)(started:os.Started)(H:Type)(enc:TypeId×Value->H) :
 ReturnsInHanded {} Tryz.checked os 6 .any (Rows.fnGoneSpec.pre6 enc Tryz.prog Tryz.f6 Rows.fnGoneRow.domain false) (Rows.fnGoneSpec.post enc Tryz.prog Tryz.f6 false true false false):=by
 refine returnsInHanded_of_change_shaped (C:=Tryz.checked) own started (by kernel_rfl) Tryz.func6
  (ChangeSpec.witness6 (enc:=enc) (C:=Tryz.checked) false ⟨#[],#[.slice none 0 0],[]⟩ 8 (by kernel_rfl) (by kernel_rfl) (by kernel_rfl) (by kernel_rfl)) ?_
 intro W base args ds gs before hval hW _ hsz _ _;exact zH3 (P:=Tryz.prog) zZz z0o rfl zOr (by kernel_rfl) (B:=4) (by kernel_rfl) (by kernel_rfl) zEi W base args ds gs before hval hW hsz
end
section
open Go Go.ChangeShapes Go.WideShapes Go.ChangeAt
abbrev PP:=Tryz.pinned.checked.prog
abbrev cc:=Rows.fnGoneRow
abbrev ss:=Rows.fnGoneSpec
theorem jf1:cc.wf (OpenSpec.ofChange ss)=true:=by kernel_rfl
theorem jf2:laidOutB PP=true:=by kernel_rfl
theorem jf3:mapsRowed PP=true:=by kernel_rfl
theorem jf4:Tryz.f6.params.all (PP.readableRec ·)=true:=by kernel_rfl
theorem jf5:namedTie PP cc.named ss.vars=true:=by kernel_rfl
theorem jf6:(cc.inPlace==PP.inPlace 6)=true:=by kernel_rfl
theorem jf7:(cc.unfollowed==PP.unfollowed 6)=true:=by kernel_rfl
theorem jf8:(cc.recurses==PP.recurses 6)=true:=by kernel_rfl
theorem jf9:(cc.named==PP.varsNamed 6)=true:=by kernel_rfl
theorem z6B:(cc.lifted==PP.liftsFinal)=true:=by kernel_rfl
theorem z6C:PP.stopsHeard=true:=by kernel_rfl
theorem z6D:PP.mayEnter=true:=by kernel_rfl
theorem z6E:(cc.plainKeys==PP.plainKeys)=true:=by kernel_rfl
theorem z6F:(PP.make==some cc.make)=true:=by kernel_rfl
theorem zP0:joinedFacts PP 6 Tryz.f6 ss cc=true:=by
 unfold joinedFacts;simp only[qD]
 repeat' apply And.intro
 all_goals first|with_reducible exact jf1|with_reducible exact jf2|with_reducible exact jf3|with_reducible exact jf4|with_reducible exact jf5|with_reducible exact jf6|with_reducible exact jf7|with_reducible exact jf8|with_reducible exact jf9|with_reducible exact z6B|with_reducible exact z6C|with_reducible exact z6D|with_reducible exact z6E|with_reducible exact z6F|kernel_rfl
theorem said_fnGone:Rows.FnGoneSaid :=
 OpenClaim.holds_of_wide 6 Tryz.f6 rfl rfl rfl rfl rfl rfl rfl ⟨rfl,rfl,rfl,rfl,rfl⟩ rfl rfl rfl rfl rfl (by kernel_rfl) Tryz.func6 zP0
  (qE (by kernel_rfl)) (by unfold Func.isWrapper;first|(rw [if_pos (by decide +kernel)];kernel_rfl)|(rw [if_neg (by decide +kernel)];exact ⟨rfl,rfl⟩))
  (fun os started H enc _=>zIj os started H enc)
end
end
end Go.Proofs.YtdaahiceaagpdaaGreat.E
