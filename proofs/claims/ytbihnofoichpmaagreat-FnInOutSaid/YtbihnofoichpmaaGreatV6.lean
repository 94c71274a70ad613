/- What is proved here: a part of the proof that the statement of this claim holds (several texts of wip/, laid together). -/
import Derived.Test.YtbihnofoichpmaaGreatV5
namespace Go.Proofs.YtbihnofoichpmaaGreat.E
open Go
set_option linter.unusedVariables false
set_option maxRecDepth 100000
set_option linter.unusedSimpArgs false
set_option linter.unusedSectionVars false
noncomputable section
structure KeepP (x y:Mon):Prop where
 o:y.Outer=x.Outer
 u:y.Out=x.Out
theorem zJD {h r:Host}{m:Int}(hm:hasB m (ln h.Mons)=true){y:Mon}(hM:r.Mons=up h.Mons m y)(hmem:r.Memory=h.Memory)(k:KeepP (ix h.Mons m mZ) y)(i q:Int):zbY r i q=zbY h i q:=by
 unfold zbY;rw[hM,zdg,hmem];cases hi:hasB i (ln h.Mons) with
 | false=>rfl
 | true =>
  by_cases e:m=i
  .subst e;rw[zY hm,k.o,k.u]
  .rw [zbk (zu.1 hm).1 (zu.1 hi).1 e]
theorem zsY {h r:Host}{m:Int}(hm:hasB m (ln h.Mons)=true){y:Mon}(hM:r.Mons=up h.Mons m y)(hmem:r.Memory=h.Memory)(k:KeepP (ix h.Mons m mZ) y)(i:Int) :
 zA r i=bif ieq i m then ⟨(zA h i).Memory,y.Guests,y.Outs,y.Pending⟩ else zA h i:=by
 have hp:zca r i 8 0=zca h i 8 0:=zpi 8 0 (fun j _ _=>zJD hm hM hmem k i j);unfold zA;rw[hp,hM,zdg]
 by_cases e:i=m
 .subst e;rw[hm,zbg.2 rfl,zY hm];rfl
 .rw [zbF.2 e,cond_false];cases hi:hasB i (ln h.Mons) with
  | false=>rfl
  | true=>rw[zbk (zu.1 hm).1 (zu.1 hi).1 (Ne.symm e)]
theorem zjP {x y:Mon}(X:MOk x)(k:KeepP x y)(g:y.Guests.length=x.Guests.length)(t:y.Tables.length=x.Tables.length)(d:y.Dirty.length=x.Dirty.length)(o:y.Outs.length<=40)(p:zcK y.Pending=true)(tr:win y.Traps 0 3=true)(ow:win y.Own 0 1000000000=true)(gs:∀g∈y.Guests,zcW g=true):MOk y :=
 ⟨by rw[g];exact X.g1,by rw[g];exact X.g2,by rw[t,g];exact X.gt,by rw[k.o];exact X.o8,by rw[k.o];exact X.sl,by rw[k.u];exact X.u8,by rw[d];exact X.d8,o,p,tr,ow,gs,by rw[k.o,k.u];exact X.fit⟩
theorem zRm {h:Host}(H:HOk h){m:Int}(hm:hasB m (ln h.Mons)=true){y:Mon}(k:KeepP (ix h.Mons m mZ) y)(hy:MOk y):HOk { h with Mons:=up h.Mons m y } :=
 H.up hm hy rfl H.m12 H.pgs H.b1 H.b2 fun q _=>.inl (by unfold cPg;rw[k.o];exact qX _)
theorem zuB {h:Host}(S:Safe h){m:Int}(hm:hasB m (ln h.Mons)=true){y:Mon}(k:KeepP (ix h.Mons m mZ) y)(hy:MOk y)(hg:y.Guests.length=(ix h.Mons m mZ).Guests.length)(hv:∀g,hasB g (ln (ix h.Mons m mZ).Guests)=true->(ix y.Guests g gZ).Live=(ix (ix h.Mons m mZ).Guests g gZ).Live)(ht:y.Tables=(ix h.Mons m mZ).Tables):Safe { h with Mons:=up h.Mons m y } :=
 ⟨zRm S.ok hm k hy,zJK S.rt hm rfl rfl rfl hg hv ht k.o⟩
theorem zPR {h:Host}(S:Safe h)(m t:Int):Safe (ziG h m t)/\∀i,zA (ziG h m t) i=zA h i:=by
 unfold ziG;rw[zi4.2 S.ok,cond_true];cases hm:hasB m (ln h.Mons) with
 | false=>exact ⟨S,fun _=>rfl⟩
 | true =>
  cases ht:win t 0 3 with
  | false=>exact ⟨S,fun _=>rfl⟩
  | true =>
   have X:=S.ok.mon hm;have k:KeepP (ix h.Mons m mZ) { ix h.Mons m mZ with Traps:=t }:=⟨rfl,rfl⟩;refine ⟨zuB S hm k (zjP X k rfl rfl rfl X.outs X.pend ht X.own X.gs) rfl (fun _ _=>rfl) rfl,fun i=>?_⟩;rw[cond_true,cond_true];refine (zsY (h:=h) (r:={ h with Mons:=up h.Mons m { ix h.Mons m mZ with Traps:=t } }) hm rfl rfl k i).trans ?_
   by_cases e:i=m
   .subst e;rw[zbg.2 rfl,cond_true];unfold zA;rw[hm];rfl
   .rw [zbF.2 e];rfl
theorem zEs:∀(n i:Nat) (k:Kept),(zhN n i k).Known.length=k.Known.length/\(zhN n i k).Slots.length=k.Slots.length
 | 0,i,k=>⟨rfl,rfl⟩
 | n+1,i,k=>by
  have h1:=zEs n (i+1) (zbI k (i:Int));have h2:=zjE k (i:Int);exact ⟨h1.1.trans h2.1,h1.2.trans h2.2⟩
theorem zH5:∀(n i:Nat) (k:Kept),k.Known.length=k.Slots.length->∀j,hasB j (ln k.Known)=true ->
 ((i:Int)<=j/\j<((i+n:Nat):Int)->ix (zhN n i k).Known j false=false/\ix (zhN n i k).Slots j sZ=noSlot) /\
 (¬ ((i:Int)<=j/\j<((i+n:Nat):Int))->ix (zhN n i k).Known j false=ix k.Known j false/\ix (zhN n i k).Slots j sZ=ix k.Slots j sZ)
 | 0,i,k,_,j,_=>⟨fun h=>by omega,fun _=>⟨rfl,rfl⟩⟩
 | n+1,i,k,hl,j,hj=>by
  have h2:=zjE k (i:Int);have h3:=zuO (q:=(i:Int)) hl hj;have ih:=zH5 n (i+1) (zbI k (i:Int)) (by rw[h2.1,h2.2,hl]) j (by unfold ln at hj ⊢;rwa [h2.1])
  rw[zhN]
  by_cases hc:((i+1:Nat):Int)<=j/\j<((i+1+n:Nat):Int)
  .exact ⟨fun _=>ih.1 hc,fun h=>absurd (by omega) h⟩
  .rw [(ih.2 hc).1,(ih.2 hc).2,h3.1,h3.2]
   by_cases e:(i:Int)=j
   .rw [zbg.2 e];exact ⟨fun _=>⟨rfl,rfl⟩,fun h=>absurd (by omega) h⟩
   .rw [zbF.2 e];exact ⟨fun h=>absurd (by omega) hc,fun _=>⟨rfl,rfl⟩⟩
theorem zOZ {k:Kept}{inner outer:List Slot}(h:KOk k inner outer):KOk (zim k) inner outer:=by
 have hl:=zEs k.Known.length 0 k;refine ⟨hl.1.trans h.l1,hl.2.trans h.l2,fun i hi=>?_⟩;have hi':hasB i (ln k.Known)=true:=by unfold ln at hi ⊢;rwa [h.l1]
 have hi2:=zu.1 hi';unfold ln at hi2;have:=(zH5 k.Known.length 0 k (by rw[h.l1,h.l2]) i hi').1 ⟨by omega,by omega⟩
 unfold zim;rw[this.1,this.2];rfl
theorem zHR:∀(n j:Nat) (l:List Kept),(ztm n j l).length=l.length
 | 0,_,_=>rfl
 | n+1,j,l=>by rw[ztm,zHR n,zbB]
theorem zQJ:∀(n j:Nat) (l:List Kept),j+n<=l.length->∀g,0<=g->ix (ztm n j l) g kZ=if (j:Int)<=g/\g<((j+n:Nat):Int) then zim (ix l g kZ) else ix l g kZ
 | 0,j,l,_,g,hg=>by rw[if_neg (by omega)];rfl
 | n+1,j,l,hl,g,hg=>by
  rw[ztm,zQJ n (j+1) _ (by rw[zbB];omega) g hg]
  by_cases e:(j:Int)=g
  .subst e;rw[if_neg (by omega),if_pos (by omega),zY (zu.2 ⟨by omega,by unfold ln;omega⟩)]
  .rw [zbk (by omega) hg e]
   by_cases h:((j+1:Nat):Int)<=g/\g<((j+1+n:Nat):Int)
   .rw [if_pos h,if_pos (by omega)]
   .rw [if_neg h,if_neg (by omega)]
theorem zHQ:∀(n i:Nat) (l:List Mon),(zmU n i l).length=l.length
 | 0,_,_=>rfl
 | n+1,i,l=>by rw[zmU,zHQ n,zbB]
theorem zNv:∀(n i:Nat) (l:List Mon),i+n<=l.length->∀m,0<=m->ix (zmU n i l) m mZ=if (i:Int)<=m/\m<((i+n:Nat):Int) then ztn (ix l m mZ) (ix l m mZ).Tables.length 0 else ix l m mZ
 | 0,i,l,_,m,hm=>by rw[if_neg (by omega)];rfl
 | n+1,i,l,hl,m,hm=>by
  rw[zmU,zNv n (i+1) _ (by rw[zbB];omega) m hm]
  by_cases e:(i:Int)=m
  .subst e;rw[if_neg (by omega),if_pos (by omega),zY (zu.2 ⟨by omega,by unfold ln;omega⟩)]
  .rw [zbk (by omega) hm e]
   by_cases h:((i+1:Nat):Int)<=m/\m<((i+1+n:Nat):Int)
   .rw [if_pos h,if_pos (by omega)]
   .rw [if_neg h,if_neg (by omega)]
theorem z0M (h:Host){m:Int}(hm:hasB m (ln h.Mons)=true):ix (cold h).Mons m mZ=ztn (ix h.Mons m mZ) (ix h.Mons m mZ).Tables.length 0:=by
 have:=zu.1 hm;unfold ln at this
 show ix (zmU h.Mons.length 0 h.Mons) m mZ=_
 rw[zNv _ _ _ (by omega) m this.1,if_pos (by omega)]
theorem zvx (h:Host):(cold h).Mons.length=h.Mons.length:=zHQ _ _ _
theorem zFm (h:Host)(m:Int):hasB m (ln (cold h).Mons)=hasB m (ln h.Mons):=by unfold ln;rw[zvx]
theorem z4h {l l':List Mon}(hl:l'.length=l.length)(h:∀m,hasB m (ln l)=true->(ix l' m mZ).Outer=(ix l m mZ).Outer)(q:Int):zdH l' q=zdH l q:=by
 have:l'.map (fun x=>cPg x q)=l.map (fun x=>cPg x q):=by
  refine List.ext_getElem (by simp[hl]) fun k h1 h2=>?_
  simp only[uD]at h1 h2;have:=h (k:Int) (zu.2 ⟨by omega,by unfold ln;omega⟩)
  rw[zli h1,zli h2] at this;simp[cPg,this]
 unfold zdH;rw[this]
theorem z5q {h:Host}(H:HOk h):Op h (cold h):=by
 have hx:∀m,hasB m (ln h.Mons)=true->ix (cold h).Mons m mZ=ztn (ix h.Mons m mZ) (ix h.Mons m mZ).Tables.length 0:=fun m hm=>z0M h hm;have hpg:∀i q,zbY (cold h) i q=zbY h i q:=by
  intro i q;unfold zbY;rw[zFm];cases hi:hasB i (ln h.Mons) with
  | false=>rfl
  | true=>rw[hx i hi];rfl
 refine ⟨⟨H.m12,H.pgs,by rw[zvx];exact H.n1,by rw[zvx];exact H.n3,rfl,rfl,fun y hy=>?_,fun q hq=>?_⟩,⟨zvx h,fun i hi=>by rw[hx i hi];rfl,fun i hi=>by rw[hx i hi];rfl,fun i hi=>by rw[hx i hi];rfl,fun i hi=>by rw[hx i hi];rfl,fun i hi=>by rw[hx i hi];rfl,fun i k _ _=>hpg i k⟩,fun R=>⟨fun m hm=>?_,fun e he=>(by cases he),fun e he=>(by cases he)⟩⟩
 .obtain ⟨m,hm,rfl⟩:=zSz hy mZ;rw[zFm]at hm;rw[hx m hm];have X:=H.mon hm;have k:KeepP (ix h.Mons m mZ) (ztn (ix h.Mons m mZ) (ix h.Mons m mZ).Tables.length 0):=⟨rfl,rfl⟩;exact zjP X k rfl (zHR _ _ _) rfl X.outs X.pend X.tr X.own X.gs
 .rw [z4h (l:=h.Mons) (zvx h) (fun m hm=>by rw[hx m hm];rfl)]
  exact H.uq q hq
 .rw [zFm]at hm;rw[hx m hm];have X:=H.mon hm;intro g hg
  show KOk (ix (ztm (ix h.Mons m mZ).Tables.length 0 (ix h.Mons m mZ).Tables) g kZ) (ix (ix h.Mons m mZ).Guests g gZ).Live (ix h.Mons m mZ).Outer
  have hg':hasB g (ln (ix h.Mons m mZ).Guests)=true:=hg;have hg2:=zu.1 hg';unfold ln at hg2;have hgt:=X.gt;rw[zQJ _ _ _ (by omega) g hg2.1,if_pos (by omega)]
  exact zOZ (R.t m hm g hg')
theorem zTt {m g:Int}(hm:win m 0 2=true)(hg:win g 0 1=true):zc6 (zek m g)=m/\zdN (zek m g)=g/\1<=zek m g/\zek m g<=6:=by
 have h1:=zcm.1 hm;have h2:=zcm.1 hg;have e1:m=0\/m=1\/m=2:=by omega
 have e2:g=0\/g=1:=by omega
 rcases e1 with rfl|rfl|rfl<;>rcases e2 with rfl|rfl<;>decide
theorem HOk.tag {h:Host}(H:HOk h){m g:Int}(hm:hasB m (ln h.Mons)=true)(hg:hasB g (ln (ix h.Mons m mZ).Guests)=true):win m 0 2=true/\win g 0 1=true:=by
 have h1:=zu.1 hm;have h2:=zu.1 hg;have h3:=H.n3;have h4:=(H.mon hm).g2;unfold ln at h1 h2;exact ⟨zcm.2 (by omega),zcm.2 (by omega)⟩
theorem zfB {r:Int}:zcE r=true↔r=0\/r=1\/r=2\/r=3:=by
 unfold zcE ige ile;rw[qD,qW,qW];omega
theorem zpT {a b:Int}(h:enough a b=true):zcE a=true/\zcE b=true:=by
 unfold enough at h;rw[zbU,zbU]at h;exact ⟨h.1,h.2.1⟩
theorem zQ7 {a b c:Int}(h1:enough a b=true)(h2:enough b c=true):enough a c=true:=by
 have ha:=zfB.1 (zpT h1).1;have hb:=zfB.1 (zpT h1).2;have hc:=zfB.1 (zpT h2).2;rcases ha with rfl|rfl|rfl|rfl<;>rcases hb with rfl|rfl|rfl|rfl<;>rcases hc with rfl|rfl|rfl|rfl<;>revert h1 h2<;>decide
theorem zT3 {a b n:Int}(hn:n=1\/n=2)(h1:enough a n=true)(h2:enough b n=true):zdw a b≠0/\enough (zdw a b) n=true:=by
 have ha:=zfB.1 (zpT h1).1;have hb:=zfB.1 (zpT h2).1;rcases hn with rfl|rfl<;>rcases ha with rfl|rfl|rfl|rfl<;>rcases hb with rfl|rfl|rfl|rfl<;>revert h1 h2<;>decide
theorem both_ok (a b:Int):zcE (zdw a b)=true:=by
 unfold zdw;cases ha:zcE a with
 | false=>rfl
 | true =>
  cases hb:zcE b with
  | false=>rfl
  | true =>
   have ha:=zfB.1 ha;have hb:=zfB.1 hb;rcases ha with rfl|rfl|rfl|rfl<;>rcases hb with rfl|rfl|rfl|rfl<;>decide
theorem zT8 {a:Int}(h:zcE a=true):enough a a=true:=by
 rcases zfB.1 h with rfl|rfl|rfl|rfl<;>decide
theorem zo3 {n:Int}(hn:n=1\/n=2):enough 0 n=false:=by rcases hn with rfl|rfl<;>decide
theorem zWE {s:Slot}{o:List Slot}(h1:s.Page≠-1)(h2:(zbl o s.Page).Page≠-1):zbm s o=bif ieq (zdw s.Rights (zbl o s.Page).Rights) 0 then noSlot else ⟨(zbl o s.Page).Page,zdw s.Rights (zbl o s.Page).Rights⟩:=by
 unfold zbm;rw[zbF.2 h1,zbF.2 h2];rfl
theorem zof {s:Slot}{o:List Slot}{n:Int}(hn:n=1\/n=2)(h:enough (zbm s o).Rights n=true):s.Page≠-1/\(zbl o s.Page).Page≠-1/\(zbm s o).Page=(zbl o s.Page).Page:=by
 unfold zbm at h ⊢
 by_cases e1:s.Page = -1
 .rw [zbg.2 e1,cond_true]at h;rw[show noSlot.Rights=0 from rfl,zo3 hn]at h;cases h
 .rw [zbF.2 e1,cond_false]at h ⊢
  by_cases e2:(zbl o s.Page).Page = -1
  .rw [zbg.2 e2,cond_true]at h;rw[show noSlot.Rights=0 from rfl,zo3 hn]at h;cases h
  .rw [zbF.2 e2,cond_false]at h ⊢
   by_cases e3:zdw s.Rights (zbl o s.Page).Rights=0
   .rw [zbg.2 e3,cond_true]at h;rw[show noSlot.Rights=0 from rfl,zo3 hn]at h;cases h
   .rw [zbF.2 e3];exact ⟨e1,e2,rfl⟩
theorem zQK {s:Slot}{o:List Slot}{n:Int}(hn:n=1\/n=2)(h1:s.Page≠-1)(h2:(zbl o s.Page).Page≠-1)(h3:enough s.Rights n=true)(h4:enough (zbl o s.Page).Rights n=true) :
 (zbm s o).Page=(zbl o s.Page).Page/\enough (zbm s o).Rights n=true:=by
 have:=zT3 hn h3 h4;rw[zWE h1 h2,zbF.2 this.1];exact ⟨rfl,this.2⟩
theorem zWF (s:Slot)(o:List Slot):zcE (zbm s o).Rights=true:=by
 unfold zbm;cases ieq s.Page (-1)<;>cases ieq (zbl o s.Page).Page (-1)<;>cases ieq (zdw s.Rights (zbl o s.Page).Rights) 0<;>first|rfl|exact both_ok _ _
theorem zw8 {b:List Entry}{t p:Int}{e:Entry}:e∈zcn b t p↔e∈b/\¬ (e.Tag=t/\e.Page=p):=by
 unfold zcn;rw[List.mem_filter];refine and_congr Iff.rfl ?_;unfold zA2
 by_cases h:e.Tag=t
 .rw [show ine e.Tag t=false by simp[ine,h],cond_false,zos];simp[h]
 .rw [zos.2 h];simp[h]
theorem z1S {b:List Entry}{e x:Entry}(h:x∈zso b e):x∈b\/x=e:=by
 unfold zso ap at h;have:x∈zcn b e.Tag e.Page++[e]:=by
  cases hc:igt (ln (zcn b e.Tag e.Page++[e])) 6 with
  | true=>rw[hc,cond_true]at h;exact kH h
  | false=>rw[hc,cond_false]at h;exact h
 rcases jJ.1 this with h|h
 .exact .inl (zw8.1 h).1
 .exact .inr (qF.1 h)
theorem z7q {n:Nat}(h:n<=100):wsub .i64 (n:Int) 6=(n:Int)-6:=by
 unfold wsub IntKind.wrap;simp[IntKind.signed,IntKind.bits];omega
theorem zVv {b:List Entry}(h:zew b=true)(e:Entry):zew (zso b e)=true:=by
 have h1:=zCj.1 h;have hl:(zcn b e.Tag e.Page).length<=6:=jB (k5 _ _) h1.2;have hp:(zcn b e.Tag e.Page++[e]).Pairwise (fun y x=>sameKey x y=false):=by
  rw[List.pairwise_append];refine ⟨h1.1.sublist List.filter_sublist,List.pairwise_singleton _ _,fun x hx y hy=>?_⟩;rw[qF.1 hy];have:=(zw8.1 hx).2;unfold sameKey
  by_cases e1:e.Tag=x.Tag
  .rw [zbg.2 e1,cond_true,zbF];exact fun e2=>this ⟨e1.symm,e2.symm⟩
  .rw [zbF.2 e1];rfl
 unfold zso ap;cases hc:igt (ln (zcn b e.Tag e.Page++[e])) 6 with
 | true =>
  rw[cond_true,zCj];refine ⟨hp.sublist (List.drop_sublist _ _),?_⟩;unfold dp ln;rw[kN,uU,z7q (by omega),List.length_drop,kN,uU]
  omega
 | false =>
  rw[cond_false,zCj];refine ⟨hp,?_⟩;have:=jV hc;unfold ln at this;omega
theorem zZz {h r:Host}{m:Int}(hm:hasB m (ln h.Mons)=true){y:Mon}(hM:r.Mons=up h.Mons m y)(hmem:r.Memory=h.Memory)(k:KeepP (ix h.Mons m mZ) y)(g:y.Guests=(ix h.Mons m mZ).Guests)(o:y.Outs=(ix h.Mons m mZ).Outs)(p:y.Pending=(ix h.Mons m mZ).Pending)(t:y.Traps=(ix h.Mons m mZ).Traps)(w:y.Own=(ix h.Mons m mZ).Own):Like h r:=by
 have e:∀{α:Type} (F:Mon->α),F y=F (ix h.Mons m mZ)->∀i,hasB i (ln h.Mons)=true->F (ix r.Mons i mZ)=F (ix h.Mons i mZ):=by
  intro α F hF i hi;rw[hM]
  by_cases e:m=i
  .subst e;rw[zY hm];exact hF
  .rw [zbk (zu.1 hm).1 (zu.1 hi).1 e]
 exact ⟨by rw[hM,zbB],e Mon.Guests g,e Mon.Outs o,e Mon.Pending p,e Mon.Traps t,e Mon.Own w,fun i q _ _=>zJD hm hM hmem k i q⟩
theorem z1U {h:Host}(R:Rt h){m g:Int}(hm:hasB m (ln h.Mons)=true)(ht:hasB g (ln (ix h.Mons m mZ).Tables)=true){k:Kept}(hk:KOk k (ix (ix h.Mons m mZ).Guests g gZ).Live (ix h.Mons m mZ).Outer) :
 Rt { h with Mons:=up h.Mons m { ix h.Mons m mZ with Tables:=up (ix h.Mons m mZ).Tables g k } }:=by
 have key:∀e,zcB h e=true->zcB { h with Mons:=up h.Mons m { ix h.Mons m mZ with Tables:=up (ix h.Mons m mZ).Tables g k } } e=true:=by
  intro e he;obtain ⟨h1,h2,h3⟩:=ze5.1 he;rw[ze5]
  show hasB (zc6 e.Tag) (ln (up h.Mons m _))=true/\hasB (zdN e.Tag) (ln (ix (up h.Mons m _) (zc6 e.Tag) mZ).Guests)=true/\below' _ (zbm (zbl (ix (ix (up h.Mons m _) (zc6 e.Tag) mZ).Guests (zdN e.Tag) gZ).Live e.Page) (ix (up h.Mons m _) (zc6 e.Tag) mZ).Outer)=true
  rw[zdg];refine ⟨h1,?_⟩
  by_cases hc:m=zc6 e.Tag
  .rw [<- hc]at h1 h2 h3 ⊢;rw[zY hm];exact ⟨h2,h3⟩
  .rw [zbk (zu.1 hm).1 (zu.1 h1).1 hc];exact ⟨h2,h3⟩
 refine ⟨fun i hi=>?_,fun e he=>key e (R.e1 e he),fun e he=>key e (R.e2 e he)⟩
 show TOk (ix (up h.Mons m _) i mZ)
 have hi':hasB i (ln h.Mons)=true:=by
  have:hasB i (ln (up h.Mons m { ix h.Mons m mZ with Tables:=up (ix h.Mons m mZ).Tables g k }))=true:=hi
  rwa [zdg] at this
 by_cases hc:m=i
 .subst hc;rw[zY hm];intro j hj
  by_cases e:g=j
  .subst e
   show KOk (ix (up _ g k) g kZ) _ _
   rw[zY ht];exact hk
  .show KOk (ix (up _ g k) j kZ) _ _
   rw[zbk (zu.1 ht).1 (zu.1 hj).1 e];exact R.t m hm j hj
 .rw [zbk (zu.1 hm).1 (zu.1 hi').1 hc];exact R.t i hi'
theorem z1H {h:Host}(H:HOk h){m g:Int}(hm:hasB m (ln h.Mons)=true)(ht:hasB g (ln (ix h.Mons m mZ).Tables)=true){k:Kept}(hk:Rt h->KOk k (ix (ix h.Mons m mZ).Guests g gZ).Live (ix h.Mons m mZ).Outer) :
 Op h { h with Mons:=up h.Mons m { ix h.Mons m mZ with Tables:=up (ix h.Mons m mZ).Tables g k } }:=by
 have X:=H.mon hm;have kp:KeepP (ix h.Mons m mZ) { ix h.Mons m mZ with Tables:=up (ix h.Mons m mZ).Tables g k }:=⟨rfl,rfl⟩;exact ⟨zRm H hm kp (zjP X kp rfl (zbB _ _ _) rfl X.outs X.pend X.tr X.own X.gs),zZz (y:={ ix h.Mons m mZ with Tables:=up (ix h.Mons m mZ).Tables g k }) hm rfl rfl kp rfl rfl rfl rfl rfl,fun R=>z1U R hm ht (hk R)⟩
theorem zIZ {k:Kept}{inner outer:List Slot}(h:KOk k inner outer)(p:Int):KOk (filled k inner outer p) inner outer:=by
 unfold filled zdc;cases h1:hasB p (ln k.Known) with
 | false=>exact h
 | true =>
  have hs:hasB p (ln k.Slots)=true:=by unfold ln at h1 ⊢;rw[h.l2,<- h.l1];exact h1
  have hi:hasB p (ln inner)=true:=by unfold ln at h1 ⊢;rw[<- h.l1];exact h1
  rw[cond_true,hs,cond_true,hi,cond_true];refine ⟨by rw[zbB];exact h.l1,by rw[zbB];exact h.l2,fun i hi'=>?_⟩
  by_cases e:p=i
  .subst e
   show ix (up _ p _) p sZ=bif ix (up _ p true) p false then _ else _
   rw[zY hs,zY h1];rfl
  .show ix (up _ p _) i sZ=bif ix (up _ p true) i false then _ else _
   rw[zbk (zu.1 hs).1 (zu.1 hi').1 e,zbk (zu.1 hs).1 (zu.1 hi').1 e];exact h.at' i hi'
theorem z5r {h:Host}(H:HOk h){m g:Int}(hm:hasB m (ln h.Mons)=true)(hg:hasB g (ln (ix h.Mons m mZ).Guests)=true)(page:Int):Op h (zdl h m g page) :=
 z1H H hm (by unfold ln;rw[(H.mon hm).gt];exact hg) fun R=>zIZ (R.t m hm g hg) page
theorem zYm {k:Kept}{inner outer:List Slot}(h:KOk k inner outer){p:Int}(hp:hasB p (ln inner)=true):zeG k p=bif ix k.Known p false then zbm (ix inner p sZ) outer else noSlot:=by
 have h1:hasB p (ln k.Known)=true:=by unfold ln at hp ⊢;rw[h.l1];exact hp
 have h2:hasB p (ln k.Slots)=true:=by unfold ln at hp ⊢;rw[h.l2];exact hp
 unfold zeG zjN zdc;rw[h1,h2,cond_true,cond_true,h.at' p hp];cases ix k.Known p false<;>rfl
theorem zWx {k:Kept}{inner outer:List Slot}(h:KOk k inner outer){p:Int}(hp:hasB p (ln inner)=true):zeG (filled k inner outer p) p=zbm (ix inner p sZ) outer:=by
 rw[zYm (zIZ h p) hp];have h1:hasB p (ln k.Known)=true:=by unfold ln at hp ⊢;rw[h.l1];exact hp
 have h2:hasB p (ln k.Slots)=true:=by unfold ln at hp ⊢;rw[h.l2];exact hp
 have:ix (filled k inner outer p).Known p false=true:=by
  unfold filled zdc;rw[h1,h2,hp];exact zY h1 _ _
 rw[this];rfl
theorem z6A {h:Host}(H:HOk h){m g page:Int}(io:Bool)(he:Rt h->zcB h (zQa h m g page)=true):Op h (ztI h m g page io):=by
 have hl:∀(b1 b2:List Entry),Like h ⟨h.Memory,h.Mons,b1,b2⟩:=fun _ _=>⟨rfl,fun _ _=>rfl,fun _ _=>rfl,fun _ _=>rfl,fun _ _=>rfl,fun _ _=>rfl,fun _ _ _ _=>rfl⟩;have key:∀(b:List Entry),(∀e∈b,zcB h e=true)->Rt h->∀e∈zso b (zQa h m g page),zcB h e=true:=by
  intro b hb R e hx;rcases z1S hx with hx|hx
  .exact hb e hx
  .rw [hx];exact he R
 unfold ztI;cases io
 .exact ⟨⟨H.m12,H.pgs,H.n1,H.n3,zVv H.b1 _,H.b2,H.mons,H.uq⟩,hl _ _,fun R=>⟨R.t,fun e hx=>key _ R.e1 R e hx,R.e2⟩⟩
 .exact ⟨⟨H.m12,H.pgs,H.n1,H.n3,H.b1,zVv H.b2 _,H.mons,H.uq⟩,hl _ _,fun R=>⟨R.t,R.e1,fun e hx=>key _ R.e2 R e hx⟩⟩
theorem z1l {b:List Entry}{t p:Int}{e:Entry}(h:zCr b t p=some e):e∈b/\e.Tag=t/\e.Page=p:=by
 unfold zCr at h;have h1:=List.find?_some h;rw[zbU,zbg,zbg]at h1;exact ⟨uE h,h1⟩
theorem ziN {h:Host}{m g:Int}:zbJ h m g=true↔HOk h/\hasB m (ln h.Mons)=true/\hasB g (ln (ix h.Mons m mZ).Guests)=true:=by
 unfold zbJ;rw[zbU,zbU,zi4]
structure GOk (x:Guest):Prop where
 prog:zcR x.Prog=true
 a:win x.A 0 99=true
 pc:win x.Pc 0 12=true
 w:zcv x.Written 4 8=true
 l:zcv x.Live 4 8=true
 ctl:zgL x.Ctl=true
 pend:zcK x.Pending=true
 ex:zgz x.Exit=true
 seen:ile (ln x.Seen) 40=true
theorem zrG {x:Guest}:zcW x=true↔GOk x:=by
 unfold zcW;simp only[qD];exact ⟨fun ⟨a,b,c,d,e,f,g,h,i⟩=>⟨a,b,c,d,e,f,g,h,i⟩,fun ⟨a,b,c,d,e,f,g,h,i⟩=>⟨a,b,c,d,e,f,g,h,i⟩⟩
theorem z0e {s:Slot}:zde s 8=true↔s=noSlot\/(0<=s.Page/\s.Page<=7/\1<=s.Rights/\s.Rights<=3):=by
 unfold zde;rw[zrS,znY,zqf];have:wsub .i64 8 1=7:=by decide
 simp only[this,zrS,zcm];simp[igt];constructor
 .rintro (h|⟨h,⟨h1,h2⟩,h3⟩)
  .exact .inl h
  .exact .inr ⟨h1,h2,h3⟩
 .intro h
  by_cases hs:s=noSlot
  .exact .inl hs
  .rcases h with h|⟨h1,h2,h3⟩
   .exact .inl h
   .exact .inr ⟨hs,⟨h1,h2⟩,h3⟩
theorem HOk.guest {h:Host}(H:HOk h){m g:Int}(hm:hasB m (ln h.Mons)=true)(hg:hasB g (ln (ix h.Mons m mZ).Guests)=true):GOk (ix (ix h.Mons m mZ).Guests g gZ):=zrG.1 ((H.mon hm).gs _ (zkv hg _))
structure Walked (l:List Slot) (p n q:Int):Prop where
 hp:hasB p (ln l)=true
 pg:(ix l p sZ).Page=q
 q8:hasB q 8=true
 en:enough (ix l p sZ).Rights n=true
theorem walked {x:Guest}(X:GOk x){p n:Int}(hw:ze0 x.Live p n=true):Walked x.Live p n (zck x.Live p n):=by
 have e:zck x.Live p n=(zbl x.Live p).Page:=by unfold zck;rw[hw];rfl
 unfold ze0 at hw
 by_cases h1:(zbl x.Live p).Page = -1
 .rw [zbg.2 h1]at hw;cases hw
 .rw [zbF.2 h1,cond_false,zbU]at hw;have hp:hasB p (ln x.Live)=true:=by
   cases hp:hasB p (ln x.Live) with
   | true=>rfl
   | false=>exact absurd (by unfold zbl;rw[hp];rfl) h1
  rw[zmF hp] at e h1 hw;rw[e];have hs:=z0e.1 ((zpN.1 X.l).1 _ (zkv hp sZ));refine ⟨hp,rfl,?_,hw.1⟩;rcases hs with hs|hs
  .rw [hs]at h1;exact absurd rfl h1
  .exact zu.2 (by omega)
structure Looked (h r:Host) (m g page need q host:Int):Prop where
 op:Op h r
 inn:(ix (ix r.Mons m mZ).Outer q sZ).Page=host
 ne:host≠-1
 en:enough (zbm (ix (ix (ix h.Mons m mZ).Guests g gZ).Live page sZ) (ix r.Mons m mZ).Outer).Rights need=true
 cp:(zbm (ix (ix (ix h.Mons m mZ).Guests g gZ).Live page sZ) (ix r.Mons m mZ).Outer).Page=host
 dk:∀k,hasB k 8=true->k≠q->ix (ix r.Mons m mZ).Dirty k false=ix (ix h.Mons m mZ).Dirty k false
 dq:need=2->ix (ix r.Mons m mZ).Dirty q false=true
 d1:need=1->(ix r.Mons m mZ).Dirty=(ix h.Mons m mZ).Dirty
 dm:∀i,hasB i (ln h.Mons)=true->i≠m->(ix r.Mons i mZ).Dirty=(ix h.Mons i mZ).Dirty
theorem zNY {h:Host}(S:Safe h){m g page need q:Int}(hm:hasB m (ln h.Mons)=true)(hg:hasB g (ln (ix h.Mons m mZ).Guests)=true)(hn:need=1\/need=2)(W:Walked (ix (ix h.Mons m mZ).Guests g gZ).Live page need q)(io:Bool)(ha:zeG (zce h m g) page=zbm (ix (ix (ix h.Mons m mZ).Guests g gZ).Live page sZ) (ix h.Mons m mZ).Outer)(he:enough (zeG (zce h m g) page).Rights need=true) :
 Op h (zg9 h m g page io).1/\(zg9 h m g page io).2=((ix (ix h.Mons m mZ).Outer q sZ).Page,true)/\(ix (ix h.Mons m mZ).Outer q sZ).Page≠-1/\(zg9 h m g page io).1.Mons=h.Mons:=by
 rw[ha]at he;have hc:=zof hn he;rw[W.pg,zmF ((S.ok.mon hm).hasO W.q8)]at hc;refine ⟨z6A S.ok io fun R=>?_,?_,hc.2.1,?_⟩
 .obtain ⟨t1,t2⟩:=S.ok.tag hm hg;obtain ⟨b1,b2,_⟩:=zTt t1 t2;rw[ze5]
  show hasB (zc6 (zek m g)) _=true/\hasB (zdN (zek m g)) (ln (ix h.Mons (zc6 (zek m g)) mZ).Guests)=true/\below' ⟨(zeG (zce h m g) page).Page,(zeG (zce h m g) page).Rights⟩ (zbm (zbl (ix (ix h.Mons (zc6 (zek m g)) mZ).Guests (zdN (zek m g)) gZ).Live page) (ix h.Mons (zc6 (zek m g)) mZ).Outer)=true
  rw[b1,b2,zmF W.hp,ha];exact ⟨hm,hg,zpR.2 (.inr ⟨rfl,zT8 (zWF _ _)⟩)⟩
 .show ((zeG (zce h m g) page).Page,true)=_
  rw[ha,hc.2.2]
 .show (ztI h m g page io).Mons=_
  unfold ztI;cases io<;>rfl
theorem zSt {h:Host}(S:Safe h){m g page need q:Int}(hm:hasB m (ln h.Mons)=true)(hg:hasB g (ln (ix h.Mons m mZ).Guests)=true)(hn:need=1\/need=2)(W:Walked (ix (ix h.Mons m mZ).Guests g gZ).Live page need q)(io:Bool){b:List Entry}(hb:∀e∈b,zcB h e=true)(hd:need=2->ix (ix h.Mons m mZ).Dirty q false=true) :
 Looked h (zg8 h b m g page need q io).1 m g page need q (zg8 h b m g page need q io).2.1/\(zg8 h b m g page need q io).2.2=true:=by
 have X:=S.ok.mon hm;have hq8:=W.q8;have hsl:=zmF (X.hasO W.q8);unfold zg8;cases hf:zgR b m g page need with
 | true =>
  rw[cond_true];unfold zgR at hf;cases hfb:zpW b m g page with
  | none=>rw[hfb]at hf;cases hf
  | some e =>
   rw[hfb]at hf;have hf':enough e.Rights need=true:=hf;obtain ⟨f1,f2,f3⟩:=z1l hfb;obtain ⟨t1,t2⟩:=S.ok.tag hm hg;obtain ⟨b1,b2,_⟩:=zTt t1 t2;obtain ⟨_,_,h3⟩:=ze5.1 (hb e f1);rw[f2,b1,b2,f3,zmF W.hp]at h3;have hne:(⟨e.Host,e.Rights⟩:Slot)≠noSlot:=fun hc=>by
    have:e.Rights=0:=congrArg Slot.Rights hc;rw[this,zo3 hn]at hf';cases hf'
   rcases zpR.1 h3 with h3|⟨h3,h4⟩
   .exact absurd h3 hne
   .have h5:=zQ7 h4 hf';have hc:=zof hn h5;rw[W.pg,hsl]at hc;have h3':e.Host=_:=h3;refine ⟨⟨Op.refl S.ok,hc.2.2.symm.trans h3.symm,?_,h5,h3.symm,fun _ _ _=>rfl,hd,fun _=>rfl,fun _ _ _=>rfl⟩,rfl⟩
    show e.Host≠-1
    rw[h3',hc.2.2];exact hc.2.1
 | false =>
  rw[cond_false];have hKO:=S.rt.t m hm g hg;cases hs:zeu h m g page need with
  | false =>
   rw[cond_false];have hs':ix (zce h m g).Known page false=true/\enough (zeG (zce h m g) page).Rights need=true:=by
    unfold zeu at hs;cases hk:zjN (zce h m g) page with
    | false=>rw[hk]at hs;cases hs
    | true =>
     rw[hk,cond_true]at hs;refine ⟨?_,?_⟩
     .unfold zjN at hk;cases hh:zdc (zce h m g) page with
      | false=>rw[hh]at hk;cases hk
      | true=>rw[hh]at hk;exact hk
     .cases hz:ieq (zeG (zce h m g) page).Page (-1) with
      | true=>rw[hz]at hs;cases hs
      | false=>rw[hz]at hs;simpa using hs
   have ha:zeG (zce h m g) page=zbm (ix (ix (ix h.Mons m mZ).Guests g gZ).Live page sZ) (ix h.Mons m mZ).Outer:=by
    have h0:=zYm hKO W.hp;have h1:ix (ix (ix h.Mons m mZ).Tables g kZ).Known page false=true:=hs'.1;rw[h1]at h0;exact h0
   obtain ⟨o1,o2,o3,o4⟩:=zNY S hm hg hn W io ha hs'.2;rw[o2];have he:=hs'.2;rw[ha]at he;have hc:=zof hn he;rw[W.pg,hsl]at hc;exact ⟨⟨o1,by rw[o4],o3,by rw[o4];exact he,by rw[o4];exact hc.2.2,fun _ _ _=>by rw[o4],fun e=>by rw[o4];exact hd e,fun _=>by rw[o4],fun _ _ _=>by rw[o4]⟩,rfl⟩
  | true =>
   rw[cond_true];have M:=zN7 S.ok (m:=m) (p:=q) need hm hq8;have hm1:hasB m (ln (mended h m q need).Mons)=true:=by rw[M.op.like.has];exact hm
   have hgs:(ix (mended h m q need).Mons m mZ).Guests=(ix h.Mons m mZ).Guests:=M.op.like.g m hm;have hg1:hasB g (ln (ix (mended h m q need).Mons m mZ).Guests)=true:=by rw[hgs];exact hg
   have S1:Safe (mended h m q need):=M.op.safe S;have F:=z5r S1.ok hm1 hg1 page;have S2:Safe (zdl (mended h m q need) m g page):=F.safe S1;have hm2:hasB m (ln (zdl (mended h m q need) m g page).Mons)=true:=by rw[F.like.has];exact hm1
   have e2:ix (zdl (mended h m q need) m g page).Mons m mZ={ ix (mended h m q need).Mons m mZ with Tables:=up (ix (mended h m q need).Mons m mZ).Tables g (filled (zce (mended h m q need) m g) (zcr (mended h m q need) m g) (ix (mended h m q need).Mons m mZ).Outer page) }:=zY hm1 _ _;have hg2:hasB g (ln (ix (zdl (mended h m q need) m g page).Mons m mZ).Guests)=true:=by rw[e2];exact hg1
   have hgs2:(ix (zdl (mended h m q need) m g page).Mons m mZ).Guests=(ix h.Mons m mZ).Guests:=by rw[e2];exact hgs
   have W2:Walked (ix (ix (zdl (mended h m q need) m g page).Mons m mZ).Guests g gZ).Live page need q:=by rw[hgs2];exact W
   have ha:zeG (zce (zdl (mended h m q need) m g page) m g) page=zbm (ix (ix (ix (zdl (mended h m q need) m g page).Mons m mZ).Guests g gZ).Live page sZ) (ix (zdl (mended h m q need) m g page).Mons m mZ).Outer:=by
    have:zce (zdl (mended h m q need) m g page) m g=filled (zce (mended h m q need) m g) (zcr (mended h m q need) m g) (ix (mended h m q need).Mons m mZ).Outer page:=by
     unfold zce;rw[e2];exact zY (by unfold ln;rw[(S1.ok.mon hm1).gt];exact hg1) _ _
    rw[this];refine (zWx (p:=page) (S1.rt.t m hm1 g hg1) (by rw[hgs];exact W.hp)).trans ?_
    rw[e2]
   have hOu:(ix (zdl (mended h m q need) m g page).Mons m mZ).Outer=(ix (mended h m q need).Mons m mZ).Outer:=by rw[e2]
   have hsl1:=zmF ((S1.ok.mon hm1).hasO hq8);have hfull:=zQK (s:=ix (ix (ix h.Mons m mZ).Guests g gZ).Live page sZ) (o:=(ix (mended h m q need).Mons m mZ).Outer) hn (by rw[W.pg];have:=zu.1 hq8;omega) (by rw[W.pg,hsl1];exact M.inn) W.en (by
    rw[W.pg,hsl1];rcases hn with rfl|rfl
    .rcases (S1.ok.mon hm1).enough1 hq8 M.inn with e|e<;>rw [e]<;>decide
    .rw [M.ri (by decide)];decide)
   have he:enough (zeG (zce (zdl (mended h m q need) m g page) m g) page).Rights need=true:=by
    rw[ha,hgs2,hOu];exact hfull.2
   obtain ⟨o1,o2,o3,o4⟩:=zNY S2 hm2 hg2 hn W2 io ha he;rw[o2];have hcp:=hfull.1;rw[W.pg,hsl1]at hcp;refine ⟨⟨(M.op.trans F).trans o1,by rw[o4],o3,by rw[o4,hOu];exact hfull.2,by rw[o4,hOu];exact hcp,fun k hk hc=>?_,fun e=>?_,fun e=>?_,fun i hi hc=>?_⟩,rfl⟩
   .rw [o4,e2];exact M.dk k hk hc
   .rw [o4,e2];exact M.dt (by rw[e];decide)
   .rw [o4,e2];exact M.d0 (by rw[e];decide)
   .rw [o4]
    show (ix (up (mended h m q need).Mons m _) i mZ).Dirty=_
    rw[zbk (zu.1 hm).1 (zu.1 hi).1 (Ne.symm hc)];exact M.dm i hi hc
theorem zEy {n:Int}:ziP n=true↔n=1\/n=2:=by
 unfold ziP
 by_cases h:n=1
 .rw [zbg.2 h];simp[h]
 .rw [zbF.2 h,cond_false,zbg];simp[h]
theorem zpc {h:Host}{m g page need:Int}:zbS h m g page need=true↔zbJ h m g=true/\(need=1\/need=2)/\ze0 (zcr h m g) page need=true:=by
 unfold zbS;rw[zbU,zbU,zEy]
theorem zN0 {h:Host}(S:Safe h){m g page need:Int}(io:Bool)(hl:zbS h m g page need=true){b:List Entry}(hb:∀e∈b,zcB h e=true) :
 Looked h (lookOf h b m g page need io).1 m g page need (zck (zcr h m g) page need) (lookOf h b m g page need io).2.1/\(lookOf h b m g page need io).2.2=true:=by
 obtain ⟨h1,hn,hw⟩:=zpc.1 hl;obtain ⟨_,hm,hg⟩:=ziN.1 h1;have W:=walked (S.ok.guest hm hg) hw;unfold lookOf;rw[hl,cond_true];rcases hn with rfl|rfl
 .rw [show ieq 1 2=false by decide,cond_false]
  exact zSt S hm hg (.inl rfl) W io hb (fun e=>absurd e (by decide))
 .rw [show ieq 2 2=true by decide,cond_true]
  obtain ⟨k1,k2⟩:=zJy S.ok hm (zck (zcr h m g) page 2);have hm1:hasB m (ln (zb2 h m (zck (zcr h m g) page 2)).Mons)=true:=by rw[k1.like.has];exact hm
  have e1:ix (zb2 h m (zck (zcr h m g) page 2)).Mons m mZ={ ix h.Mons m mZ with Dirty:=up (ix h.Mons m mZ).Dirty (zck (zcr h m g) page 2) true }:=zY hm _ _;have hD:=(S.ok.mon hm).hasD W.q8;obtain ⟨L,hL⟩:=zSt (k1.safe S) hm1 (g:=g) (page:=page) (need:=2) (q:=zck (zcr h m g) page 2) (by rw[e1];exact hg) (.inr rfl) (by rw[e1];exact W) io (b:=b) (fun e he=>by
   obtain ⟨a1,a2,a3⟩:=ze5.1 (hb e he);rw[ze5];have hi:hasB (zc6 e.Tag) (ln (zb2 h m (zck (zcr h m g) page 2)).Mons)=true:=by rw[k1.like.has];exact a1
   refine ⟨hi,by rw[k1.like.g _ a1];exact a2,?_⟩
   rw[k1.like.g _ a1];have:(ix (zb2 h m (zck (zcr h m g) page 2)).Mons (zc6 e.Tag) mZ).Outer=(ix h.Mons (zc6 e.Tag) mZ).Outer:=by
    show (ix (up h.Mons m _) _ mZ).Outer=_
    by_cases hc:m=zc6 e.Tag
    .rw [<- hc,zY hm]
    .rw [zbk (zu.1 hm).1 (zu.1 a1).1 hc]
   rw[this];exact a3) (fun _=>by rw[e1];exact zY hD _ _)
  refine ⟨⟨k1.trans L.op,L.inn,L.ne,?_,?_,fun k hk hc=>?_,L.dq,fun e=>absurd e (by decide),fun i hi hc=>?_⟩,hL⟩
  .have:=L.en;rw[e1] at this;exact this
  .have:=L.cp;rw[e1] at this;exact this
  .rw [L.dk k hk hc,e1];exact zbk (zu.1 W.q8).1 (zu.1 hk).1 (Ne.symm hc) _ _
  .rw [L.dm i (by rw[k1.like.has];exact hi) hc]
   show (ix (up h.Mons m _) i mZ).Dirty=_
   rw[zbk (zu.1 hm).1 (zu.1 hi).1 (Ne.symm hc)]
theorem zM2 {x y:Int}(h1 : -9223372036854775808<=x+y)(h2:x+y<=9223372036854775807):zG .i64 x y=x+y:=by
 unfold zG;simp only[IntKind.wrap,IntKind.signed,IntKind.bits];simp;omega
theorem zH0 {n:Nat}{P:Int->Prop}(h:∀i:Fin n,P ((i.val:Nat):Int)){x:Int}(h0:0<=x)(h1:x<n):P x:=by
 have:=h ⟨x.toNat,by omega⟩
 simpa [show ((x.toNat:Nat):Int)=x by omega] using this
theorem zSX {p:Int}:zcK p=true↔0<=p/\p<=255:=by unfold zcK;exact zcm
theorem zOe {p:Int}(h:zcK p=true):zcK (zi6 p)=true:=by
 have h':=zSX.1 h;exact zH0 (n:=256) (P:=fun x=>zcK (zi6 x)=true) (by decide +kernel) h'.1 (by omega)
theorem zOd {p:Int}(h:zcK p=true)(n:Int):zcK (zri p n)=true:=by
 unfold zri zfA;rw[h,cond_true];cases hn:win n 0 7 with
 | false=>exact h
 | true =>
  rw[cond_true];have h':=zSX.1 h;have hn':=zcm.1 hn;exact zH0 (n:=256) (P:=fun x=>∀k,0<=k->k<(8:Int)->zcK (wor .i64 x (zn2 .i64 1 k))=true) (fun i k h0 h1=>zH0 (n:=8) (P:=fun k=>zcK (wor .i64 ((i.val:Nat):Int) (zn2 .i64 1 k))=true) (by revert i;decide +kernel) h0 h1) h'.1 (by omega) n hn'.1 (by omega)
structure GKeep (x y:Guest):Prop where
 ok:GOk y
 live:y.Live=x.Live
theorem zW8 {x:Guest}(X:GOk x){c:Int}(hc:win c 0 12=true):GOk { x with Pc:=c }:=⟨X.prog,X.a,hc,X.w,X.l,X.ctl,X.pend,X.ex,X.seen⟩
theorem zW7 {x:Guest}(X:GOk x){c:Int}(hc:win c 0 99=true):GOk { x with A:=c }:=⟨X.prog,hc,X.pc,X.w,X.l,X.ctl,X.pend,X.ex,X.seen⟩
theorem zin {x:Guest}(X:GOk x):GKeep x (zbW x):=by
 unfold zbW;have hp:=zcm.1 X.pc;cases h:ige x.Pc 12 with
 | true=>exact ⟨zW8 X (by decide),rfl⟩
 | false =>
  have:¬ x.Pc≥12:=jV h;refine ⟨zW8 X ?_,rfl⟩;rw[zM2 (by omega) (by omega)]
  exact zcm.2 (by omega)
theorem zRe {x:Guest}(X:GOk x)(n:Int):GKeep x (saw x n):=by
 unfold saw;cases h:ilt (ln x.Seen) 40 with
 | false=>exact ⟨X,rfl⟩
 | true =>
  have:ln x.Seen<40:=qE h;refine ⟨⟨X.prog,X.a,X.pc,X.w,X.l,X.ctl,X.pend,X.ex,qI ?_⟩,rfl⟩;unfold ln ap at *;simp;omega
theorem zio {x:Guest}(X:GOk x){e:GExit}(he:zgz e=true):GKeep x (stopped x e):=⟨⟨X.prog,X.a,X.pc,X.w,X.l,X.ctl,X.pend,he,X.seen⟩,rfl⟩
theorem zVK {x:Guest}(X:GOk x){p:Int}(hp:zcK p=true):GKeep x { x with Pending:=p }:=⟨⟨X.prog,X.a,X.pc,X.w,X.l,X.ctl,hp,X.ex,X.seen⟩,rfl⟩
theorem zVH {x:Guest}(X:GOk x)(b:Bool):GKeep x { x with Halted:=b }:=⟨⟨X.prog,X.a,X.pc,X.w,X.l,X.ctl,X.pend,X.ex,X.seen⟩,rfl⟩
theorem zVI {x:Guest}(X:GOk x):GKeep x (held x):=⟨(zin (zVH X true).ok).ok,(zin (zVH X true).ok).live⟩
theorem zZg {x:Guest}(X:GOk x){v:Int}(hv:win v 0 99=true):GKeep x (loaded x v):=by
 have h1:=zRe (zW7 X hv) v;have h2:=zin h1.ok;exact ⟨h2.ok,h2.live.trans h1.live⟩
theorem zKE {x:Guest}(X:GOk x):GKeep x (interrupted x):=by
 unfold interrupted;cases zhD x with
 | false=>exact ⟨X,rfl⟩
 | true =>
  have h1:=zVK X (zOe X.pend);rw[cond_true];exact ⟨(zRe h1.ok _).ok,(zRe h1.ok _).live⟩
theorem zGC {p:List Ins}(h:zcR p=true)(i:Int):zdr (zb9 p i)=true:=by
 unfold zb9;cases hi:hasB i (ln p) with
 | false=>rfl
 | true =>
  unfold zcR at h;rw[zbU,qO]at h;exact h.1 _ (zkv hi _)
theorem z6v {i:Ins}(h:zdr i=true)(h3:i.Op=3\/i.Op=4):0<=i.X/\i.X<=15:=by
 unfold zdr at h;rcases h3 with e|e<;>rw [e]at h<;>exact zcm.1 h
theorem zZo {i:Ins}(h:zdr i=true)(h3:i.Op=5\/i.Op=6):0<=i.X/\i.X<=99:=by
 unfold zdr at h;rcases h3 with e|e<;>rw [e]at h<;>exact zcm.1 h
theorem z7a {i:Ins}(h:zdr i=true)(h3:i.Op=8):0<=i.X/\i.X<=11:=by
 unfold zdr at h;rw[h3]at h;exact zcm.1 h
theorem z6Z {i:Ins}(h:zdr i=true)(h3:i.Op=1):0<=i.X/\i.X<=99:=by
 unfold zdr at h;rw[h3]at h;exact zcm.1 h
theorem zW9 {x:Guest}(X:GOk x):GKeep x (plainly x):=by
 have M:=zin X;have hi:=zGC X.prog x.Pc;unfold plainly;cases ine (zS x) 2 with
 | true=>exact ⟨X,rfl⟩
 | false =>
  rw[cond_false];cases win x.A 0 99 with
  | false=>exact M
  | true =>
   rw[cond_true];cases win (zb9 x.Prog x.Pc).X 0 99 with
   | false=>exact M
   | true =>
    rw[cond_true]
    by_cases e1:(zb9 x.Prog x.Pc).Op=1
    .rw [zbg.2 e1,cond_true];exact ⟨zW7 M.ok (zcm.2 (z6Z hi e1)),M.live⟩
    .rw [zbF.2 e1,cond_false]
     by_cases e2:(zb9 x.Prog x.Pc).Op=2
     .rw [zbg.2 e2,cond_true];refine ⟨zW7 M.ok ?_,M.live⟩;have h1:=zcm.1 X.a;have hx:0<=(zb9 x.Prog x.Pc).X/\(zb9 x.Prog x.Pc).X<=99:=by
       unfold zdr at hi;rw[e2]at hi;exact zcm.1 hi
      rw[zcm];unfold zkd;rw[zM2 (by omega) (by omega)]
      have h5:=Int.tmod_nonneg (a:=x.A+(zb9 x.Prog x.Pc).X) 100 (by omega)
      have h6:=Int.tmod_lt_of_pos (x.A+(zb9 x.Prog x.Pc).X) (show (0:Int)<100 by omega)
      omega
     .rw [zbF.2 e2,cond_false]
      by_cases e8:(zb9 x.Prog x.Pc).Op=8
      .rw [zbg.2 e8,cond_true];cases ieq x.A 0 with
       | true =>
        have:=z7a hi e8;exact ⟨zW8 M.ok (zcm.2 (by omega)),M.live⟩
       | false=>exact M
      .rw [zbF.2 e8];exact M
theorem zrh {c:List Int}:zb6 c=true↔(∀x∈c,win x 0 99=true)/\ln c=4:=by
 unfold zb6;rw[zbU,qO,zbg]
theorem zlq (h:Host)(m:Int):∀(n i:Nat),(zca h m n i).length=n
 | 0,_=>rfl
 | n+1,i=>by rw[zca,qU,zlq h m n]
theorem zJE (h:Host)(m:Int):∀(n i k:Nat) (hk:k<(zca h m n i).length),(zca h m n i)[k]=zbY h m ((i+k:Nat):Int)
 | 0,i,k,hk=>by simp[zca]at hk
 | n+1,i,k,hk=>by
  cases k with
  | zero=>rfl
  | succ k =>
   have:=zJE h m n (i+1) k (by simpa [zca] using hk)
   simp only[zca,List.getElem_cons_succ];rw[this]
   congr 1
   omega
theorem zov {h:Host}{m q:Int}(hq:hasB q 8=true)(d:List Int):ix (zca h m 8 0) q d=zbY h m q:=by
 have hq':=zu.1 hq;have hk:q.toNat<(zca h m 8 0).length:=by rw[zlq];omega
 have:=zli hk d;rw[show ((q.toNat:Nat):Int)=q by omega] at this
 rw[this,zJE]
 congr 1
 omega
theorem zsm (h:Host)(m:Int):ln (zca h m 8 0)=8:=by unfold ln;rw[zlq];rfl
theorem zxF {h:Host}(H:HOk h){m p:Int}(hm:hasB m (ln h.Mons)=true)(hp:hasB p 8=true):zb6 (zbY h m p)=true:=by
 have X:=H.mon hm;rw[<- zjU H hm hp]
 by_cases e:(ix (ix h.Mons m mZ).Outer p sZ).Page = -1
 .rw [zbg.2 e];exact ((zol (X.slot hp)).1 (X.fit p hp)).1 e
 .rw [zbF.2 e];exact zOb H.pgs _
theorem zwI {h:Host}(H:HOk h){m:Int}(hm:hasB m (ln h.Mons)=true):zbV (zA h m)=true:=by
 have X:=H.mon hm;unfold zA;rw[hm,cond_true];unfold zbV zgN;rw[zbU,qO];refine ⟨X.gs,?_⟩;simp only[qD,zbU,qO,zbg,zcm];refine ⟨⟨fun c hc=>?_,zsm h m⟩,⟨?_,?_⟩,?_,X.pend⟩
 .obtain ⟨i,hi,rfl⟩:=zSz hc [];rw[zsm]at hi;rw[zov hi];exact zxF H hm hi
 .unfold ln;have:=X.g1;omega
 .unfold ln;have:=X.g2;omega
 .unfold ile ln;have:=X.outs;exact qI (by omega)
structure SimT (h r:Host) (m:Int) (f:Bare->Bare):Prop where
 safe:Safe r
 seen:∀i,zA r i=bif ieq i m then f (zA h i) else zA h i
 len:r.Mons.length=h.Mons.length
theorem SimT.trans {a b c:Host}{m:Int}{f g:Bare->Bare}(x:SimT a b m f)(y:SimT b c m g):SimT a c m (fun t=>g (f t)):=by
 refine ⟨y.safe,fun i=>?_,y.len.trans x.len⟩;rw[y.seen i,x.seen i];cases ieq i m<;>rfl
theorem Op.sim {h r:Host}(k:Op h r)(S:Safe h)(m:Int):SimT h r m id:=⟨k.safe S,fun i=>by rw[k.like.seen i];cases ieq i m<;>rfl,k.like.len⟩
theorem SimT.congr {h r:Host}{m:Int}{f g:Bare->Bare}(x:SimT h r m f)(e:f (zA h m)=g (zA h m)):SimT h r m g:=by
 refine ⟨x.safe,fun i=>?_,x.len⟩;rw[x.seen i]
 by_cases hi:i=m
 .subst hi;rw[zbg.2 rfl,cond_true,cond_true,e]
 .rw [zbF.2 hi];rfl
theorem SimT.has {h r:Host}{m:Int}{f:Bare->Bare}(x:SimT h r m f)(i:Int):hasB i (ln r.Mons)=hasB i (ln h.Mons):=by unfold ln;rw[x.len]
theorem SimT.refl {h:Host}(S:Safe h)(m:Int):SimT h h m id:=⟨S,fun i=>by cases ieq i m<;>rfl,rfl⟩
theorem zuC {h:Host}(S:Safe h){m q host:Int}(hm:hasB m (ln h.Mons)=true)(hq:hasB q 8=true)(hs:(ix (ix h.Mons m mZ).Outer q sZ).Page=host)(hne:host≠-1)(c v:Int) :
 SimT h { h with Memory:=zbx h.Memory host c v } m (fun b=>{ b with Memory:=zbx b.Memory q c v })/\cellAt h.Memory host c=cellAt (zA h m).Memory q c:=by
 have H:=S.ok;have X:=H.mon hm;have hsl:=X.slot hq;have hM:=z7z H hsl (by rw[hs];exact hne)
 rw[hs]at hM;have hpg:ix h.Memory host []=zbY h m q:=by
  have:=zjU H hm hq;rw[hs,zbF.2 hne,cond_false,zjT hM] at this;exact this
 have hlen:ln (zbY h m q)=4:=(zrh.1 (zxF H hm hq)).2;have hmem:(zA h m).Memory=zca h m 8 0:=by unfold zA;rw[hm];rfl
 have h1:zha h.Memory host c=hasB c 4:=by unfold zha;rw[hM,cond_true,hpg,hlen]
 have h2:zha (zca h m 8 0) q c=hasB c 4:=by unfold zha;rw[zsm,hq,cond_true,zov hq,hlen]
 have hcell:cellAt h.Memory host c=cellAt (zA h m).Memory q c:=by
  rw[hmem];unfold cellAt;rw[h1,h2,hpg,zov hq]
 refine ⟨?_,hcell⟩;cases hc:hasB c 4 with
 | false =>
  have e1:zbx h.Memory host c v=h.Memory:=by unfold zbx;rw[h1,hc];rfl
  rw[e1];refine (SimT.refl S m).congr ?_
  show zA h m={ zA h m with Memory:=zbx (zA h m).Memory q c v }
  rw[hmem];have e2:zbx (zca h m 8 0) q c v=zca h m 8 0:=by unfold zbx;rw[h2,hc];rfl
  rw[e2,<- hmem]
 | true =>
  cases hv:win v 0 99 with
  | false =>
   have e1:zbx h.Memory host c v=h.Memory:=by unfold zbx;rw[h1,hc,hv];rfl
   rw[e1];refine (SimT.refl S m).congr ?_
   show zA h m={ zA h m with Memory:=zbx (zA h m).Memory q c v }
   rw[hmem];have e2:zbx (zca h m 8 0) q c v=zca h m 8 0:=by unfold zbx;rw[h2,hc,hv];rfl
   rw[e2,<- hmem]
  | true =>
   have e1:zbx h.Memory host c v=up h.Memory host (up (zbY h m q) c v):=by unfold zbx;rw[h1,hc,hv,hpg];rfl
   have e2:zbx (zca h m 8 0) q c v=up (zca h m 8 0) q (up (zbY h m q) c v):=by unfold zbx;rw[h2,hc,hv,zov hq];rfl
   have hnew:zb6 (up (zbY h m q) c v)=true:=by
    have:=zrh.1 (zxF H hm hq);rw[zrh,zdg];refine ⟨fun x hx=>?_,this.2⟩;rcases qZ hx with h|h
    .exact this.1 x h
    .rw [h];exact hv
   have h0:=(zu.1 hM).1;have hH:HOk { h with Memory:=zbx h.Memory host c v }:=by
    rw[e1];refine ⟨by show (up _ _ _).length=12;rw[zbB];exact H.m12,fun x hx=>?_,H.n1,H.n3,H.b1,H.b2,H.mons,H.uq⟩
    rcases qZ hx with h|h
    .exact H.pgs x h
    .rw [h];exact hnew
   refine ⟨⟨hH,⟨S.rt.t,S.rt.e1,S.rt.e2⟩⟩,fun i=>?_,rfl⟩;have hne':∀i k,hasB i (ln h.Mons)=true->hasB k 8=true->¬ (i=m/\k=q)->zbY { h with Memory:=zbx h.Memory host c v } i k=zbY h i k:=by
    intro i k hi hk hnot;rw[<- zjU hH (m:=i) (p:=k) hi hk,<- zjU H hi hk]
    show (cond (ieq (ix (ix h.Mons i mZ).Outer k sZ).Page (-1)) _ (zb5 (zbx h.Memory host c v) _))=_
    by_cases e:(ix (ix h.Mons i mZ).Outer k sZ).Page = -1
    .rw [zbg.2 e];rfl
    .rw [zbF.2 e,cond_false,cond_false,e1];exact zA4 h0 (fun e=>hnot (H.uniq hi hk hm hq e hs h0))
   have heq':zbY { h with Memory:=zbx h.Memory host c v } m q=up (zbY h m q) c v:=by
    rw[<- zjU hH (m:=m) (p:=q) hm hq]
    show (cond (ieq (ix (ix h.Mons m mZ).Outer q sZ).Page (-1)) _ (zb5 (zbx h.Memory host c v) (ix (ix h.Mons m mZ).Outer q sZ).Page))=_
    rw[hs,zbF.2 hne,cond_false,e1];exact zA3 hM
   by_cases hi:i=m
   .subst hi;rw[zbg.2 rfl,cond_true];unfold zA
    show (cond (hasB i (ln h.Mons)) _ _)=_
    rw[hm,cond_true,cond_true]
    show Bare.mk (zca { h with Memory:=zbx h.Memory host c v } i 8 0) _ _ _=Bare.mk (zbx (zca h i 8 0) q c v) _ _ _
    congr 1
    rw[e2];refine zMg [] (by rw[zbB,zlq,zlq]) fun k hk=>?_
    rw[zsm]at hk;rw[zov hk]
    by_cases e:q=k
    .subst e;rw[zY (by rw[zsm];exact hq),heq']
    .rw [zbk (zu.1 hq).1 (zu.1 hk).1 e,zov hk];exact hne' i k hm hk (fun h=>e h.2.symm)
   .rw [zbF.2 hi,cond_false];unfold zA
    show (cond (hasB i (ln h.Mons)) _ _)=_
    cases hi2:hasB i (ln h.Mons) with
    | false=>rfl
    | true =>
     rw[cond_true,cond_true]
     show Bare.mk (zca { h with Memory:=zbx h.Memory host c v } i 8 0) _ _ _=_
     rw[zpi 8 0 (fun j h1 h2=>hne' i (j:Int) hi2 (zu.2 (by omega)) (fun h=>hi h.1))]
theorem zoT {h:Host}(S:Safe h){m g:Int}(hm:hasB m (ln h.Mons)=true)(hg:hasB g (ln (ix h.Mons m mZ).Guests)=true){y:Guest}(k:GKeep (gOf h m g) y):SimT h (zjV h m g y) m (fun b=>zdW b g y):=by
 have X:=S.ok.mon hm;have kp:KeepP (ix h.Mons m mZ) { ix h.Mons m mZ with Guests:=up (ix h.Mons m mZ).Guests g y }:=⟨rfl,rfl⟩;refine ⟨zuB S hm kp (zjP X kp (zbB _ _ _) rfl rfl X.outs X.pend X.tr X.own fun z hz=>?_) (zbB _ _ _) (fun j hj=>?_) rfl,fun i=>?_,zbB _ _ _⟩
 .rcases qZ hz with h|h
  .exact X.gs z h
  .rw [h];exact zrG.2 k.ok
 .show (ix (up (ix h.Mons m mZ).Guests g y) j gZ).Live=_
  by_cases e:g=j
  .subst e;rw[zY hg];exact k.live
  .rw [zbk (zu.1 hg).1 (zu.1 hj).1 e]
 .refine (zsY (h:=h) (r:=zjV h m g y) hm rfl rfl kp i).trans ?_
  by_cases e:i=m
  .subst e;rw[zbg.2 rfl,cond_true,cond_true];unfold zdW zA;rw[hm];rfl
  .rw [zbF.2 e];rfl
theorem zTd {h:Host}(S:Safe h){m:Int}(hm:hasB m (ln h.Mons)=true){y:Mon}(kp:KeepP (ix h.Mons m mZ) y)(hy:MOk y)(hg:y.Guests=(ix h.Mons m mZ).Guests)(ht:y.Tables=(ix h.Mons m mZ).Tables) :
 SimT h { h with Mons:=up h.Mons m y } m (fun b=>{ b with Outs:=y.Outs,Pending:=y.Pending }):=by
 refine ⟨zuB S hm kp hy (by rw[hg]) (fun j _=>by rw[hg]) ht,fun i=>?_,zbB _ _ _⟩
 refine (zsY (h:=h) (r:={ h with Mons:=up h.Mons m y }) hm rfl rfl kp i).trans ?_
 by_cases e:i=m
 .subst e;rw[zbg.2 rfl,cond_true,cond_true];unfold zA;rw[hm,hg];rfl
 .rw [zbF.2 e];rfl
theorem zeE {h:Host}{m:Int}(hm:hasB m (ln h.Mons)=true):zA h m=⟨zca h m 8 0,(ix h.Mons m mZ).Guests,(ix h.Mons m mZ).Outs,(ix h.Mons m mZ).Pending⟩:=by
 unfold zA;rw[hm];rfl
theorem z0b {h:Host}(S:Safe h){m:Int}(hm:hasB m (ln h.Mons)=true):SimT h (owned h m) m id:=by
 unfold owned;cases hc:ilt (ix h.Mons m mZ).Own 1000000000 with
 | false=>exact SimT.refl S m
 | true =>
  rw[cond_true];have X:=S.ok.mon hm;have ho:=zcm.1 X.own;have hlt:(ix h.Mons m mZ).Own<1000000000:=qE hc;have kp:KeepP (ix h.Mons m mZ) { ix h.Mons m mZ with Own:=zG .i64 (ix h.Mons m mZ).Own 1 }:=⟨rfl,rfl⟩;refine (zTd S hm kp (zjP X kp rfl rfl rfl X.outs X.pend X.tr ?_ X.gs) rfl rfl).congr ?_
  .show win (zG .i64 (ix h.Mons m mZ).Own 1) 0 1000000000=true
   rw[zM2 (by omega) (by omega),zcm];omega
  .rw [zeE hm];rfl
theorem zX1 {h:Host}(S:Safe h){m:Int}(hm:hasB m (ln h.Mons)=true)(n:Int):SimT h (zng h m n) m (fun b=>znj b n):=by
 unfold zng;have X:=S.ok.mon hm;cases hc:ilt (ln (ix h.Mons m mZ).Outs) 40 with
 | false =>
  refine (SimT.refl S m).congr ?_;rw[zeE hm];unfold znj;rw[hc];rfl
 | true =>
  rw[cond_true];have hlt:ln (ix h.Mons m mZ).Outs<40:=qE hc;have kp:KeepP (ix h.Mons m mZ) { ix h.Mons m mZ with Outs:=ap (ix h.Mons m mZ).Outs [n] }:=⟨rfl,rfl⟩;refine (zTd S hm kp (zjP X kp rfl rfl rfl ?_ X.pend X.tr X.own X.gs) rfl rfl).congr ?_
  .show (ap (ix h.Mons m mZ).Outs [n]).length<=40
   unfold ln ap at *;simp;omega
  .rw [zeE hm];unfold znj;rw[hc];rfl
theorem zr4 {h:Host}{m g:Int}(hm:hasB m (ln h.Mons)=true)(hg:hasB g (ln (ix h.Mons m mZ).Guests)=true):gAt (zA h m) g=gOf h m g:=by
 rw[zeE hm];unfold gAt
 show (cond (hasB g (ln (ix h.Mons m mZ).Guests)) _ _)=_
 rw[hg];rfl
theorem zM3 {x:Guest}(h:zS x=3\/zS x=4\/zS x=5\/zS x=6):(zb9 x.Prog x.Pc).Op=zS x:=by
 unfold zS at h ⊢;cases hc:canRun x with
 | false=>simp[hc]at h
 | true =>
  simp only[hc,cond_true]at h ⊢;cases ht:zhD x with
  | true=>simp[ht]at h
  | false =>
   simp only[ht,cond_false]at h ⊢;unfold zvV at h ⊢
   by_cases e3:(zb9 x.Prog x.Pc).Op=3
   .rw [e3];rfl
   .rw [zbF.2 e3,cond_false]at h ⊢
    by_cases e4:(zb9 x.Prog x.Pc).Op=4
    .rw [e4];rfl
    .rw [zbF.2 e4,cond_false]at h ⊢
     by_cases e5:(zb9 x.Prog x.Pc).Op=5
     .rw [e5];rfl
     .rw [zbF.2 e5,cond_false]at h ⊢
      by_cases e6:(zb9 x.Prog x.Pc).Op=6
      .rw [e6];rfl
      .rw [zbF.2 e6,cond_false]at h ⊢;cases h7:ieq (zb9 x.Prog x.Pc).Op 7<;>simp [h7]at h
theorem z4d {x:Guest}(X:GOk x){w:Int}(hw:zS x=w)(h:w=3\/w=4):0<=address x/\address x<=15:=by
 have e:address x=(zb9 x.Prog x.Pc).X:=by
  unfold address;rcases h with e|e
  .rw [hw,e];rfl
  .rw [hw,e];rfl
 rw[e];exact z6v (zGC X.prog _) (by rw[zM3 (by omega),hw];exact h)
theorem z4e {a:Int}(h0:0<=a)(h1:a<=15):win (zbe a) 0 3=true/\hasB (zcU a) 4=true :=
 zH0 (n:=16) (P:=fun a=>win (zbe a) 0 3=true/\hasB (zcU a) 4=true) (by decide) h0 (by omega)
theorem zWY {p:Int}(h:win p 0 3=true)(w:Bool):zgz (zpU p w)=true:=by
 unfold zgz zpU;simp[ieq,h]
theorem zY6 {n:Int}(h:win n 0 99=true):zgz (zwU n)=true:=by
 unfold zgz zwU;simp[ieq,h]
theorem z1k {n:Int}(h:win n 0 99=true):zgz (zvW n)=true:=by
 unfold zgz zvW;simp[ieq,h]
theorem z1r {x:Guest}(X:GOk x)(t:Int){w:Int}(hw:zS x=w):GKeep x (ziM x t w):=by
 have hi:=zGC X.prog x.Pc;unfold ziM
 by_cases e6:w=6
 .rw [zbg.2 e6];exact zio X (zY6 (zcm.2 (zZo hi (by rw[zM3 (by omega),hw];omega))))
 .rw [zbF.2 e6,cond_false]
  by_cases e5:w=5
  .rw [zbg.2 e5];cases zgn t 1 with
   | true=>exact zio X (z1k (zcm.2 (zZo hi (by rw[zM3 (by omega),hw];omega))))
   | false=>rw[e5];exact zin X
  .rw [zbF.2 e5];rw[Bool.false_and,cond_false];cases hc:(ieq w 7&&zgn t 2) with
   | true=>exact zio X rfl
   | false =>
    rw[cond_false];cases ieq w 7
    .exact zin X
    .exact zVI X
theorem zVS {α:Type}(g:Int):hasB g (ln ([]:List α))=false:=by
 cases h:hasB g (ln ([]:List α)) with
 | false=>rfl
 | true=>have:=zu.1 h;simp[ln] at this;omega
theorem z0I {m:List (List Int)}(h:∀c∈m,zb6 c=true)(p c:Int):win (cellAt m p c) 0 99=true:=by
 unfold cellAt zha;cases hp:hasB p (ln m) with
 | false=>rfl
 | true =>
  rw[cond_true];cases hc:hasB c (ln (ix m p [])) with
  | false=>rfl
  | true =>
   rw[cond_true];exact (zrh.1 (h _ (zkv hp []))).1 _ (zkv hc 0)
theorem HOk.seenG {h:Host}(H:HOk h){m g:Int}(hm:hasB m (ln h.Mons)=true)(hg:hasB g (ln (ix h.Mons m mZ).Guests)=true):GOk (gOf h m g):=H.guest hm hg
theorem zTo {h:Host}(S:Safe h){m g:Int}(hm:hasB m (ln h.Mons)=true)(hg:hasB g (ln (ix h.Mons m mZ).Guests)=true)(w:Bool)(hw:zS (gOf h m g)=bif w then 4 else 3) :
 SimT h (ziL (zlK h m g (gOf h m g) w) m g (gOf h m g) w) m (fun b=>zmG b g (gOf h m g) w):=by
 have X:=S.ok.seenG hm hg;have ha:=z4d X hw (by cases w<;>simp)
 have hap:=z4e ha.1 ha.2;have hn:zbX w=1\/zbX w=2:=by cases w<;>simp [zbX]
 unfold ziL zlK;cases hl:zbS h m g (zbe (address (gOf h m g))) (zbX w) with
 | false =>
  have e:lookOf h h.Buffer m g (zbe (address (gOf h m g))) (zbX w) false=(h,-1,false):=by unfold lookOf;rw[hl];rfl
  have hw2:ze0 (gOf h m g).Live (zbe (address (gOf h m g))) (zbX w)=false:=by
   cases hc:ze0 (gOf h m g).Live (zbe (address (gOf h m g))) (zbX w) with
   | false=>rfl
   | true=>exact Bool.noConfusion (hl.symm.trans (zpc.2 ⟨ziN.2 ⟨S.ok,hm,hg⟩,hn,hc⟩))
  rw[e];refine (zoT S hm hg (zio X (zWY hap.1 w))).congr ?_;unfold zmG;rw[hw2];rfl
 | true =>
  obtain ⟨L,hL⟩:=zN0 S false hl S.rt.e1;obtain ⟨_,_,hwk⟩:=zpc.1 hl;have hwk':ze0 (gOf h m g).Live (zbe (address (gOf h m g))) (zbX w)=true:=hwk;have W:=walked X hwk;rw[hL,cond_true];have S1:=L.op.safe S;have hm1:hasB m (ln (lookOf h h.Buffer m g (zbe (address (gOf h m g))) (zbX w) false).1.Mons)=true:=by rw[L.op.like.has];exact hm
  have hgs:=L.op.like.g m hm;have q8:hasB (zck (zcr h m g) (zbe (address (gOf h m g))) (zbX w)) 8=true:=W.q8;obtain ⟨k1,k2⟩:=zuC S1 hm1 q8 L.inn L.ne (zcU (address (gOf h m g))) (gOf h m g).A;rw[L.op.like.seen m] at k2;cases w with
  | true =>
   rw[cond_true];have k0:=L.op.sim S m;have hmm:hasB m (ln ({ (lookOf h h.Buffer m g (zbe (address (gOf h m g))) (zbX true) false).1 with Memory:=zbx (lookOf h h.Buffer m g (zbe (address (gOf h m g))) (zbX true) false).1.Memory (lookOf h h.Buffer m g (zbe (address (gOf h m g))) (zbX true) false).2.1 (zcU (address (gOf h m g))) (gOf h m g).A }:Host).Mons)=true:=hm1;have hgg:hasB g (ln (ix ({ (lookOf h h.Buffer m g (zbe (address (gOf h m g))) (zbX true) false).1 with Memory:=zbx (lookOf h h.Buffer m g (zbe (address (gOf h m g))) (zbX true) false).1.Memory (lookOf h h.Buffer m g (zbe (address (gOf h m g))) (zbX true) false).2.1 (zcU (address (gOf h m g))) (gOf h m g).A }:Host).Mons m mZ).Guests)=true:=by
    show hasB g (ln (ix (lookOf h h.Buffer m g (zbe (address (gOf h m g))) (zbX true) false).1.Mons m mZ).Guests)=true
    rw[hgs];exact hg
   have kk:GKeep (gOf { (lookOf h h.Buffer m g (zbe (address (gOf h m g))) (zbX true) false).1 with Memory:=zbx (lookOf h h.Buffer m g (zbe (address (gOf h m g))) (zbX true) false).1.Memory (lookOf h h.Buffer m g (zbe (address (gOf h m g))) (zbX true) false).2.1 (zcU (address (gOf h m g))) (gOf h m g).A } m g) (zbW (gOf h m g)):=by
    have:gOf { (lookOf h h.Buffer m g (zbe (address (gOf h m g))) (zbX true) false).1 with Memory:=zbx (lookOf h h.Buffer m g (zbe (address (gOf h m g))) (zbX true) false).1.Memory (lookOf h h.Buffer m g (zbe (address (gOf h m g))) (zbX true) false).2.1 (zcU (address (gOf h m g))) (gOf h m g).A } m g=gOf h m g:=by
     show ix (ix (lookOf h h.Buffer m g (zbe (address (gOf h m g))) (zbX true) false).1.Mons m mZ).Guests g gZ=_
     rw[hgs];rfl
    rw[this];exact zin X
   refine ((k0.trans k1).trans (zoT k1.safe hmm hgg kk)).congr ?_;unfold zmG;rw[hwk'];rfl
  | false =>
   rw[cond_false];have k0:=L.op.sim S m;have hgg:hasB g (ln (ix (lookOf h h.Buffer m g (zbe (address (gOf h m g))) (zbX false) false).1.Mons m mZ).Guests)=true:=by rw[hgs];exact hg
   have kk:GKeep (gOf (lookOf h h.Buffer m g (zbe (address (gOf h m g))) (zbX false) false).1 m g) (loaded (gOf h m g) (cellAt (lookOf h h.Buffer m g (zbe (address (gOf h m g))) (zbX false) false).1.Memory (lookOf h h.Buffer m g (zbe (address (gOf h m g))) (zbX false) false).2.1 (zcU (address (gOf h m g))))):=by
    have:gOf (lookOf h h.Buffer m g (zbe (address (gOf h m g))) (zbX false) false).1 m g=gOf h m g:=by
     show ix (ix (lookOf h h.Buffer m g (zbe (address (gOf h m g))) (zbX false) false).1.Mons m mZ).Guests g gZ=_
     rw[hgs];rfl
    rw[this];exact zZg X (z0I S1.ok.pgs _ _)
   refine (k0.trans (zoT S1 hm1 hgg kk)).congr ?_;unfold zmG;rw[hwk',k2];rfl
theorem z1q {h r:Host}{m g:Int}(e:(ix r.Mons m mZ).Guests=(ix h.Mons m mZ).Guests):gOf r m g=gOf h m g:=by unfold gOf;rw[e]
theorem z5s (h:Host)(m:Int)(hm:hasB m (ln h.Mons)=true):(ix (owned h m).Mons m mZ).Guests=(ix h.Mons m mZ).Guests:=by
 unfold owned;cases ilt (ix h.Mons m mZ).Own 1000000000 with
 | false=>rfl
 | true=>show (ix (up h.Mons m _) m mZ).Guests=_;rw[zY hm]
theorem z1I (h:Host)(m n:Int)(hm:hasB m (ln h.Mons)=true):(ix (zng h m n).Mons m mZ).Guests=(ix h.Mons m mZ).Guests:=by
 unfold zng;cases ilt (ln (ix h.Mons m mZ).Outs) 40 with
 | false=>rfl
 | true=>show (ix (up h.Mons m _) m mZ).Guests=_;rw[zY hm]
theorem z0d {h:Host}(S:Safe h){m:Int}(hm:hasB m (ln h.Mons)=true)(x:Guest)(w:Int):SimT h (zfK h m x w) m id/\(ix (zfK h m x w).Mons m mZ).Guests=(ix h.Mons m mZ).Guests:=by
 unfold zfK;cases (cond (ine w 6) (ieq (zxD (ix h.Mons m mZ).Traps x.Ctl.Traps (zwM w)) 2) false) with
 | false=>exact ⟨SimT.refl S m,rfl⟩
 | true=>exact ⟨z0b S hm,z5s h m hm⟩
theorem z0c {h:Host}(S:Safe h){m:Int}(hm:hasB m (ln h.Mons)=true)(x:Guest)(w:Int):SimT h (zfJ h m x w) m (fun b=>bif (cond (zjt x.Ctl.Traps w) (ieq w 5) false) then znj b (zb9 x.Prog x.Pc).X else b)/\(ix (zfJ h m x w).Mons m mZ).Guests=(ix h.Mons m mZ).Guests:=by
 unfold zfJ;cases (cond (zjt x.Ctl.Traps w) (ieq w 5) false) with
 | false=>exact ⟨SimT.refl S m,rfl⟩
 | true=>exact ⟨zX1 S hm _,z1I h m _ hm⟩
theorem zB4 {h:Host}(S:Safe h){m g:Int}(hm:hasB m (ln h.Mons)=true)(hg:hasB g (ln (ix h.Mons m mZ).Guests)=true){w:Int}(hw:zS (gOf h m g)=w) :
 SimT h (zuF h m g (gOf h m g) w) m (fun b=>zCJ b g (gOf h m g) w):=by
 have X:=S.ok.seenG hm hg;obtain ⟨k0,e0⟩:=z0d S hm (gOf h m g) w;have hm0:hasB m (ln (zfK h m (gOf h m g) w).Mons)=true:=by rw[k0.has];exact hm
 obtain ⟨k1,e1⟩:=z0c k0.safe hm0 (gOf h m g) w;have hm1:hasB m (ln (zfJ (zfK h m (gOf h m g) w) m (gOf h m g) w).Mons)=true:=by rw[k1.has];exact hm0
 have hg1:hasB g (ln (ix (zfJ (zfK h m (gOf h m g) w) m (gOf h m g) w).Mons m mZ).Guests)=true:=by rw[e1,e0];exact hg
 have kk:GKeep (gOf (zfJ (zfK h m (gOf h m g) w) m (gOf h m g) w) m g) (ziM (gOf h m g) (gOf h m g).Ctl.Traps w):=by
  rw[z1q (e1.trans e0)];exact z1r X _ hw
 exact ((k0.trans k1).trans (zoT k1.safe hm1 hg1 kk)).congr rfl
theorem zYf (x:Guest):zS x=0\/zS x=1\/zS x=2\/zS x=3\/zS x=4\/zS x=5\/zS x=6\/zS x=7:=by
 unfold zS zvV;cases canRun x<;>cases zhD x<;>cases ieq (zb9 x.Prog x.Pc).Op 3<;>cases ieq (zb9 x.Prog x.Pc).Op 4<;>cases ieq (zb9 x.Prog x.Pc).Op 5<;>cases ieq (zb9 x.Prog x.Pc).Op 6<;>cases ieq (zb9 x.Prog x.Pc).Op 7<;>simp
theorem zQH {h:Host}(H:HOk h)(m g:Int):zki (zA h m) g=bif zbJ h m g then !ieq (zS (gOf h m g)) 0 else false:=by
 unfold zki zbJ;rw[zi4.2 H,cond_true];cases hm:hasB m (ln h.Mons) with
 | false =>
  have:(zA h m).Guests=[]:=by unfold zA;rw[hm];rfl
  rw[this,zVS];rfl
 | true =>
  rw[cond_true,zwI H hm,cond_true];have:(zA h m).Guests=(ix h.Mons m mZ).Guests:=by rw[zeE hm]
  rw[this];cases hg:hasB g (ln (ix h.Mons m mZ).Guests) with
  | false=>rfl
  | true=>rw[cond_true,cond_true,zr4 hm hg]
theorem step_ok {h:Host}(S:Safe h)(m g:Int):SimT h (zbu h m g).1 m (fun b=>zhq b g)/\(zbu h m g).2=zki (zA h m) g:=by
 have hc:=zQH S.ok m g;unfold zbu;cases hh:zbJ h m g with
 | false =>
  rw[hh,cond_false]at hc;refine ⟨(SimT.refl S m).congr ?_,hc.symm⟩;unfold zhq;rw[hc];rfl
 | true =>
  rw[hh,cond_true]at hc;rw[cond_true];obtain ⟨_,hm,hg⟩:=ziN.1 hh;have X:=S.ok.seenG hm hg;have hgs:=zr4 hm hg;have hf:∀w,zS (gOf h m g)=w->w≠0->zhq (zA h m) g=stepped (zA h m) g (gOf h m g) w:=by
   intro w hw h0;unfold zhq;rw[hc,hw,zbF.2 h0,hgs,hw];rfl
  rcases zYf (gOf h m g) with e|e|e|e|e|e|e|e
  .rw [e];rw[e]at hc;refine ⟨(SimT.refl S m).congr ?_,hc.symm⟩;unfold zhq;rw[hc];rfl
  .rw [e]at hc ⊢;exact ⟨(zoT S hm hg (zKE X)).congr (hf 1 e (by decide)).symm,hc.symm⟩
  .rw [e]at hc ⊢;exact ⟨(zoT S hm hg (zW9 X)).congr (hf 2 e (by decide)).symm,hc.symm⟩
  .rw [e]at hc ⊢;exact ⟨(zTo S hm hg false e).congr (hf 3 e (by decide)).symm,hc.symm⟩
  .rw [e]at hc ⊢;exact ⟨(zTo S hm hg true e).congr (hf 4 e (by decide)).symm,hc.symm⟩
  .rw [e]at hc ⊢;exact ⟨(zB4 S hm hg e).congr (hf 5 e (by decide)).symm,hc.symm⟩
  .rw [e]at hc ⊢;exact ⟨(zB4 S hm hg e).congr (hf 6 e (by decide)).symm,hc.symm⟩
  .rw [e]at hc ⊢;exact ⟨(zB4 S hm hg e).congr (hf 7 e (by decide)).symm,hc.symm⟩
structure BackOk (b c:Bare):Prop where
 m:c.Memory=b.Memory
 o:c.Outs=b.Outs
 n:c.Guests.length=b.Guests.length
 g:∀j,hasB j (ln b.Guests)=true->GKeep (ix b.Guests j gZ) (ix c.Guests j gZ)
 p:zcK b.Pending=true->zcK c.Pending=true
theorem z15 {h:Host}(S:Safe h){m:Int}(hm:hasB m (ln h.Mons)=true){c:Bare}(k:BackOk (zA h m) c):SimT h (zcL h m c) m (fun _=>c):=by
 have X:=S.ok.mon hm;have hf:=zeE hm;have hG:(zA h m).Guests=(ix h.Mons m mZ).Guests:=by rw[hf]
 have hn:c.Guests.length=(ix h.Mons m mZ).Guests.length:=by rw[k.n,hG]
 have hg:∀j,hasB j (ln (ix h.Mons m mZ).Guests)=true->GKeep (ix (ix h.Mons m mZ).Guests j gZ) (ix c.Guests j gZ):=fun j hj=>by
  have:=k.g j (by rw[hG];exact hj)
  rwa [hG] at this
 have kp:KeepP (ix h.Mons m mZ) (ztl (ix h.Mons m mZ) c):=⟨rfl,rfl⟩;have hp:zcK c.Pending=true:=k.p (by rw[hf];exact X.pend)
 refine ⟨zuB S hm kp (zjP X kp hn rfl rfl X.outs hp X.tr X.own fun z hz=>?_) hn (fun j hj=>(hg j hj).live) rfl,fun i=>?_,zbB _ _ _⟩
 .obtain ⟨j,hj,rfl⟩:=zSz hz gZ;exact zrG.2 (hg j (by unfold ln at hj ⊢;rw[<- hn];exact hj)).ok
 .refine (zsY (h:=h) (r:=zcL h m c) hm rfl rfl kp i).trans ?_
  by_cases e:i=m
  .subst e;rw[zbg.2 rfl,cond_true,cond_true]
   show Bare.mk (zA h i).Memory c.Guests (ix h.Mons i mZ).Outs c.Pending=c
   have h1:=k.m;have h2:=k.o;rw[hf]at h2;cases c
   simp_all
  .rw [zbF.2 e];rfl
theorem seen_none {h:Host}{m:Int}(hm:hasB m (ln h.Mons)=false):zA h m=⟨[],[],[],0⟩:=by unfold zA;rw[hm];rfl
theorem zrK:zbV ⟨[],[],[],0⟩=false:=by decide
theorem zrR {b:Bare}(h:zbV b=false)(g:Int):zbZ b g=false:=by unfold zbZ;rw[h];rfl
theorem zg0 {b:Bare}(h:zbV b=true):BackOk b b:=⟨rfl,rfl,rfl,fun j hj=>⟨zrG.1 (by
 unfold zbV at h;rw[zbU,qO]at h;exact h.1 _ (zkv hj _)),rfl⟩,id⟩
theorem zYp {b:Bare}(h:zbV b=true){g:Int}(hg:hasB g (ln b.Guests)=true){y:Guest}(k:GKeep (gAt b g) y):BackOk b (zdW b g y):=by
 have e:gAt b g=ix b.Guests g gZ:=by unfold gAt;rw[hg];rfl
 refine ⟨rfl,rfl,zbB _ _ _,fun j hj=>?_,id⟩
 show GKeep _ (ix (up b.Guests g y) j gZ)
 by_cases hc:g=j
 .subst hc;rw[zY hg,<- e];exact k
 .rw [zbk (zu.1 hg).1 (zu.1 hj).1 hc];exact (zg0 h).g j hj
theorem zpQ {b:Bare}(h:zbV b=true){g:Int}{c:Bool}{y:Guest}(k:hasB g (ln b.Guests)=true->c=true->GOk (gAt b g)->GKeep (gAt b g) y):BackOk b (chg b g c y):=by
 unfold chg zbZ;rw[h,cond_true];cases hg:hasB g (ln b.Guests) with
 | false=>exact zg0 h
 | true =>
  rw[cond_true];cases c with
  | false=>exact zg0 h
  | true =>
   refine zYp h hg (k hg rfl ?_);have:=(zg0 h).g g hg;unfold gAt;rw[hg];exact this.ok
theorem zoC {h:Host}(S:Safe h)(m:Int){F:Bare->Bare}(hF:∀b,zbV b=true->BackOk b (F b))(h0:F ⟨[],[],[],0⟩=⟨[],[],[],0⟩):SimT h (zeh h m (F (zA h m))) m F:=by
 unfold zeh zcf;rw[zi4.2 S.ok,cond_true];cases hm:hasB m (ln h.Mons) with
 | false =>
  refine (SimT.refl S m).congr ?_;rw[seen_none hm];exact h0.symm
 | true=>exact (z15 S hm (hF _ (zwI S.ok hm))).congr rfl
theorem zjW {h:Host}(S:Safe h)(m:Int){t:Bare->Bool}(h0:t ⟨[],[],[],0⟩=false):zdF h m (t (zA h m))=t (zA h m):=by
 unfold zdF zcf;rw[zi4.2 S.ok,cond_true];cases hm:hasB m (ln h.Mons) with
 | false=>rw[cond_false,seen_none hm,h0]
 | true=>rfl
theorem zod (g:Int)(c:Bool)(y:Guest):chg ⟨[],[],[],0⟩ g c y=⟨[],[],[],0⟩:=by unfold chg;rw[zrR zrK];rfl
theorem zij (g:Int)(c:Bool):zbM ⟨[],[],[],0⟩ g c=false:=by unfold zbM;rw[zrR zrK];rfl
theorem zTs {t:List Slot}{n q:Int}(h:zcv t n q=true){p:Int}{s:Slot}(hs:zde s q=true):zcv (zdO t p s) n q=true:=by
 unfold zdO;cases hasB p (ln t) with
 | false=>exact h
 | true =>
  rw[cond_true];rw[zpN]at h ⊢;rw[zdg];refine ⟨fun x hx=>?_,h.2⟩;rcases qZ hx with h1|h1
  .exact h.1 x h1
  .rw [h1];exact hs
theorem z4U {x:Guest}(X:GOk x){p:Int}{s:Slot}(h:zqS p s=true):GKeep x (zx0 x p s):=by
 unfold zqS at h;rw[zbU]at h;exact ⟨⟨X.prog,X.a,X.pc,zTs X.w h.2,X.l,X.ctl,X.pend,X.ex,X.seen⟩,rfl⟩
theorem z4R {x:Guest}(X:GOk x){v:Int}(h:zqm x v=true):GKeep x (zuJ x v):=by
 unfold zqm at h;rw[zbU]at h;unfold zuJ;cases ieq x.Exit.Kind 2 with
 | true =>
  rw[cond_true];have h1:=zio (zW7 X h.1) (e:=zjR) rfl;have h2:=zin h1.ok;exact ⟨h2.ok,h2.live⟩
 | false =>
  rw[cond_false];have h1:=zio X (e:=zjR) rfl;have h2:=zin h1.ok;exact ⟨h2.ok,h2.live.trans h1.live⟩
theorem z4T {x:Guest}(X:GOk x):GKeep x (zuU x):=by
 unfold zuU;have h1:=zio X (e:=zjR) rfl;cases ieq x.Exit.Kind 1 with
 | true=>exact h1
 | false =>
  have h2:=zVI h1.ok;exact ⟨h2.ok,h2.live.trans h1.live⟩
theorem zVJ {x:Guest}(X:GOk x)(n:Int):GKeep x (zl2 x n):=zVK X (zOd X.pend n)
theorem z4S {x:Guest}(X:GOk x){c:Ctl}(h:zgL c=true):GKeep x (zFo x c):=⟨⟨X.prog,X.a,X.pc,X.w,X.l,h,X.pend,X.ex,X.seen⟩,rfl⟩
theorem zAc (n:Int):∀(ks:List Int) (b:Bare) (l:List Guest),(∀k∈ks,hasB k (ln b.Guests)=true)->BackOk b { b with Guests:=l }->BackOk b { b with Guests:=zkB n ks l }
 | [],b,l,_,h=>h
 | k :: ks,b,l,hk,h=>by
  show BackOk b { b with Guests:=zkB n ks (zCC n l k) }
  refine zAc n ks b _ (fun j hj=>hk j (qY _ hj)) ⟨h.m,h.o,by show (up l k _).length=_;rw[zbB];exact h.n,fun j hj=>?_,h.p⟩
  show GKeep _ (ix (up l k _) j gZ)
  have hl:l.length=b.Guests.length:=h.n;have hkl:hasB k (ln l)=true:=by unfold ln;rw[hl];exact hk k jP
  by_cases e:k=j
  .subst e;rw[zY hkl];have h1:=h.g k hj;have h2:=zVJ h1.ok n;exact ⟨h2.ok,h2.live.trans h1.live⟩
  .rw [zbk (zu.1 hkl).1 (zu.1 hj).1 e];exact h.g j hj
theorem zWz {b:Bare}(h:zbV b=true)(n:Int):BackOk b (ziz b n):=by
 unfold ziz zes zCD;rw[h,cond_true];cases hasB n 8 with
 | false=>exact zg0 h
 | true =>
  rw[cond_true];cases ieq (ln (zdK b.Guests n)) 0 with
  | true =>
   have:=zg0 h;exact ⟨rfl,rfl,rfl,this.g,fun hp=>zOd hp n⟩
  | false =>
   rw[cond_false];refine zAc n _ b b.Guests (fun k hk=>?_) (zg0 h);unfold zdK at hk;obtain ⟨j,hj,rfl,_⟩:=(zGg (d:=gZ)).1 hk;exact zu.2 ⟨by omega,by unfold ln;omega⟩
theorem zYo {b:Bare}(h:zbV b=true):BackOk b (zk0 b):=by
 unfold zk0;rw[h,cond_true];exact ⟨rfl,rfl,rfl,(zg0 h).g,fun hp=>zOe hp⟩
theorem z1Q {h:Host}(S:Safe h)(m p c v:Int):SimT h (zlY h m p c v) m (fun b=>zQf b p c v)/\zeJ h m p c v=zvX (zA h m) p c v:=by
 have e:zeJ h m p c v=zvX (zA h m) p c v:=by
  unfold zeJ zvX zbC z3R;rw[zi4.2 S.ok,cond_true];cases hm:hasB m (ln h.Mons) with
  | false=>rw[seen_none hm,zrK];rfl
  | true=>rw[zwI S.ok hm,cond_true];rfl
 refine ⟨?_,e⟩;unfold zlY;cases hc:zeJ h m p c v with
 | false =>
  refine (SimT.refl S m).congr ?_;unfold zQf;rw[<- e,hc];rfl
 | true =>
  rw[cond_true];have hc':=hc;unfold zeJ at hc';rw[zbU,zbU]at hc';obtain ⟨h1,_,_⟩:=hc';obtain ⟨_,hm,hp⟩:=zgF.1 h1;have M:=zN7 S.ok (m:=m) (p:=p) 2 hm hp;have k0:=M.op.sim S m;have hm1:hasB m (ln (mended h m p 2).Mons)=true:=by rw[k0.has];exact hm
  obtain ⟨k1,_⟩:=zuC k0.safe hm1 hp rfl M.inn c v;refine (k0.trans k1).congr ?_;unfold zQf;rw[<- e,hc];rfl
theorem zZC {h:Host}(S:Safe h)(m g page need:Int):zbS h m g page need=(cond (zbZ (zA h m) g) (cond (ziP need) (ze0 (gAt (zA h m) g).Live page need) false) false):=by
 have e:zbJ h m g=zbZ (zA h m) g:=by
  unfold zbJ zbZ;rw[zi4.2 S.ok,cond_true];cases hm:hasB m (ln h.Mons) with
  | false=>rw[seen_none hm,zrK,cond_false,cond_false]
  | true =>
   rw[cond_true,zwI S.ok hm,cond_true];have:(zA h m).Guests=(ix h.Mons m mZ).Guests:=by rw[zeE hm]
   rw[this]
 unfold zbS;rw[<- e];cases hg:zbJ h m g with
 | false=>rw[cond_false,cond_false]
 | true =>
  obtain ⟨_,hm,hg⟩:=ziN.1 hg;have:(gAt (zA h m) g).Live=zcr h m g:=by rw[zr4 hm hg];rfl
  rw[this]
theorem zFy {h:Host}(S:Safe h)(m g a n:Int)(hn:n=1\/n=2):zmX (zA h m) g a n=bif win a 0 15 then zbS h m g (zbe a) n else false:=by
 rw[zZC S];unfold zmX;rw[zEy.2 hn,cond_true];cases zbZ (zA h m) g<;>cases win a 0 15<;>rfl
theorem zQ6 {h:Host}(S:Safe h){m g a n:Int}(hn:n=1\/n=2)(hd:zmX (zA h m) g a n=true) :
 Looked h (zAU h m g a n).1 m g (zbe a) n (zCn (zA h m) g a n) (zAU h m g a n).2.1/\hasB m (ln h.Mons)=true/\hasB (zCn (zA h m) g a n) 8=true:=by
 rw[zFy S m g a n hn,zbU]at hd;obtain ⟨L,_⟩:=zN0 S true hd.2 S.rt.e2;obtain ⟨h1,_,hw⟩:=zpc.1 hd.2;obtain ⟨_,hm,hg⟩:=ziN.1 h1;have e:zCn (zA h m) g a n=zck (zcr h m g) (zbe a) n:=by
  unfold zCn;rw[zr4 hm hg];rfl
 rw[e];exact ⟨L,hm,(walked (S.ok.guest hm hg) hw).q8⟩
theorem z6r {h:Host}(S:Safe h)(m g a v:Int):SimT h (zon h m g a v) m (fun b=>zWV b g a v)/\zf4 h m g a v=zw5 (zA h m) g a v:=by
 have e:zf4 h m g a v=zw5 (zA h m) g a v:=by
  unfold zf4 zw5;rw[zFy S m g a 2 (.inr rfl)];cases win a 0 15<;>cases win v 0 99<;>cases zbS h m g (zbe a) 2<;>rfl
 refine ⟨?_,e⟩;unfold zon;cases hc:zf4 h m g a v with
 | false =>
  refine (SimT.refl S m).congr ?_;unfold zWV;rw[<- e,hc];rfl
 | true =>
  rw[cond_true];have hd:zmX (zA h m) g a 2=true:=by
   have:=e.symm.trans hc;unfold zw5 at this;exact (zbU.1 this).1
  obtain ⟨L,hm,hq⟩:=zQ6 S (.inr rfl) hd;have k0:=L.op.sim S m;obtain ⟨k1,_⟩:=zuC k0.safe (by rw[k0.has];exact hm) hq L.inn L.ne (zcU a) v
  refine (k0.trans k1).congr ?_;unfold zWV;rw[<- e,hc];rfl
theorem z5u {h:Host}(S:Safe h)(m g a:Int):SimT h (zlZ h m g a) m id/\zfl h m g a=zmX (zA h m) g a 1/\zp2 h m g a=zQj (zA h m) g a:=by
 have e:zfl h m g a=zmX (zA h m) g a 1:=by
  unfold zfl;rw[zFy S m g a 1 (.inl rfl)]
 unfold zlZ zp2 zQj;rw[e];cases hd:zmX (zA h m) g a 1 with
 | false=>exact ⟨SimT.refl S m,rfl,rfl⟩
 | true =>
  obtain ⟨L,hm,hq⟩:=zQ6 S (.inl rfl) hd;have k0:=L.op.sim S m;obtain ⟨_,k2⟩:=zuC k0.safe (by rw[k0.has];exact hm) hq L.inn L.ne (zcU a) 0
  rw[L.op.like.seen m] at k2;exact ⟨k0,rfl,k2⟩
theorem zZq {k:Kept}{inner outer:List Slot}(h:KOk k inner outer)(p:Int)(s:Slot):KOk (zbI k p) (zdO inner p s) outer:=by
 have hl:=zjE k p;have hw:(zdO inner p s).length=inner.length:=by unfold zdO;cases hasB p (ln inner)<;>simp [zbB]
 refine ⟨by rw[hl.1,hw,h.l1],by rw[hl.2,hw,h.l2],fun i hi=>?_⟩
 have hi1:hasB i (ln inner)=true:=by unfold ln at hi ⊢;rwa [<- hw]
 have hi':hasB i (ln k.Known)=true:=by unfold ln at hi1 ⊢;rwa [h.l1]
 have ha:=zuO (q:=p) (by rw[h.l1,h.l2]) hi'
 rw[ha.1,ha.2]
 by_cases e:p=i
 .subst e;rw[zbg.2 rfl];rfl
 .rw [zbF.2 e,cond_false,cond_false,h.at' i hi1];have:ix (zdO inner p s) i sZ=ix inner i sZ:=by
   unfold zdO;cases hp:hasB p (ln inner) with
   | false=>rfl
   | true=>exact zbk (zu.1 hp).1 (zu.1 hi1).1 e _ _
  rw[this]
theorem z6J {t m g:Int}(h1:zc6 t=m)(h2:zdN t=g)(hm:0<=m):t=zek m g:=by
 subst h1;subst h2
 by_cases h:1<=t/\t<=6
 .have e:t=1\/t=2\/t=3\/t=4\/t=5\/t=6:=by omega
  rcases e with rfl|rfl|rfl|rfl|rfl|rfl<;>decide
 .exfalso;have:zc6 t = -1:=by
   unfold zc6 ige ile;rw[show (decide (t≥1)&&decide (t<=6))=false by simp;omega];rfl
  omega
theorem zVc {t:List Slot}{p q:Int}{s:Slot}(h:q≠p):zbl (zdO t p s) q=zbl t q:=by
 unfold zdO;cases hp:hasB p (ln t) with
 | false=>rfl
 | true=>exact zOp (zu.1 hp).1 h
theorem z16 {t:List Slot}(h:zcv t 4 8=true)(p:Int):zde (zbl t p) 8=true:=by
 unfold zbl;cases hp:hasB p (ln t) with
 | false=>rfl
 | true=>exact (zpN.1 h).1 _ (zkv hp _)
theorem zZf {x:Guest}(X:GOk x)(p:Int):GOk (zdo x p):=⟨X.prog,X.a,X.pc,X.w,zTs X.l (z16 X.w p),X.ctl,X.pend,X.ex,X.seen⟩
theorem z1o {h:Host}(S:Safe h)(m g p:Int):SimT h (zjH h m g p) m (fun b=>chg b g (hasB p 4) (zdo (gAt b g) p))/\zdF h m (zbM (zA h m) g (hasB p 4))=zbM (zA h m) g (hasB p 4):=by
 refine ⟨?_,zjW S m (t:=fun b=>zbM b g (hasB p 4)) (zij g _)⟩;unfold zjH zcf;rw[zi4.2 S.ok,cond_true];cases hm:hasB m (ln h.Mons) with
 | false =>
  refine (SimT.refl S m).congr ?_;rw[seen_none hm,zod];rfl
 | true =>
  rw[cond_true];cases hc:zbM (zA h m) g (hasB p 4) with
  | false =>
   refine (SimT.refl S m).congr ?_
   show zA h m=chg (zA h m) g (hasB p 4) (zdo (gAt (zA h m) g) p)
   have hc':=hc;unfold zbM at hc';unfold chg;rw[hc'];rfl
  | true =>
   rw[cond_true];have hc':=hc;unfold zbM zbZ at hc';rw[zwI S.ok hm,cond_true,zbU,zeE hm]at hc';have hg:hasB g (ln (ix h.Mons m mZ).Guests)=true:=hc'.1;have X:=S.ok.mon hm;have G:=S.ok.seenG hm hg;have e1:chg (zA h m) g (hasB p 4) (zdo (gAt (zA h m) g) p)=zdW (zA h m) g (zdo (gOf h m g) p):=by
    have h1:=hc;unfold zbM at h1;unfold chg;rw[h1,zr4 hm hg];rfl
   rw[e1];have htg:hasB g (ln (ix h.Mons m mZ).Tables)=true:=by unfold ln;rw[X.gt];exact hg
   have hM:(zAs (zcL h m (zdW (zA h m) g (zdo (gOf h m g) p))) m g p).Mons=up h.Mons m { ix h.Mons m mZ with Guests:=up (ix h.Mons m mZ).Guests g (zdo (gOf h m g) p),Tables:=up (ix h.Mons m mZ).Tables g (zbI (ix (ix h.Mons m mZ).Tables g kZ) p) }:=by
    show up (up h.Mons m _) m _=_
    rw[z0v];have e2:ix (zcL h m (zdW (zA h m) g (zdo (gOf h m g) p))).Mons m mZ=ztl (ix h.Mons m mZ) (zdW (zA h m) g (zdo (gOf h m g) p)):=zY hm _ _;rw[e2];unfold ztl zdW;rw[zeE hm]
   have kp:KeepP (ix h.Mons m mZ) { ix h.Mons m mZ with Guests:=up (ix h.Mons m mZ).Guests g (zdo (gOf h m g) p),Tables:=up (ix h.Mons m mZ).Tables g (zbI (ix (ix h.Mons m mZ).Tables g kZ) p) }:=⟨rfl,rfl⟩;have hy:MOk { ix h.Mons m mZ with Guests:=up (ix h.Mons m mZ).Guests g (zdo (gOf h m g) p),Tables:=up (ix h.Mons m mZ).Tables g (zbI (ix (ix h.Mons m mZ).Tables g kZ) p) }:=zjP X kp (zbB _ _ _) (zbB _ _ _) rfl X.outs X.pend X.tr X.own fun z hz=>by
    rcases qZ hz with h|h
    .exact X.gs z h
    .rw [h];exact zrG.2 (zZf G p)
   have hH:HOk (zAs (zcL h m (zdW (zA h m) g (zdo (gOf h m g) p))) m g p):=S.ok.up hm hy hM S.ok.m12 S.ok.pgs (zwT S.ok.b1 _) (zwT S.ok.b2 _) fun q _=>.inl (qX _);have key:∀b:List Entry,(∀e∈b,zcB h e=true)->∀e∈zcn b (zek m g) p,zcB (zAs (zcL h m (zdW (zA h m) g (zdo (gOf h m g) p))) m g p) e=true:=by
    intro b hb e he;obtain ⟨he1,he2⟩:=zw8.1 he;obtain ⟨h1,h2,h3⟩:=ze5.1 (hb e he1);rw[ze5,hM,zdg];refine ⟨h1,?_⟩
    by_cases hcm:m=zc6 e.Tag
    .rw [<- hcm]at h1 h2 h3 ⊢;rw[zY hm]
     show hasB (zdN e.Tag) (ln (up _ _ _))=true/\below' _ (zbm (zbl (ix (up (ix h.Mons m mZ).Guests g _) (zdN e.Tag) gZ).Live e.Page) (ix h.Mons m mZ).Outer)=true
     rw[zdg];refine ⟨h2,?_⟩
     by_cases hcg:g=zdN e.Tag
     .rw [<- hcg]at h2 h3 ⊢;rw[zY hg];have hne:e.Page≠p:=fun hp=>he2 ⟨z6J hcm.symm hcg.symm (zu.1 hm).1,hp⟩
      show below' _ (zbm (zbl (zdO (gOf h m g).Live p _) e.Page) _)=true
      rw[zVc hne];exact h3
     .rw [zbk (zu.1 hg).1 (zu.1 h2).1 hcg];exact h3
    .rw [zbk (zu.1 hm).1 (zu.1 h1).1 hcm];exact ⟨h2,h3⟩
   refine ⟨⟨hH,⟨fun i hi=>?_,key _ S.rt.e1,key _ S.rt.e2⟩⟩,fun i=>?_,by rw[hM,zbB]⟩
   .rw [hM]at hi ⊢;rw[zdg]at hi
    by_cases hcm:m=i
    .subst hcm;rw[zY hm];intro j hj
     show KOk (ix (up (ix h.Mons m mZ).Tables g _) j kZ) (ix (up (ix h.Mons m mZ).Guests g _) j gZ).Live (ix h.Mons m mZ).Outer
     have hj':hasB j (ln (ix h.Mons m mZ).Guests)=true:=by
      have:hasB j (ln (up (ix h.Mons m mZ).Guests g (zdo (gOf h m g) p)))=true:=hj
      rwa [zdg] at this
     by_cases e:g=j
     .subst e;rw[zY htg,zY hg];exact zZq (S.rt.t m hm g hg) p _
     .rw [zbk (zu.1 hg).1 (zu.1 hj').1 e,zbk (zu.1 hg).1 (zu.1 hj').1 e];exact S.rt.t m hm j hj'
    .rw [zbk (zu.1 hm).1 (zu.1 hi).1 hcm];exact S.rt.t i hi
   .refine (zsY (h:=h) hm hM rfl kp i).trans ?_
    by_cases e:i=m
    .subst e;rw[zbg.2 rfl,cond_true,cond_true,e1,zeE hm];rfl
    .rw [zbF.2 e];rfl
theorem zOA (g:Int):zhq ⟨[],[],[],0⟩ g=⟨[],[],[],0⟩/\zki ⟨[],[],[],0⟩ g=false:=by
 have:zki ⟨[],[],[],0⟩ g=false:=by unfold zki;rw[zVS];rfl
 refine ⟨?_,this⟩;unfold zhq;rw[this];rfl
theorem z1u {h:Host}(S:Safe h)(a:GAct):SimT h (zsg h a) a.M (fun b=>zHI b a)/\zAS h a=zHJ (zA h a.M) a:=by
 have hn:=zrK;unfold zsg zAS zHI zHJ;cases ieq a.Kind 1 with
 | true =>
  obtain ⟨k,e⟩:=step_ok S a.M a.G;exact ⟨k,by rw[cond_true,cond_true,e]⟩
 | false =>
  simp only[cond_false];cases ieq a.Kind 2 with
  | true =>
   exact ⟨zoC S a.M (F:=fun b=>chg b a.G (zqS a.X ⟨a.Y,a.Z⟩) (zx0 (gAt b a.G) a.X ⟨a.Y,a.Z⟩)) (fun b hb=>zpQ hb fun _ hc G=>z4U G hc) (zod _ _ _),
    congrArg (fun t=>Told.mk t 0) (zjW S a.M (t:=fun b=>zbM b a.G (zqS a.X ⟨a.Y,a.Z⟩)) (zij _ _))⟩
  | false =>
   simp only[cond_false];cases ieq a.Kind 3 with
   | true =>
    obtain ⟨k,e⟩:=z1o S a.M a.G a.X;exact ⟨k,congrArg (fun t=>Told.mk t 0) e⟩
   | false =>
    simp only[cond_false];cases ieq a.Kind 4 with
    | true =>
     exact ⟨zoC S a.M (F:=fun b=>chg b a.G (zqm (gAt b a.G) a.X) (zuJ (gAt b a.G) a.X)) (fun b hb=>zpQ hb fun _ hc G=>z4R G hc) (zod _ _ _),
      congrArg (fun t=>Told.mk t 0) (zjW S a.M (t:=fun b=>zbM b a.G (zqm (gAt b a.G) a.X)) (zij _ _))⟩
    | false =>
     simp only[cond_false];cases ieq a.Kind 5 with
     | true =>
      exact ⟨zoC S a.M (F:=fun b=>chg b a.G (zuT (gAt b a.G)) (zuU (gAt b a.G))) (fun b hb=>zpQ hb fun _ _ G=>z4T G) (zod _ _ _),
       congrArg (fun t=>Told.mk t 0) (zjW S a.M (t:=fun b=>zbM b a.G (zuT (gAt b a.G))) (zij _ _))⟩
     | false =>
      simp only[cond_false];cases ieq a.Kind 6 with
      | true =>
       exact ⟨zoC S a.M (F:=fun b=>chg b a.G (zfA (gAt b a.G).Pending a.X) (zl2 (gAt b a.G) a.X)) (fun b hb=>zpQ hb fun _ _ G=>zVJ G _) (zod _ _ _),
        congrArg (fun t=>Told.mk t 0) (zjW S a.M (t:=fun b=>zbM b a.G (zfA (gAt b a.G).Pending a.X)) (zij _ _))⟩
      | false =>
       simp only[cond_false];cases ieq a.Kind 7 with
       | true =>
        exact ⟨zoC S a.M (F:=fun b=>chg b a.G (zgL ⟨a.X,a.Y,ieq a.Z 1⟩) (zFo (gAt b a.G) ⟨a.X,a.Y,ieq a.Z 1⟩)) (fun b hb=>zpQ hb fun _ hc G=>z4S G hc) (zod _ _ _),
         congrArg (fun t=>Told.mk t 0) (zjW S a.M (t:=fun b=>zbM b a.G (zgL ⟨a.X,a.Y,ieq a.Z 1⟩)) (zij _ _))⟩
       | false =>
        simp only[cond_false];cases ieq a.Kind 8 with
        | true =>
         obtain ⟨k,e⟩:=z1Q S a.M a.X a.Y a.Z;exact ⟨k,congrArg (fun t=>Told.mk t 0) e⟩
        | false =>
         simp only[cond_false];cases ieq a.Kind 9 with
         | true =>
          exact ⟨zoC S a.M (F:=fun b=>ziz b a.X) (fun b hb=>zWz hb _) (by unfold ziz zes;rw[hn];rfl),
           congrArg (fun t=>Told.mk t 0) (zjW S a.M (t:=fun b=>zes b a.X) (by unfold zes;rw[hn];rfl))⟩
         | false =>
          simp only[cond_false];cases ieq a.Kind 10 with
          | true =>
           refine ⟨zoC S a.M (F:=zk0) (fun b hb=>zYo hb) (by unfold zk0;rw[hn];rfl),?_⟩
           have e:=zjW S a.M (t:=zkg) (by unfold zkg;rw[hn];rfl)
           show Told.mk (zdF h a.M (zkg (zA h a.M))) (cond (zcf h a.M) (zql (zA h a.M)) (-1))=⟨zkg (zA h a.M),zql (zA h a.M)⟩
           rw[e]
           congr 1
           unfold zcf;rw[zi4.2 S.ok,cond_true];cases hm:hasB a.M (ln h.Mons) with
           | true=>rfl
           | false=>rw[seen_none hm];unfold zql;rw[hn];rfl
          | false =>
           simp only[cond_false];cases ieq a.Kind 11 with
           | true =>
            obtain ⟨k,e⟩:=z6r S a.M a.G a.X a.Y;exact ⟨k,congrArg (fun t=>Told.mk t 0) e⟩
           | false =>
            obtain ⟨k,e1,e2⟩:=z5u S a.M a.G a.X;exact ⟨k,by simp only[cond_false];rw[e1,e2]⟩
theorem z1J {h:Host}(S:Safe h)(a:GAct):Safe (zlp h a)/\(∀i,zA (zlp h a) i=zA h i)/\(zlp h a).Mons.length=h.Mons.length:=by
 unfold zlp;have k:∀r,Op h r->Safe r/\(∀i,zA r i=zA h i)/\r.Mons.length=h.Mons.length:=fun r k=>⟨k.safe S,fun i=>k.like.seen i,k.like.len⟩;cases ieq a.Kind 13 with
 | true=>exact k _ (zJz S.ok _ _)
 | false =>
  simp only[cond_false];cases ieq a.Kind 14 with
  | true=>exact k _ (zN8 S.ok _ _)
  | false =>
   simp only[cond_false];cases ieq a.Kind 15 with
   | true=>exact k _ (zZO S.ok _ _)
   | false =>
    simp only[cond_false];cases ieq a.Kind 16 with
    | true =>
     obtain ⟨h1,h2⟩:=zPR S a.M a.X;refine ⟨h1,h2,?_⟩;simp only[cond_true];unfold ziG;cases zbK h<;>cases hasB a.M (ln h.Mons)<;>cases win a.X 0 3<;>first|rfl|exact zbB _ _ _
    | false=>exact k _ (z5q S.ok)
def zjq (a:GAct):Bool:=bif win a.Kind 1 17 then !win a.Kind 13 17 else false
theorem zYj {h:Host}(S:Safe h)(a:GAct):Safe (zd1 h a)/\(zd1 h a).Mons.length=h.Mons.length /\
 (∀i,zA (zd1 h a) i=bif (cond (zjq a) (ieq i a.M) false) then zHI (zA h i) a else zA h i)/\(zjq a=true->ziq h a=zHJ (zA h a.M) a):=by
 unfold zd1 ziq zjq;cases win a.Kind 1 17 with
 | false=>exact ⟨S,rfl,fun _=>rfl,fun e=>by cases e⟩
 | true =>
  simp only[cond_true];cases win a.Kind 13 17 with
  | true =>
   obtain ⟨h1,h2,h3⟩:=z1J S a;exact ⟨h1,h3,fun i=>by simp only[cond_true,jG,cond_false];exact h2 i,fun e=>by cases e⟩
  | false =>
   obtain ⟨k,e⟩:=z1u S a;exact ⟨k.safe,k.len,fun i=>by simp only[cond_false,jL,cond_true];exact k.seen i,fun _=>e⟩
def zcc (h:Host):List Bare:=(List.range h.Mons.length).map fun (i:Nat)=>zA h (i:Int)
theorem zf3 (h:Host):(zcc h).length=h.Mons.length:=by simp[zcc]
theorem zlb (h:Host)(m:Int):hasB m (ln (zcc h))=hasB m (ln h.Mons):=by unfold ln;rw[zf3]
theorem zkh {h:Host}{m:Int}(hm:hasB m (ln h.Mons)=true)(d:Bare):ix (zcc h) m d=zA h m:=by
 have hm':=zu.1 hm;unfold ln at hm';have hk:m.toNat<(zcc h).length:=by rw[zf3];omega
 have:=zli hk d;rw[show ((m.toNat:Nat):Int)=m by omega] at this
 rw[this];simp[zcc,show max m 0=m by omega]
theorem zwQ {h r:Host}(hl:r.Mons.length=h.Mons.length)(e:∀i,zA r i=zA h i):zcc r=zcc h:=by
 unfold zcc;rw[hl];exact List.map_congr_left fun i _=>e _
theorem zT0 {h:Host}(S:Safe h)(a:GAct):zcc (zd1 h a)=zHK (zcc h) a/\(zjq a=true->ziq h a=zWy (zcc h) a):=by
 obtain ⟨_,hl,hs,ht⟩:=zYj S a;have key:zjq a=true->zcc (zd1 h a)=(cond (hasB a.M (ln h.Mons)) (up (zcc h) a.M (zHI (zA h a.M) a)) (zcc h)):=by
  intro hi;rw[hi]at hs;cases hm:hasB a.M (ln h.Mons) with
  | false =>
   rw[cond_false];refine zMg ⟨[],[],[],0⟩ (by rw[zf3,zf3,hl]) fun i hi'=>?_
   rw[zlb]at hi';rw[zkh hi'];have hi2:hasB i (ln h.Mons)=true:=by unfold ln at hi' ⊢;rwa [<- hl]
   rw[zkh hi2,hs i];have:ieq i a.M=false:=zbF.2 fun e=>by rw[e,hm]at hi2;cases hi2
   rw[this];rfl
  | true =>
   rw[cond_true];refine zMg ⟨[],[],[],0⟩ (by rw[zbB,zf3,zf3,hl]) fun i hi'=>?_
   rw[zlb]at hi';rw[zkh hi',hs i];have hi2:hasB i (ln h.Mons)=true:=by unfold ln at hi' ⊢;rwa [<- hl]
   by_cases e:i=a.M
   .rw [e,zbg.2 rfl,zY (by rw[zlb];exact hm)];rfl
   .rw [zbF.2 e,zbk (zu.1 hm).1 (zu.1 hi2).1 (Ne.symm e),zkh hi2];rfl
 have e2:zjq a=false->zcc (zd1 h a)=zcc h:=fun hi=>zwQ hl fun i=>by rw[hs i,hi];rfl
 have ke:zjq a=true->win a.Kind 1 17=true/\win a.Kind 13 17=false:=by
  intro hi;unfold zjq at hi;cases h1:win a.Kind 1 17<;>cases h2:win a.Kind 13 17<;>rw [h1,h2]at hi<;>first|exact ⟨rfl,rfl⟩|cases hi
 constructor
 .unfold zHK;cases hi:zjq a with
  | true =>
   obtain ⟨h1,h2⟩:=ke hi;rw[h1,h2,cond_true,cond_false,zlb,key hi];cases hm:hasB a.M (ln h.Mons) with
   | true=>rw[cond_true,cond_true,zkh hm]
   | false=>rfl
  | false =>
   rw[e2 hi];unfold zjq at hi;cases h1:win a.Kind 1 17 with
   | false=>rfl
   | true =>
    cases h2:win a.Kind 13 17 with
    | true=>rfl
    | false=>rw[h1,h2]at hi;cases hi
 .intro hi;rw[ht hi];obtain ⟨h1,h2⟩:=ke hi;unfold zWy;rw[h1,h2,cond_true,cond_false,zlb];cases hm:hasB a.M (ln h.Mons) with
  | true=>rw[cond_true,zkh hm]
  | false =>
   rw[cond_false,seen_none hm];have hs1:=(zOA a.G).2;have hn:=zrK;unfold zHJ;simp only[hs1,zij];unfold zvX zes zkg zql zw5 zQj zmX;simp only[hn,zrR hn,cond_false];cases h10:ieq a.Kind 10 with
   | true =>
    have:a.Kind=10:=zbg.1 h10;rw[this];rfl
   | false =>
    cases ieq a.Kind 1<;>cases ieq a.Kind 2<;>cases ieq a.Kind 3<;>cases ieq a.Kind 4<;>cases ieq a.Kind 5<;>cases ieq a.Kind 6<;>cases ieq a.Kind 7<;>cases ieq a.Kind 8<;>cases ieq a.Kind 9<;>cases ieq a.Kind 11<;>rfl
def zIX:List GAct->List Told->List Told
 | a :: l,t :: ts=>bif zjq a then t :: zIX l ts else zIX l ts
 | _,_=>[]
structure Live (u:Host×List Told) (v:List Bare×List Told):Prop where
 safe:Safe u.1
 seen:zcc u.1=v.1
def zCb:List GAct->Host->List Told
 | [],_=>[]
 | a :: l,h=>ziq h a :: zCb l (zd1 h a)
def z0t:List GAct->List Bare->List Told
 | [],_=>[]
 | a :: l,b=>zWy b a :: z0t l (zHK b a)
def ztr:List GAct->Host->Host
 | [],h=>h
 | a :: l,h=>ztr l (zd1 h a)
def z1j:List GAct->List Bare->List Bare
 | [],b=>b
 | a :: l,b=>z1j l (zHK b a)
theorem zV4:∀(l:List GAct) (u:Host×List Told),zA7 l u=(ztr l u.1,u.2++zCb l u.1)
 | [],u=>by simp[zA7,ztr,zCb]
 | a :: l,u=>by rw[zA7,zV4 l];simp[ztr,zCb,ap]
theorem zY5:∀(l:List GAct) {h:Host},Safe h->Safe (ztr l h)/\zcc (ztr l h)=z1j l (zcc h)/\zIX l (zCb l h)=zIX l (z0t l (zcc h))/\(ztr l h).Mons.length=h.Mons.length
 | [],h,S=>⟨S,rfl,rfl,rfl⟩
 | a :: l,h,S=>by
  have h1:=zYj S a;have h2:=zT0 S a;obtain ⟨e1,e2,e3,e4⟩:=zY5 l h1.1;refine ⟨e1,by show zcc (ztr l (zd1 h a))=z1j l (zHK (zcc h) a);rw[e2,h2.1],?_,e4.trans h1.2.1⟩
  show (cond (zjq a) _ _)=(cond (zjq a) _ _)
  cases hi:zjq a with
  | false=>rw[cond_false,cond_false,e3,h2.1]
  | true=>rw[cond_true,cond_true,e3,h2.1,h2.2 hi]
theorem cz8 (q:Int)(hq:0<=q):zs4.countP (fun s=>ieq s.Page q)=0:=by
 rw[uX];intro s hs;have:=(uG.1 hs).2;rw[this]
 show ¬ ieq (-1) q=true
 rw[zbg];omega
theorem zUd {p:List Ins}(h:zcR p=true):GOk (zel p):=⟨h,rfl,rfl,rfl,rfl,rfl,rfl,rfl,rfl⟩
theorem zZJ {ps:List (List Ins)}(h1:1<=ps.length)(h:∀p∈ps,zcR p=true):MOk (zfU ps):=by
 have e8:∀s∈zs4,s=noSlot:=fun s hs=>(uG.1 hs).2;refine ⟨?_,?_,?_,rfl,fun s hs=>.inl (e8 s hs),rfl,rfl,jU _,rfl,rfl,rfl,fun g hg=>?_,fun p hp=>?_⟩
 .show 1<=((ps.take 2).map zel).length
  simp;omega
 .show ((ps.take 2).map zel).length<=2
  simp;omega
 .show ((ps.take 2).map (fun _=>zi7)).length=((ps.take 2).map zel).length
  simp
 .obtain ⟨p,hp,rfl⟩:=jA.1 hg;exact zrG.2 (zUd (h p (jZ hp)))
 .have hp':=zu.1 hp;have e:p=0\/p=1\/p=2\/p=3\/p=4\/p=5\/p=6\/p=7:=by omega
  rcases e with rfl|rfl|rfl|rfl|rfl|rfl|rfl|rfl<;>rfl
def z4c (ps:List (List (List Ins))):Prop:=1<=ps.length/\∀p∈ps,1<=p.length/\∀x∈p,zcR x=true
theorem zXc {ps:List (List (List Ins))}(h:z4c ps):Safe (ze2 ps):=by
 have hmem:∀x∈(ze2 ps).Mons,∃p∈ps,x=zfU p:=fun x hx=>by
  obtain ⟨p,hp,rfl⟩:=jA.1 hx;exact ⟨p,jZ hp,rfl⟩
 have hO:∀x∈(ze2 ps).Mons,x.Outer=zs4:=fun x hx=>by
  obtain ⟨p,_,rfl⟩:=hmem x hx;rfl
 have H:HOk (ze2 ps):=by
  refine ⟨rfl,fun c hc=>?_,?_,?_,rfl,rfl,fun x hx=>?_,fun q hq=>?_⟩
  .have:c=[0,0,0,0]:=(uG.1 hc).2;rw[this];rfl
  .show 1<=((ps.take 3).map zfU).length
   have:=h.1;simp;omega
  .show ((ps.take 3).map zfU).length<=3
   simp;omega
  .obtain ⟨p,hp,rfl⟩:=hmem x hx;exact zZJ (h.2 p hp).1 (h.2 p hp).2
  .have:zdH (ze2 ps).Mons q=0:=by
    unfold zdH;have:(ze2 ps).Mons.map (fun x=>cPg x q)=(ze2 ps).Mons.map (fun _=>0):=List.map_congr_left fun x hx=>by
     unfold cPg;rw[hO x hx];exact cz8 q hq
    rw[this];generalize (ze2 ps).Mons=l
    induction l with
    | nil=>rfl
    | cons x l ih=>rw[q0,kW,ih]
   omega
 refine ⟨H,fun m hm g hg=>?_,fun e he=>(by cases he),fun e he=>(by cases he)⟩
 obtain ⟨p,hp,e⟩:=hmem _ (zkv hm mZ);rw[e]at hg ⊢;have hg1:hasB g (ln ((p.take 2).map zel))=true:=hg;have ht:ix (zfU p).Tables g kZ=zi7:=by
  have:hasB g (ln ((p.take 2).map (fun _=>zi7)))=true:=by
   unfold ln at hg1 ⊢;simpa using hg1
  obtain ⟨k,hk,_,e2⟩:=zxv this kZ
  show ix ((p.take 2).map (fun _=>zi7)) g kZ=_
  rw[e2];simp
 have hl:(ix (zfU p).Guests g gZ).Live=zkb:=by
  obtain ⟨k,hk,_,e2⟩:=zxv hg1 gZ
  show (ix ((p.take 2).map zel) g gZ).Live=_
  rw[e2];simp[zel]
 rw[ht,hl]
 show KOk zi7 zkb zs4
 refine ⟨rfl,rfl,fun i hi=>?_⟩;have hi':=zu.1 hi;have:ln zkb=4:=rfl;rw[this]at hi';have e4:i=0\/i=1\/i=2\/i=3:=by omega
 rcases e4 with rfl|rfl|rfl|rfl<;>rfl
def z3C:zO:=[(85,zuV),(86,zsD),(84,zqG)]++zlV
theorem zw2:zF z3C:=zh zyy (zh zvK (zh ztB zdz))
theorem zok (l:List Int):eqI l l=true:=by
 unfold eqI
 induction l with
 | nil=>rfl
 | cons x l ih=>rw[all2,zcC,ih];rfl
def ziU (x y:List Slot):Bool:=pc (x=y)
def zjf (_ _:List Slot):Bool:=true
def zt3:Run:=rF2 (dS .slot) (dS .slot) fun b c=>(ziU b c,[aB (zjf b c)])
def zys (N:Nat)(a0 a1:lS):OA:=
 (cond (ine (ln a0) (ln a1)) oF (iter (σ:=(Int×(lS×(lS×Unit)))) N (fun r3 s4=>let y1:=(ix s4.2.1 s4.1 zK);let y0:=(ix s4.2.2.1 s4.1 zK); (cond (ilt s4.1 (ln s4.2.1)) (oN (inb s4.1 (ln s4.2.1)) (oN (inb s4.1 (ln s4.2.2.1)) (cond (nB (cond (ieq y1.Page y0.Page) (ieq y1.Rights y0.Rights) false)) oF (r3 ((zG .i64 s4.1 1),(s4.2.1,(s4.2.2.1,()))))))) oT)) (0,(a0,(a1,())))))
def zKp:FuncId->Nat->Option Tmpl:=zo [(168,0,{ n:=26,tm:=[(0,.sl 0 []),(1,.sl 1 []),(5,ti)],lo:=[],ro:=[(0,.slot,false),(1,.slot,false)] })]
theorem zJn (a0 a1:List Slot)(hb:zbG big [aS .slot a0,aS .slot a1])(hc:ziU a0 a1=true):∃N,zys N a0 a1=some [aB (zjf a0 a1)]:=by
 have:=zD.1 hc;subst this;have hl:=(len0 hb);refine ⟨a0.length+1,?_⟩;unfold zys oN nB
 conv=>zeta
 rw[zbR];refine zgk a0 zK _ _ hl (fun i hi rec=>?_) (fun rec=>?_) (jO _)
 .simp only [zbf hi,zN hi,zba hi,zok,ziy,zbR,zcC,zcY,cT,cF,jG,jL]
 .simp only [zbd,cF,zjf]
theorem zC8:vB 168 zt3:=hF2 zw2 zV zl zn zKp zJn
def znO (x y:List Ins):Bool:=pc (x=y)
def znN (_ _:List Ins):Bool:=true
def zwr:Run:=rF2 (dS .ins) (dS .ins) fun b c=>(znO b c,[aB (znN b c)])
def zzY (N:Nat)(a0 a1:lI):OA:=
 (cond (ine (ln a0) (ln a1)) oF (iter (σ:=(Int×(lI×(lI×Unit)))) N (fun r3 s4=>let y1:=(ix s4.2.1 s4.1 zn3);let y0:=(ix s4.2.2.1 s4.1 zn3); (cond (ilt s4.1 (ln s4.2.1)) (oN (inb s4.1 (ln s4.2.1)) (oN (inb s4.1 (ln s4.2.2.1)) (cond (nB (cond (ieq y1.Op y0.Op) (ieq y1.X y0.X) false)) oF (r3 ((zG .i64 s4.1 1),(s4.2.1,(s4.2.2.1,()))))))) oT)) (0,(a0,(a1,())))))
def zMV:FuncId->Nat->Option Tmpl:=zo [(167,0,{ n:=26,tm:=[(0,.sl 0 []),(1,.sl 1 []),(5,ti)],lo:=[],ro:=[(0,.ins,false),(1,.ins,false)] })]
theorem zL4 (a0 a1:List Ins)(hb:zbG big [aS .ins a0,aS .ins a1])(hc:znO a0 a1=true):∃N,zzY N a0 a1=some [aB (znN a0 a1)]:=by
 have:=zD.1 hc;subst this;have hl:=(len0 hb);refine ⟨a0.length+1,?_⟩;unfold zzY oN nB
 conv=>zeta
 rw[zbR];refine zgk a0 zn3 _ _ hl (fun i hi rec=>?_) (fun rec=>?_) (jO _)
 .simp only [zbf hi,zN hi,zba hi,zok,ziy,zbR,zcC,zcY,cT,cF,jG,jL]
 .simp only [zbd,cF,znN]
theorem zF4:vB 167 zwr:=hF2 zw2 zV zl zn zMV zL4
def zpE (x y:List (List Int)):Bool:=pc (x=y)
def zqe (_ _:List (List Int)):Bool:=true
def zyX:Run:=rF2 (dS (.sl .int)) (dS (.sl .int)) fun b c=>(zpE b c,[aB (zqe b c)])
def zD6 (N:Nat)(a0:lM)(a1:lM):OA:=
 (cond (ine (ln a0) (ln a1)) oF (iter (σ:=(Int×(lM×(lM×Unit)))) N (fun r3 s4=>(cond (ilt s4.1 (ln s4.2.1)) (oN (inb s4.1 (ln s4.2.1)) (oN (inb s4.1 (ln s4.2.2.1)) (oN (zgd (ix s4.2.1 s4.1 []) (ix s4.2.2.1 s4.1 [])) (cond (nB (zhh (ix s4.2.1 s4.1 []) (ix s4.2.2.1 s4.1 []))) oF (r3 ((zG .i64 s4.1 1),(s4.2.1,(s4.2.2.1,())))))))) oT)) (0,(a0,(a1,())))))
def zPZ:FuncId->Nat->Option Tmpl:=zo [(82,0,{ n:=27,tm:=[(0,.sl 0 []),(1,.sl 1 []),(5,ti)],lo:=[],ro:=[(0,(.sl .int),false),(1,(.sl .int),false)] })]
theorem zPt (a0:List (List Int))(a1:List (List Int))(hb:zbG big [aS (.sl .int) a0,aS (.sl .int) a1])(hc:zpE a0 a1=true):∃N,zD6 N a0 a1=some [aB (zqe a0 a1)]:=by
 have:=zD.1 hc;subst this;have hl:=(len0 hb);refine ⟨a0.length+1,?_⟩;unfold zD6 oN nB;rw[zbR];refine zgk a0 (Ty.dflt (.sl .int)) _ _ hl (fun i hi rec=>?_) (fun rec=>?_) (jO _)
 .simp only [zbf hi,zN hi,zba hi,zgd,zhh,zok,ziy,zbR,zcC,zcY,cT,cF,jG,jL]
 .simp only [zbd,cF,zqe]
theorem zIC:vB 82 zyX:=hF2 zw2 zV zl zn zPZ zPt
def z3D:zO:=[(168,zt3),(167,zwr),(82,zyX)]++z3C
theorem zQY:zF z3D:=zh zC8 (zh zF4 (zh zIC zw2))
def zlR (x y:Guest):Bool:=pc (x=y)
def zlx (_ _:Guest):Bool:=true
def zt2:Run:=rF2 (dT .guest) (dT .guest) fun b c=>(zlR b c,[aB (zlx b c)])
def zyr (N:Nat)(a0 a1:Guest):OA:=
 (oN (znO a0.Prog a1.Prog) (cond (znN a0.Prog a1.Prog) (cond (ieq a0.A a1.A) (cond (ieq a0.Pc a1.Pc) (oN (ziU a0.Written a1.Written) (cond (zjf a0.Written a1.Written) (oN (ziU a0.Live a1.Live) (cond (zjf a0.Live a1.Live) (cond (cond (ieq a0.Ctl.Traps a1.Ctl.Traps) (cond (ieq a0.Ctl.Post a1.Ctl.Post) (zjm a0.Ctl.Open a1.Ctl.Open) false) false) (cond (ieq a0.Pending a1.Pending) (cond (cond (ieq a0.Exit.Kind a1.Exit.Kind) (cond (ieq a0.Exit.Page a1.Exit.Page) (cond (zjm a0.Exit.Write a1.Exit.Write) (ieq a0.Exit.N a1.Exit.N) false) false) false) (cond (zjm a0.Halted a1.Halted) (oN (zgd a0.Seen a1.Seen) (some [(aB (zhh a0.Seen a1.Seen))])) oF) oF) oF) oF) oF)) oF)) oF) oF) oF))
theorem zJm (a0 a1:Guest)(hc:zlR a0 a1=true):∃N,zyr N a0 a1=some [aB (zlx a0 a1)]:=by
 have:=zD.1 hc;subst this;refine ⟨0,?_⟩;simp only[zyr,znO,znN,ziU,zjf,zgd,zhh,zok,ziy,zbR,zcC,zcY,cT,cF,jG,jL,zlx]
theorem zC7:vB 120 zt2:=kF2 zQY zV zl zn (zo []) zJm
def z3E:zO:=[(120,zt2)]++z3D
theorem zQZ:zF z3E:=zh zC7 zQY
def zhG (x y:List Guest):Bool:=pc (x=y)
def zhk (_ _:List Guest):Bool:=true
def zn7:Run:=rF2 (dS .guest) (dS .guest) fun b c=>(zhG b c,[aB (zhk b c)])
def zqY (N:Nat)(a0 a1:lG):OA:=
 (cond (ine (ln a0) (ln a1)) oF (iter (σ:=(Int×(lG×(lG×Unit)))) N (fun r3 s4=>let y1:=(ix s4.2.1 s4.1 zx);let y0:=(ix s4.2.2.1 s4.1 zx); (cond (ilt s4.1 (ln s4.2.1)) (oN (inb s4.1 (ln s4.2.1)) (oN (inb s4.1 (ln s4.2.2.1)) (oN (zlR y1 y0) (cond (nB (zlx y1 y0)) oF (r3 ((zG .i64 s4.1 1),(s4.2.1,(s4.2.2.1,())))))))) oT)) (0,(a0,(a1,())))))
def zzv:FuncId->Nat->Option Tmpl:=zo [(83,0,{ n:=27,tm:=[(0,.sl 0 []),(1,.sl 1 []),(5,ti)],lo:=[],ro:=[(0,.guest,false),(1,.guest,false)] })]
theorem zzu (a0 a1:List Guest)(hb:zbG big [aS .guest a0,aS .guest a1])(hc:zhG a0 a1=true):∃N,zqY N a0 a1=some [aB (zhk a0 a1)]:=by
 have:=zD.1 hc;subst this;have hl:=(len0 hb);refine ⟨a0.length+1,?_⟩;unfold zqY oN nB
 conv=>zeta
 rw[zbR];refine zgk a0 zx _ _ hl (fun i hi rec=>?_) (fun rec=>?_) (jO _)
 .simp only [zbf hi,zN hi,zba hi,zlR,zlx,zok,ziy,zbR,zcC,zcY,cT,cF,jG,jL]
 .simp only [zbd,cF,zhk]
theorem zvL:vB 83 zn7:=hF2 zQZ zV zl zn zzv zzu
def z3F:zO:=[(83,zn7)]++z3E
theorem zQ0:zF z3F:=zh zvL zQZ
def zsR (x y:Bare):Bool:=pc (x=y)
def zrp (_ _:Bare):Bool:=true
def zwq:Run:=rF2 (dT .bare) (dT .bare) fun b c=>(zsR b c,[aB (zrp b c)])
def zzX (N:Nat)(a0 a1:Bare):OA:=
 (oN (zpE a0.Memory a1.Memory) (cond (zqe a0.Memory a1.Memory) (oN (zhG a0.Guests a1.Guests) (cond (zhk a0.Guests a1.Guests) (oN (zgd a0.Outs a1.Outs) (cond (zhh a0.Outs a1.Outs) (some [(aB (ieq a0.Pending a1.Pending))]) oF)) oF)) oF))
theorem zL3 (a0 a1:Bare)(hc:zsR a0 a1=true):∃N,zzX N a0 a1=some [aB (zrp a0 a1)]:=by
 have:=zD.1 hc;subst this;refine ⟨0,?_⟩;simp only[zzX,zpE,zqe,zhG,zhk,zgd,zhh,zok,ziy,zbR,zcC,zcY,cT,cF,jG,jL,zrp]
theorem zF3:vB 54 zwq:=kF2 zQ0 zV zl zn (zo []) zL3
def z3G:zO:=[(54,zwq)]++z3F
theorem zQ1:zF z3G:=zh zF3 zQ0
@[simp] abbrev zrq (h:Host)(m:Int):Bool:=pc (zbz h)
@[simp] abbrev zmc (h:Host)(m:Int):Bare:=zA h m
def zBF:Run:=rF2 dH dI fun b c=>(zrq b c,[aT .bare (zmc b c)])
def zHu (N:Nat)(a0:Host)(a1:Int):OA:=
 (oN (zBZ a0 a1) (cond (nB (zqb a0 a1)) (some [(aT .bare (⟨[],[],[],0⟩:Bare))]) (iter (σ:=(Int×(Int×(Int×(Int×(lM×(lN×(lE×(lE×(lM×(lG×((List Int)×(lM×(lG×((List Int)×Unit))))))))))))))) N (fun r3 s4=>let y3:=s4.2.2.2.2.2.2.2.2.2.2.2.2.1;let y2:=s4.2.2.2.2.2.2.2.2.2.2.2.2.2.1;let y0:=(⟨s4.2.2.2.2.1,s4.2.2.2.2.2.1,s4.2.2.2.2.2.2.1,s4.2.2.2.2.2.2.2.1⟩:Host);let y1:=(ap s4.2.2.2.2.2.2.2.2.2.2.2.1 [(zxP y0 s4.1 s4.2.1)]); (cond (ilt s4.2.1 8) (oN (zxQ y0 s4.1 s4.2.1) (oN (few (ln y1)) (r3 (s4.1,((zG .i64 s4.2.1 1),(s4.2.2.1,(s4.2.2.2.1,(s4.2.2.2.2.1,(s4.2.2.2.2.2.1,(s4.2.2.2.2.2.2.1,(s4.2.2.2.2.2.2.2.1,(s4.2.2.2.2.2.2.2.2.1,(s4.2.2.2.2.2.2.2.2.2.1,(s4.2.2.2.2.2.2.2.2.2.2.1,(y1,(y3,(y2,()))))))))))))))))) (some [(aT .bare (⟨s4.2.2.2.2.2.2.2.2.2.2.2.1,y3,y2,s4.2.2.2.1⟩:Bare))]))) (a1,(0,(0,((zet a0 a1).Pending,(a0.Memory,(a0.Mons,(a0.Buffer,(a0.IoBuffer,([],([],([],([],((zet a0 a1).Guests,((zet a0 a1).Outs,())))))))))))))))))
def zTK:FuncId->Nat->Option Tmpl:=zo [(55,0,{ n:=39,tm:=[(1,ti),(2,.lp 0 0),(4,.lp 1 0),(7,.lp 2 0),(8,ti)],lo:=[(0,[.sl 0 [],.sl 1 [],.sl 2 [],.sl 3 []]),(1,[.sl 4 [],.sl 5 [],.sl 6 [],ti]),(2,[.sl 7 [],.sl 8 [],.sl 9 [],ti])],ro:=[(0,(.sl .int),false),(1,.mon,false),(2,.entry,false),(3,.entry,false),(4,(.sl .int),true),(5,.guest,true),(6,.int,true),(7,(.sl .int),true),(8,.guest,true),(9,.int,true)] })]
theorem zSc (a0:Host)(a1:Int)(hc:zrq a0 a1=true):∃N,zHu N a0 a1=some [aT .bare (zmc a0 a1)]:=by
 have hs:=zD.1 hc;refine zbP fun N hNN=>?_;unfold zHu zmc zA oN nB
 conv=>zeta
 refine must (zbs hs) ?_;rw[show zqb a0 a1=hasB a1 (ln a0.Mons) from rfl]
 cases hh:hasB a1 (ln a0.Mons)
 .rfl
 .refine zcT rfl ?_;refine (zot 8 (fun i (t:lM)=>(a1,(i:Int),0,(zet a0 a1).Pending,a0.Memory,a0.Mons,a0.Buffer,a0.IoBuffer,[],[],[],t,(zet a0 a1).Guests,(zet a0 a1).Outs,())) _ (fun i (acc:List (List Int)) κ=>bif few (ln (ap acc [zbY a0 a1 (i:Int)])) then κ (ap acc [zbY a0 a1 (i:Int)]) else none) (fun (t:lM)=>(some [(.agg (Ty.cells .bare (⟨t,(zet a0 a1).Guests,(zet a0 a1).Outs,(zet a0 a1).Pending⟩:Bare)))])) (fun i hi t rec=>?_) (fun t rec=>?_) _ ([]) (hNN (by decide))).trans ?_
  .simp only [show ilt (i:Int) 8=true from qI (by omega),zT hi (show 8<=big by decide),cT]
   exact must (zbs hs) rfl
  .simp only [show ilt (((8:Nat)):Int) 8=false from qJ (by omega),cF]
  rw[zNT a0 a1 _ 8 0 [] (by decide)]
  simp only[zet,hh,cT,jR]
theorem zLg:vB 55 zBF:=kF2 zQ1 zV zl zn zTK zSc
def z3H:zO:=[(55,zBF)]++z3G
theorem zQ2:zF z3H:=zh zLg zQ1
theorem zRj {ρ:Type}(h:Host)(K:List Bare->Option ρ):∀(l:List Mon) (i:Nat) (acc:List Bare),acc.length+l.length<=2147483648 ->
 goL (fun i (_:Mon) acc κ=>bif few (ln (ap acc [zA h (i:Int)])) then κ (ap acc [zA h (i:Int)]) else none) K l i acc=K (acc++(List.range' i l.length).map fun (i:Nat)=>zA h (i:Int))
 | [],_,acc,_=>by simp[goL]
 | x :: l,i,acc,hl=>by
  simp only[qU]at hl;simp only[goL];rw[zfT (by simp[ap];omega),cT,zRj h K l (i+1) _ (by simp[ap];omega)]
  simp[ap,uR]
@[simp] abbrev zqL (h:Host):Bool:=pc (zbz h)
@[simp] abbrev zpl (h:Host):List Bare:=zcc h
def ztU:Run:=rF1 dH fun b=>(zqL b,[aS .bare (zpl b)])
def zyi (N:Nat)(a0:Host):OA:=
 (iter (σ:=(Int×(lR×(lM×(lN×(lE×(lE×Unit))))))) N (fun r2 s3=>let y0:=(⟨s3.2.2.1,s3.2.2.2.1,s3.2.2.2.2.1,s3.2.2.2.2.2.1⟩:Host);let y1:=(ap s3.2.1 [(zmc y0 s3.1)]); (cond (ilt s3.1 (ln s3.2.2.2.1)) (oN (zrq y0 s3.1) (oN (few (ln y1)) (r2 ((zG .i64 s3.1 1),(y1,(s3.2.2.1,(s3.2.2.2.1,(s3.2.2.2.2.1,(s3.2.2.2.2.2.1,()))))))))) (some [(aS .bare s3.2.1)]))) (0,([],(a0.Memory,(a0.Mons,(a0.Buffer,(a0.IoBuffer,())))))))
def zKk:FuncId->Nat->Option Tmpl:=zo [(33,0,{ n:=20,tm:=[(1,.lp 0 0),(3,.sl 0 []),(4,ti)],lo:=[(0,[.sl 1 [],.sl 2 [],.sl 3 [],.sl 4 []])],ro:=[(0,.bare,true),(1,(.sl .int),false),(2,.mon,false),(3,.entry,false),(4,.entry,false)] })]
theorem zJd (a0:Host)(hc:zqL a0=true):∃N,zyi N a0=some [aS .bare (zpl a0)]:=by
 have hs:=zD.1 hc;have hl:a0.Mons.length<=big:=(zcb ((zJ a0).1 hs).2.1.1).1;refine zbP fun N hNN=>?_;unfold zyi oN
 conv=>zeta
 refine (zbc a0.Mons (fun i (t:lR)=>((i:Int),t,a0.Memory,a0.Mons,a0.Buffer,a0.IoBuffer,())) _ (fun i (x:Mon) (t:List Bare) κ=>bif few (ln (ap t [zA a0 (i:Int)])) then κ (ap t [zA a0 (i:Int)]) else none) (fun (t:lR)=>(some [(.one (.s .bare t))])) (fun i hi t rec=>?_) (fun t rec=>?_) _ ([]) (hNN hl)).trans ?_
 .simp only [zbf hi,zN hi,zba hi,zT hi hl,cT];exact must (zbs hs) rfl
 .simp only [zbd,cF]
 rw[zRj a0 _ _ 0 [] (by simpa using (zcb ((zJ a0).1 hs).2.1.1).2)]
 simp[zcc,uW]
theorem zCZ:vB 33 ztU:=kF1 zQ2 zV zl zn zKk zJd
def z3I:zO:=[(33,ztU)]++z3H
theorem zQ3:zF z3I:=zh zCZ zQ2
theorem zVM {α ρ:Type}(K:Unit->Option ρ):∀(l:List α) (i:Nat),goL (fun _ _ (_:Unit) κ=>κ ()) K l i ()=K ()
 | [],_=>rfl
 | _ :: l,i=>zVM K l (i+1)
@[simp] abbrev zsO (h:Host)(l:List Bare):Bool:=pc (zbz h/\l=zcc h)
@[simp] abbrev zxM (_:Host)(_:List Bare):Bool:=true
def zwm:Run:=rF2 dH (dS .bare) fun b c=>(zsO b c,[aB (zxM b c)])
def zzU (N:Nat)(a0:Host)(a1:lR):OA:=
 (cond (ine (ln a1) (ln a0.Mons)) oF (iter (σ:=(Int×(lR×(lM×(lN×(lE×(lE×Unit))))))) N (fun r3 s4=>let y1:=(ix s4.2.1 s4.1 zKt);let y0:=(⟨s4.2.2.1,s4.2.2.2.1,s4.2.2.2.2.1,s4.2.2.2.2.2.1⟩:Host); (cond (ilt s4.1 (ln s4.2.1)) (oN (zrq y0 s4.1) (oN (inb s4.1 (ln s4.2.1)) (oN (zsR (zmc y0 s4.1) y1) (cond (nB (zrp (zmc y0 s4.1) y1)) oF (r3 ((zG .i64 s4.1 1),(s4.2.1,(s4.2.2.1,(s4.2.2.2.1,(s4.2.2.2.2.1,(s4.2.2.2.2.2.1,()))))))))))) oT)) (0,(a1,(a0.Memory,(a0.Mons,(a0.Buffer,(a0.IoBuffer,()))))))))
def zMT:FuncId->Nat->Option Tmpl:=zo [(32,0,{ n:=27,tm:=[(1,.sl 0 []),(2,.lp 0 0),(5,ti)],lo:=[(0,[.sl 1 [],.sl 2 [],.sl 3 [],.sl 4 []])],ro:=[(0,.bare,false),(1,(.sl .int),false),(2,.mon,false),(3,.entry,false),(4,.entry,false)] })]
theorem zLZ (a0:Host)(a1:List Bare)(hc:zsO a0 a1=true):∃N,zzU N a0 a1=some [aB (zxM a0 a1)]:=by
 obtain ⟨hs,he⟩:=zD.1 hc;have hl:a1.length<=big:=by rw[he,zf3];exact (zcb ((zJ a0).1 hs).2.1.1).1
 refine zbP fun N hNN=>?_;unfold zzU oN nB
 conv=>zeta
 rw[show ine (ln a1) (ln a0.Mons)=false by unfold ln;rw[he,zf3];exact zbR _]
 refine zcT rfl ?_;refine (zbc a1 (fun i (t:Unit)=>((i:Int),a1,a0.Memory,a0.Mons,a0.Buffer,a0.IoBuffer,())) _ (fun i (x:Bare) (_:Unit) κ=>κ ()) (fun (t:Unit)=>(some [(.one (.b true))])) (fun i hi t rec=>?_) (fun t rec=>?_) _ () (hNN hl)).trans ?_
 .simp only [zbf hi,zN hi,zba hi,zT hi hl,cT];have e:zmc a0 (i:Int)=a1[i]:=by simp[he,zcc]
  refine must (zbs hs) ?_;rw[e];exact must (zW rfl) rfl
 .simp only [zbd,cF]
 rw[zVM]
theorem zFZ:vB 32 zwm:=kF2 zQ3 zV zl zn zMT zLZ
def z6U:zO:=[(32,zwm)]++z3I
theorem z1e:zF z6U:=zh zFZ zQ3
@[simp] abbrev znP (a b:Host):Bool:=pc (zbz a/\zbz b/\zcc a=zcc b)
@[simp] abbrev zxS (_ _:Host):Bool:=true
def zwt:Run:=rF2 dH dH fun b c=>(znP b c,[aB (zxS b c)])
def zzZ (N:Nat)(a0 a1:Host):OA:=
 (oN (zqL a1) (oN (zsO a0 (zpl a1)) (some [(aB (zxM a0 (zpl a1)))])))
theorem zL5 (a0 a1:Host)(hc:znP a0 a1=true):∃N,zzZ N a0 a1=some [aB (zxS a0 a1)]:=by
 obtain ⟨h1,h2,h3⟩:=zD.1 hc;refine ⟨0,?_⟩;unfold zzZ oN;exact must (zbs h2) (must (zbs ⟨h1,h3.symm⟩) rfl)
theorem zF5:vB 12 zwt:=kF2 z1e zV zl zn (zo []) zL5
def zgP (f:Nat->Nat):Nat->Nat
 | 0=>0
 | n+1=>zgP f n+f n
theorem zGL (f g:Nat->Nat):∀n,zgP (fun q=>f q+g q) n=zgP f n+zgP g n
 | 0=>rfl
 | n+1=>by simp only[zgP,zGL f g n];omega
theorem zJ6 {f g:Nat->Nat}:∀n,(∀q,q<n->f q=g q)->zgP f n=zgP g n
 | 0,_=>rfl
 | n+1,h=>by simp only[zgP,zJ6 n (fun q hq=>h q (by omega)),h n (by omega)]
theorem zB8:∀n,zgP (fun _=>0) n=0
 | 0=>rfl
 | n+1=>by simp only[zgP,zB8 n]
theorem zTr (p:Int):∀n:Nat,zgP (fun q=>if p=(q:Int) then 1 else 0) n=if 0<=p/\p<n then 1 else 0
 | 0=>by rw[if_neg (by omega)];rfl
 | n+1=>by
  simp only[zgP,zTr p n]
  by_cases h1:p=n
  .rw [if_neg (by omega),if_pos h1,if_pos (by omega)]
  .rw [if_neg h1]
   by_cases h2:0<=p/\p<n
   .rw [if_pos h2,if_pos (by omega)]
   .rw [if_neg h2,if_neg (by omega)]
theorem zJ7:∀(o:List Slot),(∀s∈o,SOk s)->zgP (fun q=>o.countP fun s=>ieq s.Page (q:Int)) 12=o.countP fun s=>ine s.Page (-1)
 | [],_=>zB8 12
 | s :: o,h=>by
  have ih:=zJ7 o fun x hx=>h x (qY _ hx);have e:(fun q:Nat=>(s :: o).countP fun s=>ieq s.Page (q:Int))=fun q:Nat=>(o.countP fun s=>ieq s.Page (q:Int))+if s.Page=(q:Int) then 1 else 0:=funext fun q=>zrU o s _
  rw[e,zGL,ih,zTr,uS]
  congr 1
  have hs:=h s jP
  by_cases hp:s.Page = -1
  .rw [if_neg (by omega),hp];rfl
  .have:=hs.pos hp;rw[if_pos (by omega),if_pos (zos.2 hp)]
def zd7 (l:List Mon):Nat:=(l.map fun x=>x.Outer.countP fun s=>ine s.Page (-1)).sum
theorem zTq:∀(l:List Mon),(∀x∈l,∀s∈x.Outer,SOk s)->zgP (fun q=>zdH l (q:Int)) 12=zd7 l
 | [],_=>zB8 12
 | x :: l,h=>by
  have ih:=zTq l fun y hy=>h y (qY _ hy);have e:(fun q:Nat=>zdH (x :: l) (q:Int))=fun q:Nat=>(x.Outer.countP fun s=>ieq s.Page (q:Int))+zdH l (q:Int):=rfl;rw[e,zGL,ih,zJ7 _ (h x jP)];rfl
theorem zNX (P:Nat->Bool):∀n i,(zor P n i).length+zgP (fun q=>if P (i+q) then 0 else 1) n=n
 | 0,i=>rfl
 | n+1,i=>by
  have ih:=zNX P n (i+1);have e:zgP (fun q=>if P (i+q) then 0 else 1) (n+1)=(if P i then 0 else 1)+zgP (fun q=>if P (i+1+q) then 0 else 1) n:=by
   clear ih
   induction n with
   | zero=>simp[zgP]
   | succ n ih =>
    rw[zgP,ih]
    conv=>rhs;rw[zgP]
    rw[show i+(n+1)=i+1+n by omega]
    omega
  rw[e,zor];cases hp:P i with
  | true=>rw[cond_true,qU];simp;omega
  | false=>rw[cond_false];simp;omega
theorem zr2 {h:Host}(H:HOk h):(zby h).length+zd7 h.Mons=12:=by
 have h1:=zNX (fun i=>ilt (zbo h (i:Int)).1 0) h.Memory.length 0;rw[H.m12]at h1;have h2:zgP (fun q=>if ilt (zbo h ((0+q:Nat):Int)).1 0=true then 0 else 1) 12=zgP (fun q=>zdH h.Mons (q:Int)) 12:=by
  refine zJ6 12 fun q _=>?_;have h3:=zsl (h:=h) (q:=(q:Int)) (by omega)
  have h4:=H.uq (q:Int) (by omega)
  rw[jW]
  by_cases hc:(zbo h (q:Int)).1<0
  .rw [if_pos (show ilt (zbo h (q:Int)).1 0=true from qI hc),h3.1 hc]
  .rw [if_neg (by rw[ilt,qW];exact hc)]
   have:zdH h.Mons (q:Int)≠0:=fun e=>hc (h3.2 e);omega
 rw[h2,zTq _ (fun x hx=>(H.mons x hx).sl)]at h1;unfold zby;rw[H.m12];exact h1
theorem zWi {α:Type}(f:α->Nat)(d x:α):∀(l:List α) (k:Nat),k<l.length->((l.set k x).map f).sum+f (l.getD k d)=(l.map f).sum+f x
 | [],k,h=>absurd h (Nat.not_lt_zero k)
 | y :: l,0,_=>by simp;omega
 | y :: l,k+1,h=>by
  have:=zWi f d x l k (by simpa using h)
  simp only[u0,q0,kW,List.getD_cons_succ];omega
def zCK (x:Mon):Nat:=x.Outer.countP fun s=>ine s.Page (-1)
theorem zYe {l:List Mon}{m:Int}(h:hasB m (ln l)=true)(x:Mon):zd7 (up l m x)+zCK (ix l m mZ)=zd7 l+zCK x:=by
 have h':=zu.1 h;unfold ln at h';exact zWi zCK mZ x l m.toNat (by omega)
theorem z0w {x x':Mon}{p:Int}{s:Slot}(ho:x'.Outer=up x.Outer p s)(hp:hasB p (ln x.Outer)=true):zCK x'+(if ine (ix x.Outer p sZ).Page (-1)=true then 1 else 0)=zCK x+(if ine s.Page (-1)=true then 1 else 0):=by
 unfold zCK;rw[ho];exact zAg (fun s:Slot=>ine s.Page (-1)) hp s sZ
theorem zWo {h:Host}{r:List Mon}{m p:Int}{x:Mon}{s:Slot}(H:HOk h)(hm:hasB m (ln h.Mons)=true)(hp:hasB p 8=true)(hM:r=up h.Mons m x)(ho:x.Outer=up (ix h.Mons m mZ).Outer p s) :
 zd7 r+(if ine (ix (ix h.Mons m mZ).Outer p sZ).Page (-1)=true then 1 else 0)=zd7 h.Mons+(if ine s.Page (-1)=true then 1 else 0):=by
 have h1:=zYe hm x;have h2:=z0w ho ((H.mon hm).hasO hp);rw[hM];omega
theorem zOn {h:Host}(H:HOk h){m p:Int}(hm:hasB m (ln h.Mons)=true)(hp:hasB p 8=true)(hn:(ix (ix h.Mons m mZ).Outer p sZ).Page≠-1):zd7 (zcO h m p).Mons+1=zd7 h.Mons:=by
 have e:=zWo (s:=noSlot) (x:=zhm { ix h.Mons m mZ with Out:=up (ix h.Mons m mZ).Out p (zb5 h.Memory (ix (ix h.Mons m mZ).Outer p sZ).Page) } p noSlot) H hm hp (ziI (h1:=zd2 h m p) (p:=p) (s:=noSlot) hm rfl) rfl;rw[if_pos (zos.2 hn),if_neg (by decide)] at e
 exact e
theorem zQE {h:Host}(H:HOk h){m p to:Int}(hm:hasB m (ln h.Mons)=true)(hp:hasB p 8=true)(hn:(ix (ix h.Mons m mZ).Outer p sZ).Page = -1):zd7 (zdZ h m p to).Mons<=zd7 h.Mons+1:=by
 have e:=zWo (s:=⟨to,3⟩) (x:=zhm { ix h.Mons m mZ with Out:=up (ix h.Mons m mZ).Out p [] } p ⟨to,3⟩) H hm hp (ziI (h1:=landing h m p to) (p:=p) (s:=⟨to,3⟩) hm rfl) rfl;have:(if ine (⟨to,3⟩:Slot).Page (-1)=true then 1 else 0)<=1:=by split<;>omega
 show zd7 (zbQ (landing h m p to) m p ⟨to,3⟩).Mons<=_
 omega
theorem zUT {h:Host}(H:HOk h):zd7 (zcS h).Mons<=zd7 h.Mons:=by
 unfold zcS;cases hf:ieq (ln (zby h)) 0 with
 | false=>exact qX _
 | true =>
  rw[cond_true];have hn:¬ (zbo h 0).1<0:=fun hc=>by
   have:(0:Int)∈zby h:=zxc.2 ⟨zu.2 (by unfold ln;rw[H.m12];omega),(zsl (by omega)).1 hc⟩
   have h2:=List.length_pos_of_mem this;have h3:=zbg.1 hf;unfold ln at h3;omega
  obtain ⟨h1,h2,h3⟩:=zSO H (by omega) hn
  have:=zOn H h1 h2 (by rw[h3];decide)
  omega
theorem zQ9 {h:Host}(H:HOk h){m p:Int}(hm:hasB m (ln h.Mons)=true)(hp:hasB p 8=true)(hn:(ix (ix h.Mons m mZ).Outer p sZ).Page = -1):zd7 (fetched h m p).Mons<=zd7 h.Mons+1:=by
 have R:=roomy H;have hm1:hasB m (ln (zcS h).Mons)=true:=by rw[R.op.like.has];exact hm
 have hn1:(ix (ix (zcS h).Mons m mZ).Outer p sZ).Page = -1:=by
  rcases R.sl m p hm hp with h1|h1<;>rw [h1]
  .exact hn
  .rfl
 have h1:=zQE (to:=ix (zby (zcS h)) 0 0) R.op.ok hm1 hp hn1;have h2:=zUT H
 show zd7 (zdZ (zcS h) m p (ix (zby (zcS h)) 0 0)).Mons<=_
 omega
theorem ztH {h:Host}{m p:Int}:zfn h m p=ieq (ix (ix h.Mons m mZ).Outer p sZ).Page (-1):=rfl
theorem z6B {h:Host}(S:Safe h){m p:Int}(hm:hasB m (ln h.Mons)=true)(hp:hasB p 8=true)(hn:(ix (ix h.Mons m mZ).Outer p sZ).Page≠-1) :
 Safe (zbL h m p)/\zcc (zbL h m p)=zcc h/\(zbL h m p).Mons.length=h.Mons.length/\ze8 h m p=true/\ze8 (zbL h m p) m p=false/\zbL (zbL h m p) m p=zbL h m p/\((zby (zbL h m p)).length=(zby h).length+1):=by
 have H:=S.ok;have hh:zbC h m p=true:=zgF.2 ⟨H,hm,hp⟩;have e1:zbL h m p=zcO h m p:=by unfold zbL;rw[hh,cond_true,ztH,zbF.2 hn,cond_false]
 have k:=zJz H m p;have k2:=zOm H hm hp;have hm2:hasB m (ln (zbL h m p).Mons)=true:=by rw[k.like.has];exact hm
 have hh2:zbC (zbL h m p) m p=true:=zgF.2 ⟨k.ok,hm2,hp⟩;have ho2:zfn (zbL h m p) m p=true:=by rw[ztH,e1,k2.2];rfl
 refine ⟨k.safe S,zwQ k.like.len fun i=>k.like.seen i,k.like.len,?_,?_,?_,?_⟩
 .unfold ze8;rw[hh,cond_true,ztH,zbF.2 hn];rfl
 .unfold ze8;rw[hh2,cond_true,ho2];rfl
 .have gen:∀r:Host,zbC r m p=true->zfn r m p=true->zbL r m p=r:=fun r a b=>by unfold zbL;rw[a,cond_true,b,cond_true]
  exact gen _ hh2 ho2
 .have f1:=zr2 H;have f2:=zr2 k.ok;have f3:=zOn H hm hp hn;rw[e1] at f2 ⊢;omega
theorem z6u {h:Host}(S:Safe h){m p:Int}(hm:hasB m (ln h.Mons)=true)(hp:hasB p 8=true) :
 ze8 (zcH h m p) m p=true/\ze8 (zbL (zcH h m p) m p) m p=false/\zbL (zbL (zcH h m p) m p) m p=zbL (zcH h m p) m p /\
 (zfe h m p=true->(zby h).length<=(zby (zbL (zcH h m p) m p)).length)/\(zfe h m p=false->(zby (zbL (zcH h m p) m p)).length=(zby h).length+1) /\
 zcc (zbL (zcH h m p) m p)=zcc h/\Safe (zbL (zcH h m p) m p)/\Safe (zcH h m p)/\(zcH h m p).Mons.length=h.Mons.length:=by
 have H:=S.ok;have hh:zbC h m p=true:=zgF.2 ⟨H,hm,hp⟩;have k:=zN8 H m p;have Sx:=k.safe S;have hmx:hasB m (ln (zcH h m p).Mons)=true:=by rw[k.like.has];exact hm
 have hin:(ix (ix (zcH h m p).Mons m mZ).Outer p sZ).Page≠-1/\(zfe h m p=true->zd7 (zcH h m p).Mons<=zd7 h.Mons+1)/\(zfe h m p=false->zcH h m p=h):=by
  unfold zcH zfe;rw[hh,cond_true,cond_true,ztH]
  by_cases e:(ix (ix h.Mons m mZ).Outer p sZ).Page = -1
  .rw [zbg.2 e,cond_true];obtain ⟨k1,⟨to,t1,t2,t3⟩,_⟩:=zxB H hm hp e;refine ⟨by rw[t3];show to≠-1;omega,fun _=>zQ9 H hm hp e,fun h=>Bool.noConfusion h⟩
  .rw [zbF.2 e,cond_false];exact ⟨e,fun h=>Bool.noConfusion h,fun _=>rfl⟩
 obtain ⟨o1,o2,o3,o4,o5,o6,o7⟩:=z6B Sx hmx hp hin.1;have f1:=zr2 H;have f2:=zr2 k.ok;refine ⟨o4,o5,o6,fun e=>?_,fun e=>?_,o2.trans (zwQ k.like.len fun i=>k.like.seen i),o1,Sx,k.like.len⟩
 .have:=hin.2.1 e;omega
 .rw [o7,hin.2.2 e]
def zfy (x y:List Int):Bool:=pc (x=y)
def zfY (_ _:List Int):Bool:=true
def zwa:Run:=rF2 (dS .int) (dS .int) fun b c=>(zfy b c,[aB (zfY b c)])
def zzH (N:Nat)(a0 a1:List Int):OA:=
 (cond (ine (ln a0) (ln a1)) oF (iter (σ:=(Int×((List Int)×((List Int)×Unit)))) N (fun r3 s4=>(cond (ilt s4.1 (ln s4.2.1)) (oN (inb s4.1 (ln s4.2.1)) (oN (inb s4.1 (ln s4.2.2.1)) (cond (ine (ix s4.2.1 s4.1 0) (ix s4.2.2.1 s4.1 0)) oF (r3 ((zG .i64 s4.1 1),(s4.2.1,(s4.2.2.1,()))))))) oT)) (0,(a0,(a1,())))))
def zMN:FuncId->Nat->Option Tmpl:=zo [(51,0,{ n:=26,tm:=[(0,.sl 0 []),(1,.sl 1 []),(5,ti)],lo:=[],ro:=[(0,.int,false),(1,.int,false)] })]
theorem zLL (a0 a1:List Int)(hb:zbG big [aS .int a0,aS .int a1])(hc:zfy a0 a1=true):∃N,zzH N a0 a1=some [aB (zfY a0 a1)]:=by
 have:=zD.1 hc;subst this;have hl:=(len0 hb);refine ⟨a0.length+1,?_⟩;unfold zzH oN;rw[zbR];refine zgk a0 z7s _ _ hl (fun i hi rec=>?_) (fun rec=>?_) (jO _)
 .simp only [zbf hi,zN hi,zba hi,ziy,zbR,zcC,zcY,cT,cF,jG,jL]
 .simp only [zbd,cF,zfY]
theorem zFM:vB 51 zwa:=hF2 zdz zV zl zn zMN zLL
def zgS (x y:List Bool):Bool:=pc (x=y)
def zhv (_ _:List Bool):Bool:=true
def ztP:Run:=rF2 (dS .bool) (dS .bool) fun b c=>(zgS b c,[aB (zhv b c)])
def zyd (N:Nat)(a0 a1:lB):OA:=
 (cond (ine (ln a0) (ln a1)) oF (iter (σ:=(Int×(lB×(lB×Unit)))) N (fun r3 s4=>(cond (ilt s4.1 (ln s4.2.1)) (oN (inb s4.1 (ln s4.2.1)) (oN (inb s4.1 (ln s4.2.2.1)) (cond (nB (zjm (ix s4.2.1 s4.1 false) (ix s4.2.2.1 s4.1 false))) oF (r3 ((zG .i64 s4.1 1),(s4.2.1,(s4.2.2.1,()))))))) oT)) (0,(a0,(a1,())))))
def zKg:FuncId->Nat->Option Tmpl:=zo [(79,0,{ n:=26,tm:=[(0,.sl 0 []),(1,.sl 1 []),(5,ti)],lo:=[],ro:=[(0,.bool,false),(1,.bool,false)] })]
theorem zI8 (a0 a1:List Bool)(hb:zbG big [aS .bool a0,aS .bool a1])(hc:zgS a0 a1=true):∃N,zyd N a0 a1=some [aB (zhv a0 a1)]:=by
 have:=zD.1 hc;subst this;have hl:=(len0 hb);refine ⟨a0.length+1,?_⟩;unfold zyd oN nB;rw[zbR];refine zgk a0 z6N _ _ hl (fun i hi rec=>?_) (fun rec=>?_) (jO _)
 .simp only [zbf hi,zN hi,zba hi,ziy,zbR,zcC,zcY,cT,cF,jG,jL]
 .simp only [zbd,cF,zhv]
theorem zCU:vB 79 ztP:=hF2 zdz zV zl zn zKg zI8
def zeg (x y:List Slot):Bool:=pc (x=y)
def zez (_ _:List Slot):Bool:=true
def ztT:Run:=rF2 (dS .slot) (dS .slot) fun b c=>(zeg b c,[aB (zez b c)])
def zyh (N:Nat)(a0 a1:lS):OA:=
 (cond (ine (ln a0) (ln a1)) oF (iter (σ:=(Int×(lS×(lS×Unit)))) N (fun r3 s4=>let y1:=(ix s4.2.1 s4.1 zK);let y0:=(ix s4.2.2.1 s4.1 zK); (cond (ilt s4.1 (ln s4.2.1)) (oN (inb s4.1 (ln s4.2.1)) (oN (inb s4.1 (ln s4.2.2.1)) (cond (nB (cond (ieq y1.Page y0.Page) (ieq y1.Rights y0.Rights) false)) oF (r3 ((zG .i64 s4.1 1),(s4.2.1,(s4.2.2.1,()))))))) oT)) (0,(a0,(a1,())))))
def zKj:FuncId->Nat->Option Tmpl:=zo [(78,0,{ n:=26,tm:=[(0,.sl 0 []),(1,.sl 1 []),(5,ti)],lo:=[],ro:=[(0,.slot,false),(1,.slot,false)] })]
theorem zJc (a0 a1:List Slot)(hb:zbG big [aS .slot a0,aS .slot a1])(hc:zeg a0 a1=true):∃N,zyh N a0 a1=some [aB (zez a0 a1)]:=by
 have:=zD.1 hc;subst this;have hl:=(len0 hb);refine ⟨a0.length+1,?_⟩;unfold zyh oN nB
 conv=>zeta
 rw[zbR];refine zgk a0 zK _ _ hl (fun i hi rec=>?_) (fun rec=>?_) (jO _)
 .simp only [zbf hi,zN hi,zba hi,ziy,zbR,zcC,zcY,cT,cF,jG,jL]
 .simp only [zbd,cF,zez]
theorem zCY:vB 78 ztT:=hF2 zdz zV zl zn zKj zJc
def zhS (x y:List Entry):Bool:=pc (x=y)
def zhR (_ _:List Entry):Bool:=true
def zsu:Run:=rF2 (dS .entry) (dS .entry) fun b c=>(zhS b c,[aB (zhR b c)])
def zvl (N:Nat)(a0 a1:lE):OA:=
 (cond (ine (ln a0) (ln a1)) oF (iter (σ:=(Int×(lE×(lE×Unit)))) N (fun r3 s4=>let y1:=(ix s4.2.1 s4.1 zev);let y0:=(ix s4.2.2.1 s4.1 zev); (cond (ilt s4.1 (ln s4.2.1)) (oN (inb s4.1 (ln s4.2.1)) (oN (inb s4.1 (ln s4.2.2.1)) (cond (nB (cond (ieq y1.Tag y0.Tag) (cond (ieq y1.Page y0.Page) (cond (ieq y1.Host y0.Host) (ieq y1.Rights y0.Rights) false) false) false)) oF (r3 ((zG .i64 s4.1 1),(s4.2.1,(s4.2.2.1,()))))))) oT)) (0,(a0,(a1,())))))
def zGP:FuncId->Nat->Option Tmpl:=zo [(26,0,{ n:=26,tm:=[(0,.sl 0 []),(1,.sl 1 []),(5,ti)],lo:=[],ro:=[(0,.entry,false),(1,.entry,false)] })]
theorem zGk (a0 a1:List Entry)(hb:zbG big [aS .entry a0,aS .entry a1])(hc:zhS a0 a1=true):∃N,zvl N a0 a1=some [aB (zhR a0 a1)]:=by
 have:=zD.1 hc;subst this;have hl:=(len0 hb);refine ⟨a0.length+1,?_⟩;unfold zvl oN nB
 conv=>zeta
 rw[zbR];refine zgk a0 zev _ _ hl (fun i hi rec=>?_) (fun rec=>?_) (jO _)
 .simp only [zbf hi,zN hi,zba hi,ziy,zbR,zcC,zcY,cT,cF,jG,jL]
 .simp only [zbd,cF,zhR]
theorem zAA:vB 26 zsu:=hF2 zdz zV zl zn zGP zGk
def zm7 (x y:List Ins):Bool:=pc (x=y)
def zm6 (_ _:List Ins):Bool:=true
def zv9:Run:=rF2 (dS .ins) (dS .ins) fun b c=>(zm7 b c,[aB (zm6 b c)])
def zzG (N:Nat)(a0 a1:lI):OA:=
 (cond (ine (ln a0) (ln a1)) oF (iter (σ:=(Int×(lI×(lI×Unit)))) N (fun r3 s4=>let y1:=(ix s4.2.1 s4.1 zn3);let y0:=(ix s4.2.2.1 s4.1 zn3); (cond (ilt s4.1 (ln s4.2.1)) (oN (inb s4.1 (ln s4.2.1)) (oN (inb s4.1 (ln s4.2.2.1)) (cond (nB (cond (ieq y1.Op y0.Op) (ieq y1.X y0.X) false)) oF (r3 ((zG .i64 s4.1 1),(s4.2.1,(s4.2.2.1,()))))))) oT)) (0,(a0,(a1,())))))
def zMM:FuncId->Nat->Option Tmpl:=zo [(166,0,{ n:=26,tm:=[(0,.sl 0 []),(1,.sl 1 []),(5,ti)],lo:=[],ro:=[(0,.ins,false),(1,.ins,false)] })]
theorem zLK (a0 a1:List Ins)(hb:zbG big [aS .ins a0,aS .ins a1])(hc:zm7 a0 a1=true):∃N,zzG N a0 a1=some [aB (zm6 a0 a1)]:=by
 have:=zD.1 hc;subst this;have hl:=(len0 hb);refine ⟨a0.length+1,?_⟩;unfold zzG oN nB
 conv=>zeta
 rw[zbR];refine zgk a0 zn3 _ _ hl (fun i hi rec=>?_) (fun rec=>?_) (jO _)
 .simp only [zbf hi,zN hi,zba hi,ziy,zbR,zcC,zcY,cT,cF,jG,jL]
 .simp only [zbd,cF,zm6]
theorem zFL:vB 166 zv9:=hF2 zdz zV zl zn zMM zLK
def zYW:zO:=[(51,zwa),(79,ztP),(78,ztT),(26,zsu),(166,zv9)]++zlV
theorem zto:zF zYW:=zh zFM (zh zCU (zh zCY (zh zAA (zh zFL zdz))))
def zgT (x y:List (List Int)):Bool:=pc (x=y)
def zhw (_ _:List (List Int)):Bool:=true
def ztS:Run:=rF2 (dS (.sl .int)) (dS (.sl .int)) fun b c=>(zgT b c,[aB (zhw b c)])
def zyg (N:Nat)(a0:lM)(a1:lM):OA:=
 (cond (ine (ln a0) (ln a1)) oF (iter (σ:=(Int×(lM×(lM×Unit)))) N (fun r3 s4=>(cond (ilt s4.1 (ln s4.2.1)) (oN (inb s4.1 (ln s4.2.1)) (oN (inb s4.1 (ln s4.2.2.1)) (oN (zfy (ix s4.2.1 s4.1 []) (ix s4.2.2.1 s4.1 [])) (cond (nB (zfY (ix s4.2.1 s4.1 []) (ix s4.2.2.1 s4.1 []))) oF (r3 ((zG .i64 s4.1 1),(s4.2.1,(s4.2.2.1,())))))))) oT)) (0,(a0,(a1,())))))
def zKi:FuncId->Nat->Option Tmpl:=zo [(24,0,{ n:=27,tm:=[(0,.sl 0 []),(1,.sl 1 []),(5,ti)],lo:=[],ro:=[(0,(.sl .int),false),(1,(.sl .int),false)] })]
theorem zJb (a0:List (List Int))(a1:List (List Int))(hb:zbG big [aS (.sl .int) a0,aS (.sl .int) a1])(hc:zgT a0 a1=true):∃N,zyg N a0 a1=some [aB (zhw a0 a1)]:=by
 have:=zD.1 hc;subst this;have hl:=(len0 hb);refine ⟨a0.length+1,?_⟩;unfold zyg oN nB;rw[zbR];refine zgk a0 (Ty.dflt (.sl .int)) _ _ hl (fun i hi rec=>?_) (fun rec=>?_) (jO _)
 .simp only [zbf hi,zN hi,zba hi,zfy,zfY,ziy,zbR,zcC,zcY,cT,cF,jG,jL]
 .simp only [zbd,cF,zhw]
theorem zCX:vB 24 ztS:=hF2 zto zV zl zn zKi zJb
def zm9 (x y:Kept):Bool:=pc (x=y)
def zm8 (_ _:Kept):Bool:=true
def zwb:Run:=rF2 (dT .kept) (dT .kept) fun b c=>(zm9 b c,[aB (zm8 b c)])
def zzI (N:Nat)(a0 a1:Kept):OA:=
 (oN (zgS a0.Known a1.Known) (cond (zhv a0.Known a1.Known) (oN (zeg a0.Slots a1.Slots) (some [(aB (zez a0.Slots a1.Slots))])) oF))
theorem zLM (a0 a1:Kept)(hc:zm9 a0 a1=true):∃N,zzI N a0 a1=some [aB (zm8 a0 a1)]:=by
 have:=zD.1 hc;subst this;refine ⟨0,?_⟩;simp only[zzI,zgS,zhv,zeg,zez,ziy,zbR,zcC,zcY,cT,cF,jG,jL,zm8]
theorem zFN:vB 119 zwb:=kF2 zto zV zl zn (zo []) zLM
def zlI (x y:Guest):Bool:=pc (x=y)
def zlj (_ _:Guest):Bool:=true
def ztQ:Run:=rF2 (dT .guest) (dT .guest) fun b c=>(zlI b c,[aB (zlj b c)])
def zye (N:Nat)(a0 a1:Guest):OA:=
 (oN (zm7 a0.Prog a1.Prog) (cond (zm6 a0.Prog a1.Prog) (cond (ieq a0.A a1.A) (cond (ieq a0.Pc a1.Pc) (oN (zeg a0.Written a1.Written) (cond (zez a0.Written a1.Written) (oN (zeg a0.Live a1.Live) (cond (zez a0.Live a1.Live) (cond (cond (ieq a0.Ctl.Traps a1.Ctl.Traps) (cond (ieq a0.Ctl.Post a1.Ctl.Post) (zjm a0.Ctl.Open a1.Ctl.Open) false) false) (cond (ieq a0.Pending a1.Pending) (cond (cond (ieq a0.Exit.Kind a1.Exit.Kind) (cond (ieq a0.Exit.Page a1.Exit.Page) (cond (zjm a0.Exit.Write a1.Exit.Write) (ieq a0.Exit.N a1.Exit.N) false) false) false) (cond (zjm a0.Halted a1.Halted) (oN (zfy a0.Seen a1.Seen) (some [(aB (zfY a0.Seen a1.Seen))])) oF) oF) oF) oF) oF)) oF)) oF) oF) oF))
theorem zI9 (a0 a1:Guest)(hc:zlI a0 a1=true):∃N,zye N a0 a1=some [aB (zlj a0 a1)]:=by
 have:=zD.1 hc;subst this;refine ⟨0,?_⟩;simp only[zye,zm7,zm6,zeg,zez,zfy,zfY,ziy,zbR,zcC,zcY,cT,cF,jG,jL,zlj]
theorem zCV:vB 118 ztQ:=kF2 zto zV zl zn (zo []) zI9
def zYX:zO:=[(24,ztS),(119,zwb),(118,ztQ)]++zYW
theorem zAn:zF zYX:=zh zCX (zh zFN (zh zCV zto))
def zlJ (x y:List Kept):Bool:=pc (x=y)
def zlk (_ _:List Kept):Bool:=true
def ztR:Run:=rF2 (dS .kept) (dS .kept) fun b c=>(zlJ b c,[aB (zlk b c)])
def zyf (N:Nat)(a0 a1:lK):OA:=
 (cond (ine (ln a0) (ln a1)) oF (iter (σ:=(Int×(lK×(lK×Unit)))) N (fun r3 s4=>let y1:=(ix s4.2.1 s4.1 zef);let y0:=(ix s4.2.2.1 s4.1 zef); (cond (ilt s4.1 (ln s4.2.1)) (oN (inb s4.1 (ln s4.2.1)) (oN (inb s4.1 (ln s4.2.2.1)) (oN (zm9 y1 y0) (cond (nB (zm8 y1 y0)) oF (r3 ((zG .i64 s4.1 1),(s4.2.1,(s4.2.2.1,())))))))) oT)) (0,(a0,(a1,())))))
def zKh:FuncId->Nat->Option Tmpl:=zo [(81,0,{ n:=27,tm:=[(0,.sl 0 []),(1,.sl 1 []),(5,ti)],lo:=[],ro:=[(0,.kept,false),(1,.kept,false)] })]
theorem zJa (a0 a1:List Kept)(hb:zbG big [aS .kept a0,aS .kept a1])(hc:zlJ a0 a1=true):∃N,zyf N a0 a1=some [aB (zlk a0 a1)]:=by
 have:=zD.1 hc;subst this;have hl:=(len0 hb);refine ⟨a0.length+1,?_⟩;unfold zyf oN nB
 conv=>zeta
 rw[zbR];refine zgk a0 zef _ _ hl (fun i hi rec=>?_) (fun rec=>?_) (jO _)
 .simp only [zbf hi,zN hi,zba hi,zm9,zm8,ziy,zbR,zcC,zcY,cT,cF,jG,jL]
 .simp only [zbd,cF,zlk]
theorem zCW:vB 81 ztR:=hF2 zAn zV zl zn zKh zJa
def zkx (x y:List Guest):Bool:=pc (x=y)
def zjO (_ _:List Guest):Bool:=true
def zsv:Run:=rF2 (dS .guest) (dS .guest) fun b c=>(zkx b c,[aB (zjO b c)])
def zvm (N:Nat)(a0 a1:lG):OA:=
 (cond (ine (ln a0) (ln a1)) oF (iter (σ:=(Int×(lG×(lG×Unit)))) N (fun r3 s4=>let y1:=(ix s4.2.1 s4.1 zx);let y0:=(ix s4.2.2.1 s4.1 zx); (cond (ilt s4.1 (ln s4.2.1)) (oN (inb s4.1 (ln s4.2.1)) (oN (inb s4.1 (ln s4.2.2.1)) (oN (zlI y1 y0) (cond (nB (zlj y1 y0)) oF (r3 ((zG .i64 s4.1 1),(s4.2.1,(s4.2.2.1,())))))))) oT)) (0,(a0,(a1,())))))
def zGQ:FuncId->Nat->Option Tmpl:=zo [(80,0,{ n:=27,tm:=[(0,.sl 0 []),(1,.sl 1 []),(5,ti)],lo:=[],ro:=[(0,.guest,false),(1,.guest,false)] })]
theorem zGl (a0 a1:List Guest)(hb:zbG big [aS .guest a0,aS .guest a1])(hc:zkx a0 a1=true):∃N,zvm N a0 a1=some [aB (zjO a0 a1)]:=by
 have:=zD.1 hc;subst this;have hl:=(len0 hb);refine ⟨a0.length+1,?_⟩;unfold zvm oN nB
 conv=>zeta
 rw[zbR];refine zgk a0 zx _ _ hl (fun i hi rec=>?_) (fun rec=>?_) (jO _)
 .simp only [zbf hi,zN hi,zba hi,zlI,zlj,ziy,zbR,zcC,zcY,cT,cF,jG,jL]
 .simp only [zbd,cF,zjO]
theorem zAB:vB 80 zsv:=hF2 zAn zV zl zn zGQ zGl
def zYY:zO:=[(81,ztR),(80,zsv)]++zYX
theorem zNI:zF zYY:=zh zCW (zh zAB zAn)
def zpa (x y:Mon):Bool:=pc (x=y)
def zp5 (_ _:Mon):Bool:=true
def zyG:Run:=rF2 (dT .mon) (dT .mon) fun b c=>(zpa b c,[aB (zp5 b c)])
def zDM (N:Nat)(a0 a1:Mon):OA:=
 (oN (zeg a0.Outer a1.Outer) (cond (zez a0.Outer a1.Outer) (oN (zgT a0.Out a1.Out) (cond (zhw a0.Out a1.Out) (oN (zgS a0.Dirty a1.Dirty) (cond (zhv a0.Dirty a1.Dirty) (oN (zkx a0.Guests a1.Guests) (cond (zjO a0.Guests a1.Guests) (oN (zfy a0.Outs a1.Outs) (cond (zfY a0.Outs a1.Outs) (cond (ieq a0.Pending a1.Pending) (cond (ieq a0.Traps a1.Traps) (oN (zlJ a0.Tables a1.Tables) (cond (zlk a0.Tables a1.Tables) (some [(aB (ieq a0.Own a1.Own))]) oF)) oF) oF) oF)) oF)) oF)) oF)) oF))
theorem zO8 (a0 a1:Mon)(hc:zpa a0 a1=true):∃N,zDM N a0 a1=some [aB (zp5 a0 a1)]:=by
 have:=zD.1 hc;subst this;refine ⟨0,?_⟩;simp only[zDM,zeg,zez,zgT,zhw,zgS,zhv,zkx,zjO,zfy,zfY,zlJ,zlk,ziy,zbR,zcC,zcY,cT,cF,jG,jL,zp5]
theorem zIl:vB 52 zyG:=kF2 zNI zV zl zn (zo []) zO8
def zYZ:zO:=[(52,zyG)]++zYY
theorem zNJ:zF zYZ:=zh zIl zNI
def znb (x y:List Mon):Bool:=pc (x=y)
def zna (_ _:List Mon):Bool:=true
def zwc:Run:=rF2 (dS .mon) (dS .mon) fun b c=>(znb b c,[aB (zna b c)])
def zzJ (N:Nat)(a0 a1:lN):OA:=
 (cond (ine (ln a0) (ln a1)) oF (iter (σ:=(Int×(lN×(lN×Unit)))) N (fun r3 s4=>let y1:=(ix s4.2.1 s4.1 zf);let y0:=(ix s4.2.2.1 s4.1 zf); (cond (ilt s4.1 (ln s4.2.1)) (oN (inb s4.1 (ln s4.2.1)) (oN (inb s4.1 (ln s4.2.2.1)) (oN (zpa y1 y0) (cond (nB (zp5 y1 y0)) oF (r3 ((zG .i64 s4.1 1),(s4.2.1,(s4.2.2.1,())))))))) oT)) (0,(a0,(a1,())))))
def zMO:FuncId->Nat->Option Tmpl:=zo [(25,0,{ n:=27,tm:=[(0,.sl 0 []),(1,.sl 1 []),(5,ti)],lo:=[],ro:=[(0,.mon,false),(1,.mon,false)] })]
theorem zLN (a0 a1:List Mon)(hb:zbG big [aS .mon a0,aS .mon a1])(hc:znb a0 a1=true):∃N,zzJ N a0 a1=some [aB (zna a0 a1)]:=by
 have:=zD.1 hc;subst this;have hl:=(len0 hb);refine ⟨a0.length+1,?_⟩;unfold zzJ oN nB
 conv=>zeta
 rw[zbR];refine zgk a0 zf _ _ hl (fun i hi rec=>?_) (fun rec=>?_) (jO _)
 .simp only [zbf hi,zN hi,zba hi,zpa,zp5,ziy,zbR,zcC,zcY,cT,cF,jG,jL]
 .simp only [zbd,cF,zna]
theorem zFO:vB 25 zwc:=hF2 zNJ zV zl zn zMO zLN
def z6i:zO:=[(25,zwc)]++zYZ
theorem zY0:zF z6i:=zh zFO zNJ
def zsi (x y:Host):Bool:=pc (x=y)
def zre (_ _:Host):Bool:=true
def zv8:Run:=rF2 dH dH fun b c=>(zsi b c,[aB (zre b c)])
def zzF (N:Nat)(a0 a1:Host):OA:=
 (oN (zgT a0.Memory a1.Memory) (cond (zhw a0.Memory a1.Memory) (oN (znb a0.Mons a1.Mons) (cond (zna a0.Mons a1.Mons) (oN (zhS a0.Buffer a1.Buffer) (cond (zhR a0.Buffer a1.Buffer) (oN (zhS a0.IoBuffer a1.IoBuffer) (some [(aB (zhR a0.IoBuffer a1.IoBuffer))])) oF)) oF)) oF))
theorem zLJ (a0 a1:Host)(hc:zsi a0 a1=true):∃N,zzF N a0 a1=some [aB (zre a0 a1)]:=by
 have:=zD.1 hc;subst this;refine ⟨0,?_⟩;simp only[zzF,zgT,zhw,znb,zna,zhS,zhR,ziy,zbR,zcC,zcY,cT,cF,jG,jL,zre]
theorem zFK:vB 8 zv8:=kF2 zY0 zV zl zn (zo []) zLJ
def Ends {ρ:Type}(G:ρ->Prop)(o:Option ρ):Prop:=∃a,o=some a/\G a
section
variable {ρ:Type} {G:ρ->Prop}
theorem zbt {c:Bool}{a b:Option ρ}(h:c=true)(k:Ends G a):Ends G (cond c a b):=by rw[h];exact k
theorem zVz {c:Bool}{a b:Option ρ}(h:c=false)(k:Ends G b):Ends G (cond c a b):=by rw[h];exact k
theorem zc7 {c:Bool}{a b:Option ρ}(h1:c=true->Ends G a)(h2:c=false->Ends G b):Ends G (cond c a b):=by
 cases c
 .exact h2 rfl
 .exact h1 rfl
theorem zlX {x:Option ρ}{f:Option ρ->Option ρ}(h:Ends G x)(k:∀t,Ends G t->Ends G (f t)):Ends G (share x f):=k x h
theorem zAp {a:ρ}(h:G a):Ends G (some a):=⟨a,rfl,h⟩
theorem zvA {σ:Type}{F:(σ->Option ρ)->σ->Option ρ}(I:Nat->σ->Prop)(h:∀n s rec,I n s->(∀k s',k<n->I k s'->Ends G (rec s'))->Ends G (F rec s)):∀(N n:Nat) (s:σ),I n s->n<N->Ends G (iter N F s)
 | 0,n,s,_,hn=>absurd hn (Nat.not_lt_zero n)
 | N+1,n,s,hI,hn=>h n s (iter N F) hI fun k s' hk hs=>zvA I h N k s' hs (by omega)
theorem z4P {G:Ans->Prop}{o:OA}{r:Ans}(h:Ends (fun a=>a=r) o):o=some r:=by
 obtain ⟨a,h1,h2⟩:=h;rw[h1,h2]
end
instance:Inhabited Cur:=⟨⟨[],0,0⟩⟩
instance:Inhabited Ins:=⟨⟨0,0⟩⟩
instance:Inhabited GAct:=⟨⟨0,0,0,0,0,0⟩⟩
instance:Inhabited Ctl:=⟨⟨0,0,false⟩⟩
instance:Inhabited Host:=⟨⟨[],[],[],[]⟩⟩
def zdj (c:Cur):Prop:=0<=c.i/\c.b.length<=big
theorem zkm {T:Type}(av:T->AV){good:T->Prop}{b:List Int}{x y:Int}{v:T}(h:0<=x)(g:good v):Ends (fun a=>∃s v0,a=(AV.agg (zbH s) :: [av v0])/\(s.b=b/\0<=s.i)/\good v0) (some (AV.agg [.s .u8 b,.i .i64 x,.i .i64 y] :: [av v])) :=
 ⟨_,rfl,⟨b,x,y⟩,v,rfl,⟨rfl,h⟩,g⟩
def zk6 (N:Nat)(c:Cur)  : OA :=
 let y0:=(zG .i64 (zmn .i64 c.h 6364136223846793005) 1442695040888963407);let y1:=(wand .i64 (z2t .i64 (zCf .i64 y0 33) (zCf .i64 y0 45)) 255); (oN (ile 0 33) (oN (ile 0 45) (cond (ilt c.i (ln c.b)) (oN (inb c.i (ln c.b)) (some [(.agg [(.s .u8 c.b),(.i .i64 (zG .i64 c.i 1)),(.i .i64 y0)]),(aI (wand .i64 (zG .i64 y1 (wcv .i64 (ix c.b c.i 0))) 255))])) (some [(.agg [(.s .u8 c.b),(.i .i64 c.i),(.i .i64 y0)]),(aI y1)]))))
theorem zSD (N:Nat)(c:Cur)  : zgM (cQ zlV zl3 zMu zk5) (zo []) N 12 58 [false,true,true] (zbH c) []=zk6 N c:=by kernel_rfl
def zj2 (c:Cur)(s:Cur)(v0:Int):Prop:=(∃N,zk6 N c=some (AV.agg (zbH s) :: [aI v0]))/\(s.b=c.b/\0<=s.i)/\(0<=v0/\v0<=255)
def zc1 (c:Cur)  : Bool:=pc (∃s v0,zj2 c s v0)
def zpG (c:Cur)  : Cur×Int:=Classical.epsilon fun r=>zj2 c r.1 r.2
def zch (c:Cur)  : Cur:=bif zc1 c then (zpG c).1 else ⟨[],0,0⟩
def zfa (c:Cur)  : Int:=(zpG c).2
theorem zji {c:Cur}(h:zc1 c=true):zj2 c (zch c) (zfa c):=by
 obtain ⟨s,v0,h2⟩:=zD.1 h;have h3:zj2 c (zpG c).1 (zpG c).2:=Classical.epsilon_spec (p:=fun r=>zj2 c r.1 r.2) ⟨(s,v0),h2⟩;unfold zch;rw[h,cT];exact h3
theorem zlA (c:Cur)  : 0<=(zch c).i:=by
 unfold zch;cases h:zc1 c with
 | false=>exact jX 0
 | true =>
  have:=(zji h).2.1.2;unfold zch at this
  rwa [h] at this
theorem zUY (c:Cur)(h:∃N,Ends (fun a=>∃s v0,a=(AV.agg (zbH s) :: [aI v0])/\(s.b=c.b/\0<=s.i)/\(0<=v0/\v0<=255)) (zk6 N c)):zc1 c=true:=by
 obtain ⟨N,a,e,s,v0,rfl,h⟩:=h;exact zW ⟨s,v0,⟨N,e⟩,h⟩
def zow:List CV->List AV->Option (Bool×List CV×List AV)
 | [.s .u8 b,.i .i64 c,.i .i64 d],[]=>some ((zc1 (⟨b,c,d⟩:Cur)),zbH (zch (⟨b,c,d⟩:Cur)),[aI (zfa (⟨b,c,d⟩:Cur))])
 | _,_=>none
theorem zPx (c:Cur)(hb:zbG big (.agg (zbH c) :: []))(hc:zc1 c=true):∃N,zk6 N c=some (.agg (zbH (zch c)) :: [aI (zfa c)]):=by
 exact (zji hc).1
theorem zIG:zdv Tryz.prog 58 [false,true,true] zow:=by
 refine zcd (zc4 zdz zV zl zn) (zex (by kernel_rfl)) ?_
 intro cs avs cs' rs hl hr h;have hb:=zcx hr;unfold zow at h;split at h
 .obtain ⟨hc,rfl,rfl⟩:=zcQ h;obtain ⟨N,hN⟩:=zPx _ (by exact hb) hc
  exact ⟨rfl,_,N,12,(zSD N _ ).trans hN⟩
 .cases h
theorem zOv {x m:Int}(h0:0<=m)(h1:m<9223372036854775808):0<=wand .i64 x m/\wand .i64 x m<=m:=by
 have hm:(BitVec.ofInt 64 m).toNat=m.toNat:=by
  rw[BitVec.toNat_ofInt];omega
 have hle:(BitVec.ofInt 64 x &&& BitVec.ofInt 64 m).toNat<=m.toNat:=by
  rw[BitVec.toNat_and,hm];exact Nat.and_le_right
 unfold wand
 show 0<=IntKind.wrap .i64 ((BitVec.ofInt 64 x &&& BitVec.ofInt 64 m).toNat:Int)/\IntKind.wrap .i64 ((BitVec.ofInt 64 x &&& BitVec.ofInt 64 m).toNat:Int)<=m
 rw[zrP (by omega) (by omega)]
 omega
@[simp] theorem zHP {c:Cur}(h:zdj c):zc1 c=true:=by
 refine zUY c ⟨0,?_⟩;unfold zk6 oN
 conv=>zeta
 refine zbt rfl (zbt rfl (zc7 (fun h0=>zbt (qI ⟨h.1,qE h0⟩) (zkm aI ?_ (zOv (by omega) (by omega)))) (fun _=>zkm aI h.1 (zOv (by omega) (by omega)))))
 have h1:c.i<ln c.b:=qE h0;have h2:=h.2;have h3:=h.1;rw[zrC]at h2;unfold ln at h1;rw[zmJ (by omega) (by omega)]
 omega
def zXA:zdk:=[(58,([false,true,true],zow))]++zMu
theorem zSP:zcw zXA:=zem zl (by
 intro x hx;simp only[qH,qV,or_false]at hx;rcases hx with rfl
 .exact zIG)
theorem zFw {b:List Int}{i h:Int}(h0:0<=i)(hb:b.length<=big):zdj ⟨b,i,h⟩:=⟨h0,hb⟩
theorem zCL {x n:Int}(h0:0<=x)(hn:0<n):0<=zkd x n/\zkd x n<n:=by
 unfold zkd;exact ⟨Int.tmod_nonneg _ h0,Int.tmod_lt_of_pos _ hn⟩
def zju (N:Nat)(c:Cur)(a0:Int):OA:=
 let y2:=({ (zch c) with b:=c.b }:Cur);let y0:=({ (zch y2) with b:=c.b }:Cur);let y1:=({ (zch y0) with b:=c.b }:Cur); (cond (ile a0 0) (some [(.agg [(.s .u8 c.b),(.i .i64 c.i),(.i .i64 c.h)]),(aI 0)]) (cond (ile a0 256) (oN (zc1 c) (oN (ine a0 0) (some [(.agg [(.s .u8 c.b),(.i .i64 (zch c).i),(.i .i64 (zch c).h)]),(aI (zkd (zfa c) a0))]))) (oN (zc1 c) (oN (zc1 y2) (oN (zc1 y0) (oN (zc1 y1) (oN (ine a0 0) (some [(.agg [(.s .u8 c.b),(.i .i64 (zch y1).i),(.i .i64 (zch y1).h)]),(aI (zkd (zG .i64 (zG .i64 (zG .i64 (zmn .i64 (zfa c) 16777216) (zmn .i64 (zfa y2) 65536)) (zmn .i64 (zfa y0) 256)) (zfa y1)) a0))]))))))))
theorem zPP (N:Nat)(c:Cur)(a0:Int):zgM (cQ zlV zl3 zXA zk5) (zo []) N 12 36 [false,true,true] (zbH c) [aI a0]=zju N c a0:=by kernel_rfl
def ziX (c:Cur)(a0:Int)(s:Cur)(v0:Int):Prop:=(∃N,zju N c a0=some (AV.agg (zbH s) :: [aI v0]))/\(s.b=c.b/\0<=s.i)/\((0<a0->0<=v0/\v0<a0))
def zZ (c:Cur)(a0:Int):Bool:=pc (∃s v0,ziX c a0 s v0)
def znV (c:Cur)(a0:Int):Cur×Int:=Classical.epsilon fun r=>ziX c a0 r.1 r.2
def zC (c:Cur)(a0:Int):Cur:=bif zZ c a0 then (znV c a0).1 else ⟨[],0,0⟩
def zbb (c:Cur)(a0:Int):Int:=(znV c a0).2
theorem znU {c:Cur}{a0:Int}(h:zZ c a0=true):ziX c a0 (zC c a0) (zbb c a0):=by
 obtain ⟨s,v0,h2⟩:=zD.1 h;have h3:ziX c a0 (znV c a0).1 (znV c a0).2:=Classical.epsilon_spec (p:=fun r=>ziX c a0 r.1 r.2) ⟨(s,v0),h2⟩;unfold zC;rw[h,cT];exact h3
theorem zcp (c:Cur)(a0:Int):0<=(zC c a0).i:=by
 unfold zC;cases h:zZ c a0 with
 | false=>exact jX 0
 | true =>
  have:=(znU h).2.1.2;unfold zC at this
  rwa [h] at this
theorem zS8 (c:Cur)(a0:Int)(h:∃N,Ends (fun a=>∃s v0,a=(AV.agg (zbH s) :: [aI v0])/\(s.b=c.b/\0<=s.i)/\((0<a0->0<=v0/\v0<a0))) (zju N c a0)):zZ c a0=true:=by
 obtain ⟨N,a,e,s,v0,rfl,h⟩:=h;exact zW ⟨s,v0,⟨N,e⟩,h⟩
def znh:List CV->List AV->Option (Bool×List CV×List AV)
 | [.s .u8 b,.i .i64 c,.i .i64 d],[.one (.i .i64 e)]=>some ((zZ (⟨b,c,d⟩:Cur) e),zbH (zC (⟨b,c,d⟩:Cur) e),[aI (zbb (⟨b,c,d⟩:Cur) e)])
 | _,_=>none
theorem zMc (c:Cur)(a0:Int)(hb:zbG big (.agg (zbH c) :: [aI a0]))(hc:zZ c a0=true):∃N,zju N c a0=some (.agg (zbH (zC c a0)) :: [aI (zbb c a0)]):=by
 exact (znU hc).1
theorem zGb:zdv Tryz.prog 36 [false,true,true] znh:=by
 refine zcd (zc4 zdz zV zSP zn) (zex (by kernel_rfl)) ?_
 intro cs avs cs' rs hl hr h;have hb:=zcx hr;unfold znh at h;split at h
 .obtain ⟨hc,rfl,rfl⟩:=zcQ h;obtain ⟨N,hN⟩:=zMc _ _ (by exact hb) hc
  exact ⟨rfl,_,N,12,(zPP N _ _ ).trans hN⟩
 .cases h
theorem zhK {c:Cur}(h:zdj c)(n:Int):zZ c n=true:=by
 refine zS8 c n ⟨0,?_⟩;have k1:=zHP h;have k2:zc1 { zch c with b:=c.b }=true:=zHP (zFw (zlA _) h.2);have k3:zc1 { zch { zch c with b:=c.b } with b:=c.b }=true:=zHP (zFw (zlA _) h.2);have k4:zc1 { zch { zch { zch c with b:=c.b } with b:=c.b } with b:=c.b }=true:=zHP (zFw (zlA _) h.2);have b1:=(zji k1).2.2;have b2:=(zji k2).2.2;have b3:=(zji k3).2.2;have b4:=(zji k4).2.2;unfold zju oN
 conv=>zeta
 refine zc7 (fun h0=>zkm aI h.1 (fun hn=>absurd (qE h0) (by omega))) (fun h0=>?_)
 have hn:¬ n<=0:=jV h0;have hz:ine n 0=true:=by simp[ine];omega
 refine zc7 (fun h1=>zbt k1 (zbt hz (zkm aI (zlA _) (fun hp=>zCL b1.1 hp)))) (fun h1=>?_);refine zbt k1 (zbt k2 (zbt k3 (zbt k4 (zbt hz (zkm aI (zlA _) (fun hp=>zCL ?_ hp))))));generalize zfa c=x1 at b1;generalize zfa _=x2 at b2;generalize zfa _=x3 at b3;generalize zfa _=x4 at b4;have w1:zmn .i64 x1 16777216=x1*16777216:=zrP (by omega) (by omega)
 have w2:zmn .i64 x2 65536=x2*65536:=zrP (by omega) (by omega)
 have w3:zmn .i64 x3 256=x3*256:=zrP (by omega) (by omega)
 rw[w1,w2,w3,zmJ (x:=x1*16777216) (by omega) (by omega),zmJ (x:=x1*16777216+x2*65536) (by omega) (by omega),zmJ (by omega) (by omega)]
 omega
def zQe:zdk:=[(36,([false,true,true],znh))]++zXA
theorem zGA:zcw zQe:=zem zSP (by
 intro x hx;simp only[qH,qV,or_false]at hx;rcases hx with rfl
 .exact zGb)
def zk7 (N:Nat)(c:Cur)(a0:Int):OA:=
 (oN (zZ c a0) (some [(.agg [(.s .u8 c.b),(.i .i64 (zC c a0).i),(.i .i64 (zC c a0).h)]),(aB (ieq (zbb c a0) 0))]))
theorem zSE (N:Nat)(c:Cur)(a0:Int):zgM (cQ zlV zl3 zQe zk5) (zo []) N 12 65 [false,true,true] (zbH c) [aI a0]=zk7 N c a0:=by kernel_rfl
def zj4 (c:Cur)(a0:Int)(s:Cur)(v0:Bool):Prop:=(∃N,zk7 N c a0=some (AV.agg (zbH s) :: [aB v0]))/\(s.b=c.b/\0<=s.i)/\(True)
def zea (c:Cur)(a0:Int):Bool:=pc (∃s v0,zj4 c a0 s v0)
def zpH (c:Cur)(a0:Int):Cur×Bool:=Classical.epsilon fun r=>zj4 c a0 r.1 r.2
def zcl (c:Cur)(a0:Int):Cur:=bif zea c a0 then (zpH c a0).1 else ⟨[],0,0⟩
def zj3 (c:Cur)(a0:Int):Bool:=(zpH c a0).2
theorem zE1 {c:Cur}{a0:Int}(h:zea c a0=true):zj4 c a0 (zcl c a0) (zj3 c a0):=by
 obtain ⟨s,v0,h2⟩:=zD.1 h;have h3:zj4 c a0 (zpH c a0).1 (zpH c a0).2:=Classical.epsilon_spec (p:=fun r=>zj4 c a0 r.1 r.2) ⟨(s,v0),h2⟩;unfold zcl;rw[h,cT];exact h3
theorem zhB (c:Cur)(a0:Int):0<=(zcl c a0).i:=by
 unfold zcl;cases h:zea c a0 with
 | false=>exact jX 0
 | true =>
  have:=(zE1 h).2.1.2;unfold zcl at this
  rwa [h] at this
theorem zUZ (c:Cur)(a0:Int)(h:∃N,Ends (fun a=>∃s v0,a=(AV.agg (zbH s) :: [aB v0])/\(s.b=c.b/\0<=s.i)/\(True)) (zk7 N c a0)):zea c a0=true:=by
 obtain ⟨N,a,e,s,v0,rfl,h⟩:=h;exact zW ⟨s,v0,⟨N,e⟩,h⟩
def zox:List CV->List AV->Option (Bool×List CV×List AV)
 | [.s .u8 b,.i .i64 c,.i .i64 d],[.one (.i .i64 e)]=>some ((zea (⟨b,c,d⟩:Cur) e),zbH (zcl (⟨b,c,d⟩:Cur) e),[aB (zj3 (⟨b,c,d⟩:Cur) e)])
 | _,_=>none
theorem zPy (c:Cur)(a0:Int)(hb:zbG big (.agg (zbH c) :: [aI a0]))(hc:zea c a0=true):∃N,zk7 N c a0=some (.agg (zbH (zcl c a0)) :: [aB (zj3 c a0)]):=by
 exact (zE1 hc).1
theorem zIH:zdv Tryz.prog 65 [false,true,true] zox:=by
 refine zcd (zc4 zdz zV zGA zn) (zex (by kernel_rfl)) ?_
 intro cs avs cs' rs hl hr h;have hb:=zcx hr;unfold zox at h;split at h
 .obtain ⟨hc,rfl,rfl⟩:=zcQ h;obtain ⟨N,hN⟩:=zPy _ _ (by exact hb) hc
  exact ⟨rfl,_,N,12,(zSE N _ _ ).trans hN⟩
 .cases h
theorem zSL {c:Cur}(h:zdj c)(n:Int):zea c n=true:=by
 refine zUZ c n ⟨0,?_⟩;unfold zk7 oN;exact zbt (zhK h _) (zkm aB (zcp _ _) trivial)
def zhH (N:Nat)(c:Cur)(a0:List Int):OA:=
 (oN (zZ c (ln a0)) (oN (inb (zbb c (ln a0)) (ln a0)) (some [(.agg [(.s .u8 c.b),(.i .i64 (zC c (ln a0)).i),(.i .i64 (zC c (ln a0)).h)]),(aI (ix a0 (zbb c (ln a0)) 0))])))
theorem zJv (N:Nat)(c:Cur)(a0:List Int):zgM (cQ zlV zl3 zQe zk5) (zo []) N 12 107 [false,true,true] (zbH c) [aS .int a0]=zhH N c a0:=by kernel_rfl
def zhg (c:Cur)(a0:List Int)(s:Cur)(v0:Int):Prop:=(∃N,zhH N c a0=some (AV.agg (zbH s) :: [aI v0]))/\(s.b=c.b/\0<=s.i)/\((0<a0.length->v0∈a0))
def zdd (c:Cur)(a0:List Int):Bool:=pc (∃s v0,zhg c a0 s v0)
def zkV (c:Cur)(a0:List Int):Cur×Int:=Classical.epsilon fun r=>zhg c a0 r.1 r.2
def zbT (c:Cur)(a0:List Int):Cur:=bif zdd c a0 then (zkV c a0).1 else ⟨[],0,0⟩
def zeV (c:Cur)(a0:List Int):Int:=(zkV c a0).2
theorem zoQ {c:Cur}{a0:List Int}(h:zdd c a0=true):zhg c a0 (zbT c a0) (zeV c a0):=by
 obtain ⟨s,v0,h2⟩:=zD.1 h;have h3:zhg c a0 (zkV c a0).1 (zkV c a0).2:=Classical.epsilon_spec (p:=fun r=>zhg c a0 r.1 r.2) ⟨(s,v0),h2⟩;unfold zbT;rw[h,cT];exact h3
theorem zkU (c:Cur)(a0:List Int):0<=(zbT c a0).i:=by
 unfold zbT;cases h:zdd c a0 with
 | false=>exact jX 0
 | true =>
  have:=(zoQ h).2.1.2;unfold zbT at this
  rwa [h] at this
theorem zMz (c:Cur)(a0:List Int)(h:∃N,Ends (fun a=>∃s v0,a=(AV.agg (zbH s) :: [aI v0])/\(s.b=c.b/\0<=s.i)/\((0<a0.length->v0∈a0))) (zhH N c a0)):zdd c a0=true:=by
 obtain ⟨N,a,e,s,v0,rfl,h⟩:=h;exact zW ⟨s,v0,⟨N,e⟩,h⟩
def zk4:List CV->List AV->Option (Bool×List CV×List AV)
 | [.s .u8 b,.i .i64 c,.i .i64 d],[.one (.s .int e)]=>some ((zdd (⟨b,c,d⟩:Cur) e),zbH (zbT (⟨b,c,d⟩:Cur) e),[aI (zeV (⟨b,c,d⟩:Cur) e)])
 | _,_=>none
theorem zGv (c:Cur)(a0:List Int)(hb:zbG big (.agg (zbH c) :: [aS .int a0]))(hc:zdd c a0=true):∃N,zhH N c a0=some (.agg (zbH (zbT c a0)) :: [aI (zeV c a0)]):=by
 exact (zoQ hc).1
theorem zAI:zdv Tryz.prog 107 [false,true,true] zk4:=by
 refine zcd (zc4 zdz zV zGA zn) (zex (by kernel_rfl)) ?_
 intro cs avs cs' rs hl hr h;have hb:=zcx hr;unfold zk4 at h;split at h
 .obtain ⟨hc,rfl,rfl⟩:=zcQ h;obtain ⟨N,hN⟩:=zGv _ _ (by exact hb) hc
  exact ⟨rfl,_,N,12,(zJv N _ _ ).trans hN⟩
 .cases h
theorem zJF {c:Cur}(h:zdj c){l:List Int}(hl:l≠[]):zdd c l=true:=by
 refine zMz c l ⟨0,?_⟩;have hp:0<ln l:=by unfold ln;have:=kK.2 hl;omega
 have g:=(znU (zhK h (ln l))).2.2 hp;have hb:inb (zbb c (ln l)) (ln l)=true:=qI ⟨g.1,g.2⟩;unfold zhH oN;exact zbt (zhK h _) (zbt hb (zkm aI (zcp _ _) (fun _=>zbq hb 0)))
def zXB:zdk:=[(65,([false,true,true],zox)),(107,([false,true,true],zk4))]++zQe
theorem zSQ:zcw zXB:=zem zGA (by
 intro x hx;simp only[qH,qV,or_false]at hx;rcases hx with rfl|rfl
 .exact zIH
 .exact zAI)
theorem zfc {c:Cur}{i k:Int}(h:zdj c)(h0:0<=i):zdj ⟨c.b,i,k⟩:=⟨h0,h.2⟩
theorem z5t {c:Cur}(h:zdj c){l:List Int}(hl:l≠[]):zeV c l∈l:=(zoQ (zJF h hl)).2.2 (kK.2 hl)
theorem zlU {c:Cur}(h:zdj c){n:Int}(hn:0<n):0<=zbb c n/\zbb c n<n:=(znU (zhK h n)).2.2 hn
theorem zIY {o x:Int}(h:(o=1\/o=2\/o=5\/o=6)/\0<=x/\x<=99\/(o=3\/o=4)/\0<=x/\x<=15\/o=8/\0<=x/\x<=11):zdr ⟨o,x⟩=true:=by
 have w:∀{a b:Int},a<=x->x<=b->win x a b=true:=fun h1 h2=>by simp only[win,ige,ile,qD,qW];exact ⟨h1,h2⟩
 rcases h with ⟨h|h|h|h,h1,h2⟩|⟨h|h,h1,h2⟩|⟨h,h1,h2⟩<;>subst h<;>exact w h1 h2
def zmN (N:Nat)(c:Cur)  : OA :=
 let y1:=(zeV c [1,2,3,3,3,4,4,4,5,6,8]);let y0:=({ (zbT c [1,2,3,3,3,4,4,4,5,6,8]) with b:=c.b }:Cur); (share (oN (zZ y0 16) (some [(.agg [(.s .u8 c.b),(.i .i64 (zC y0 16).i),(.i .i64 (zC y0 16).h)]),(.agg [(.i .i64 y1),(.i .i64 (zbb y0 16))])])) (fun t1=>(share (cond (ieq y1 8) (oN (zZ y0 4) (some [(.agg [(.s .u8 c.b),(.i .i64 (zC y0 4).i),(.i .i64 (zC y0 4).h)]),(.agg [(.i .i64 y1),(.i .i64 (zbb y0 4))])])) (oN (zZ y0 100) (some [(.agg [(.s .u8 c.b),(.i .i64 (zC y0 100).i),(.i .i64 (zC y0 100).h)]),(.agg [(.i .i64 y1),(.i .i64 (zbb y0 100))])]))) (fun t0=>(oN (zdd c [1,2,3,3,3,4,4,4,5,6,8]) (cond (ieq y1 3) (cond (ieq y1 3) t1 t0) (cond (ieq y1 4) t1 t0)))))))
theorem zUN (N:Nat)(c:Cur)  : zgM (cQ zlV zl3 zXB zk5) (zo []) N 12 162 [false,true,true] (zbH c) []=zmN N c:=by kernel_rfl
def zlB (c:Cur)(s:Cur)(v0:Ins):Prop:=(∃N,zmN N c=some (AV.agg (zbH s) :: [aT .ins v0]))/\(s.b=c.b/\0<=s.i)/\(zdr v0=true)
def zhi (c:Cur)  : Bool:=pc (∃s v0,zlB c s v0)
def zrv (c:Cur)  : Cur×Ins:=Classical.epsilon fun r=>zlB c r.1 r.2
def zf2 (c:Cur)  : Cur:=bif zhi c then (zrv c).1 else ⟨[],0,0⟩
def zsV (c:Cur)  : Ins:=(zrv c).2
theorem zxW {c:Cur}(h:zhi c=true):zlB c (zf2 c) (zsV c):=by
 obtain ⟨s,v0,h2⟩:=zD.1 h;have h3:zlB c (zrv c).1 (zrv c).2:=Classical.epsilon_spec (p:=fun r=>zlB c r.1 r.2) ⟨(s,v0),h2⟩;unfold zf2;rw[h,cT];exact h3
theorem zXO (c:Cur)  : 0<=(zf2 c).i:=by
 unfold zf2;cases h:zhi c with
 | false=>exact jX 0
 | true =>
  have:=(zxW h).2.1.2;unfold zf2 at this
  rwa [h] at this
theorem zXN (c:Cur)(h:∃N,Ends (fun a=>∃s v0,a=(AV.agg (zbH s) :: [aT .ins v0])/\(s.b=c.b/\0<=s.i)/\(zdr v0=true)) (zmN N c)):zhi c=true:=by
 obtain ⟨N,a,e,s,v0,rfl,h⟩:=h;exact zW ⟨s,v0,⟨N,e⟩,h⟩
def zqv:List CV->List AV->Option (Bool×List CV×List AV)
 | [.s .u8 b,.i .i64 c,.i .i64 d],[]=>some ((zhi (⟨b,c,d⟩:Cur)),zbH (zf2 (⟨b,c,d⟩:Cur)),[aT .ins (zsV (⟨b,c,d⟩:Cur))])
 | _,_=>none
theorem zSl (c:Cur)(hb:zbG big (.agg (zbH c) :: []))(hc:zhi c=true):∃N,zmN N c=some (.agg (zbH (zf2 c)) :: [aT .ins (zsV c)]):=by
 exact (zxW hc).1
theorem zLo:zdv Tryz.prog 162 [false,true,true] zqv:=by
 refine zcd (zc4 zdz zV zSQ zn) (zex (by kernel_rfl)) ?_
 intro cs avs cs' rs hl hr h;have hb:=zcx hr;unfold zqv at h;split at h
 .obtain ⟨hc,rfl,rfl⟩:=zcQ h;obtain ⟨N,hN⟩:=zSl _ (by exact hb) hc
  exact ⟨rfl,_,N,12,(zUN N _ ).trans hN⟩
 .cases h
theorem z3N {c:Cur}(h:zdj c):zhi c=true:=by
 refine zXN c ⟨0,?_⟩;have hk:([1,2,3,3,3,4,4,4,5,6,8]:List Int)≠[]:=by simp
 have hm:=z5t h hk;have h1:zdj { zbT c [1,2,3,3,3,4,4,4,5,6,8] with b:=c.b }:=zfc h (zkU _ _);have b16:=zlU h1 (n:=16) (by omega)
 have b4:=zlU h1 (n:=4) (by omega)
 have b100:=zlU h1 (n:=100) (by omega)
 unfold zmN oN
 conv=>zeta
 generalize zeV c [1,2,3,3,3,4,4,4,5,6,8]=o at hm;simp only[qH,qV,or_false]at hm;have no:∀{n:Int},ieq o n=false->o≠n:=fun h e=>by subst e;simp[ieq]at h
 have ye:∀{n:Int},ieq o n=true->o=n:=fun h=>by simpa [ieq] using h
 have L:∀(n:Int),0<n->(zdr ⟨o,zbb { zbT c [1,2,3,3,3,4,4,4,5,6,8] with b:=c.b } n⟩=true)->Ends (fun a=>∃s v0,a=(AV.agg (zbH s) :: [aT .ins v0])/\(s.b=c.b/\0<=s.i)/\zdr v0=true)
  (cond (zZ { zbT c [1,2,3,3,3,4,4,4,5,6,8] with b:=c.b } n) (some (AV.agg [.s .u8 c.b,.i .i64 (zC { zbT c [1,2,3,3,3,4,4,4,5,6,8] with b:=c.b } n).i,.i .i64 (zC { zbT c [1,2,3,3,3,4,4,4,5,6,8] with b:=c.b } n).h] :: [.agg [.i .i64 o,.i .i64 (zbb { zbT c [1,2,3,3,3,4,4,4,5,6,8] with b:=c.b } n)]])) none) :=
  fun n hn hi=>zbt (zhK h1 n) (zkm (aT .ins) (v:=⟨o,zbb _ n⟩) (zcp _ _) hi)
 refine zbt (zJF h hk) (zc7 (fun h3=>zc7 (fun _=>L 16 (by omega) (zIY ?_)) (fun h4=>absurd (ye h3) (no h4))) (fun h3=>zc7 (fun h4=>L 16 (by omega) (zIY ?_)) (fun h4=>zc7 (fun h8=>L 4 (by omega) (zIY ?_)) (fun h8=>L 100 (by omega) (zIY ?_)))))
 .have:=ye h3;omega
 .have:=ye h4;omega
 .have:=ye h8;omega
 .have:=no h3;have:=no h4;have:=no h8;omega
def zXC:zdk:=[(162,([false,true,true],zqv))]++zXB
theorem zSR:zcw zXC:=zem zSQ (by
 intro x hx;simp only[qH,qV,or_false]at hx;rcases hx with rfl
 .exact zLo)
theorem zmK {x y:Int}(h0:0<=x)(h1:x<=1000000)(h2:0<=y)(h3:y<=1000000):zG .i64 x y=x+y:=zmJ (by omega) (by omega)
theorem zvB {α:Type}{l:List α}(h:ln l<=1000000):few (ln l)=true:=qI ⟨by unfold ln;omega,by omega⟩
theorem zpb {α:Type}(l:List α)(x:α):ln (ap l [x])=ln l+1:=by simp[ln,ap]
def zk8 (N:Nat)(c:Cur)  : OA :=
 (iter (σ:=(Int×(Int×(Int×(lI×((List Int)×Unit)))))) N (fun r2 s3=>let y3:=s3.2.2.2.1;let y2:=s3.2.2.2.2.1;let y1:=(⟨y2,s3.2.1,s3.2.2.1⟩:Cur);let y0:=({ (zC y1 7) with b:=y2 }:Cur); (oN (zZ y1 7) (cond (ilt s3.1 (zG .i64 2 (zbb y1 7))) (oN (zhi y0) (oN (few (ln (ap y3 [(zsV y0)]))) (r2 ((zG .i64 s3.1 1),((zf2 y0).i,((zf2 y0).h,((ap y3 [(zsV y0)]),(y2,())))))))) (oN (zea y0 3) (cond (zj3 y0 3) (oN (few (ln (ap y3 [(⟨7,0⟩:Ins)]))) (some [(.agg [(.s .u8 y2),(.i .i64 (zcl y0 3).i),(.i .i64 (zcl y0 3).h)]),(aS .ins (ap y3 [(⟨7,0⟩:Ins)]))])) (oN (few (ln (ap y3 [(⟨8,0⟩:Ins)]))) (some [(.agg [(.s .u8 y2),(.i .i64 (zcl y0 3).i),(.i .i64 (zcl y0 3).h)]),(aS .ins (ap y3 [(⟨8,0⟩:Ins)]))]))))))) (0,(c.i,(c.h,([],(c.b,()))))))
def zP3:FuncId->Nat->Option Tmpl:=zo [(106,0,{ n:=29,tm:=[(0,.lp 0 0),(3,.sl 0 []),(4,ti)],lo:=[(0,[.sl 1 [],ti,ti])],ro:=[(0,.ins,true),(1,.u8,false)] })]
theorem zSF (N:Nat)(c:Cur)  : zgM (cQ zlV zl3 zXC zk5) zP3 N 12 106 [false,true,true] (zbH c) []=zk8 N c:=by kernel_rfl
def zj5 (c:Cur)(s:Cur)(v0:List Ins):Prop:=(∃N,zk8 N c=some (AV.agg (zbH s) :: [aS .ins v0]))/\(s.b=c.b/\0<=s.i)/\(zcR v0=true)
def zfr (c:Cur)  : Bool:=pc (∃s v0,zj5 c s v0)
def zpI (c:Cur)  : Cur×List Ins:=Classical.epsilon fun r=>zj5 c r.1 r.2
def zeA (c:Cur)  : Cur:=bif zfr c then (zpI c).1 else ⟨[],0,0⟩
def zmB (c:Cur)  : List Ins:=(zpI c).2
theorem zu9 {c:Cur}(h:zfr c=true):zj5 c (zeA c) (zmB c):=by
 obtain ⟨s,v0,h2⟩:=zD.1 h;have h3:zj5 c (zpI c).1 (zpI c).2:=Classical.epsilon_spec (p:=fun r=>zj5 c r.1 r.2) ⟨(s,v0),h2⟩;unfold zeA;rw[h,cT];exact h3
theorem zU1 (c:Cur)  : 0<=(zeA c).i:=by
 unfold zeA;cases h:zfr c with
 | false=>exact jX 0
 | true =>
  have:=(zu9 h).2.1.2;unfold zeA at this
  rwa [h] at this
theorem zU0 (c:Cur)(h:∃N,Ends (fun a=>∃s v0,a=(AV.agg (zbH s) :: [aS .ins v0])/\(s.b=c.b/\0<=s.i)/\(zcR v0=true)) (zk8 N c)):zfr c=true:=by
 obtain ⟨N,a,e,s,v0,rfl,h⟩:=h;exact zW ⟨s,v0,⟨N,e⟩,h⟩
def zoy:List CV->List AV->Option (Bool×List CV×List AV)
 | [.s .u8 b,.i .i64 c,.i .i64 d],[]=>some ((zfr (⟨b,c,d⟩:Cur)),zbH (zeA (⟨b,c,d⟩:Cur)),[aS .ins (zmB (⟨b,c,d⟩:Cur))])
 | _,_=>none
theorem zPC (c:Cur)(hb:zbG big (.agg (zbH c) :: []))(hc:zfr c=true):∃N,zk8 N c=some (.agg (zbH (zeA c)) :: [aS .ins (zmB c)]):=by
 exact (zu9 hc).1
theorem zIK:zdv Tryz.prog 106 [false,true,true] zoy:=by
 refine zcd (zc4 zdz zV zSR zn) (zex (by kernel_rfl)) ?_
 intro cs avs cs' rs hl hr h;have hb:=zcx hr;unfold zoy at h;split at h
 .obtain ⟨hc,rfl,rfl⟩:=zcQ h;obtain ⟨N,hN⟩:=zPC _ (by exact hb) hc
  exact ⟨rfl,_,N,12,(zSF N _ ).trans hN⟩
 .cases h
theorem zZX {c:Cur}(h:zdj c):zfr c=true:=by
 refine zU0 c ⟨9,?_⟩;unfold zk8 oN
 conv=>zeta
 refine zvA (fun n s=>s.1+(n:Int)=8/\0<=s.1/\0<=s.2.1/\(∀x∈s.2.2.2.1,zdr x=true)/\ln s.2.2.2.1=s.1/\s.2.2.2.2.1=c.b) ?_ 9 8 _ ⟨rfl,jX 0,h.1,by simp,rfl,rfl⟩ (by omega)
 rintro n ⟨t,i,k,l,b,u⟩ rec ⟨h1,h2,h3,h4,h5,h6⟩ hrec
 dsimp only at h1 h2 h3 h4 h5 h6 ⊢
 subst h6;have hcur:zdj ⟨c.b,i,k⟩:=zfc h h3;have hx:=zlU hcur (n:=7) (by omega)
 have hw:=zmK (x:=2) (by omega) (by omega) hx.1 (by omega)
 have h7:zdj { zC ⟨c.b,i,k⟩ 7 with b:=c.b }:=zfc h (zcp _ _);have fin:∀(y:Ins),zdr y=true->2<=t->zcR (ap l [y])=true:=by
  intro y hy ht;unfold zcR;rw[zpb,h5];have:(ap l [y]).all zdr=true:=by
   simp only[ap,List.all_append,uA,List.all_nil,Bool.and_true,qD];exact ⟨qO.2 h4,hy⟩
  rw[this,cT];simp only[win,ige,ile,qD,qW];omega
 refine zbt (zhK hcur 7) (zc7 (fun hc=>?_) (fun hc=>?_))
 .have hlt:t<zG .i64 2 (zbb ⟨c.b,i,k⟩ 7):=qE hc;rw[hw]at hlt;refine zbt (z3N h7) (zbt (zvB (by rw[zpb];omega)) (hrec (n-1) _ (by omega) ⟨?_,?_,zXO _,?_,?_,rfl⟩))
  .show zG .i64 t 1+_=8
   rw[zmK h2 (by omega) (by omega) (by omega)];omega
  .show 0<=zG .i64 t 1
   rw[zmK h2 (by omega) (by omega) (by omega)];omega
  .intro x hx;rcases jJ.1 hx with hx|hx
   .exact h4 x hx
   .rw [qF.1 hx];exact (zxW (z3N h7)).2.2
  .show ln (ap l [_])=zG .i64 t 1
   rw[zpb,zmK h2 (by omega) (by omega) (by omega)];omega
 .have hge:¬ t<zG .i64 2 (zbb ⟨c.b,i,k⟩ 7):=jV hc;rw[hw]at hge;refine zbt (zSL h7 3) (zc7 (fun _=>zbt (zvB (by rw[zpb];omega)) (zkm (aS .ins) (zhB _ _) (fin _ rfl (by omega)))) (fun _=>zbt (zvB (by rw[zpb];omega)) (zkm (aS .ins) (zhB _ _) (fin _ rfl (by omega)))))
def zXD:zdk:=[(106,([false,true,true],zoy))]++zXC
theorem zSS:zcw zXD:=zem zSR (by
 intro x hx;simp only[qH,qV,or_false]at hx;rcases hx with rfl
 .exact zIK)
theorem zTS {α:Type}{c:Cur}(h:zdj c){P:α->Prop}{fc:Cur->Bool}{fs:Cur->Cur}{fv:Cur->α}(hf:∀{c:Cur},zdj c->fc c=true)(hp:∀c,0<=(fs c).i)(hg:∀{c:Cur},zdj c->P (fv c)){G:Ans->Prop}{R:Cur->List α->Ans}(hG:∀s l,s.b=c.b->0<=s.i->1<=l.length->l.length<=2->(∀x∈l,P x)->G (R s l)){F:(Int×Int×Int×List α×List Int×Unit->OA)->Int×Int×Int×List α×List Int×Unit->OA}(hF:∀rec t i k l,F rec (t,i,k,l,c.b,())=bif zZ ⟨c.b,i,k⟩ 2 then (bif ilt t (zG .i64 1 (zbb ⟨c.b,i,k⟩ 2)) then (bif fc { zC ⟨c.b,i,k⟩ 2 with b:=c.b } then (bif few (ln (ap l [fv { zC ⟨c.b,i,k⟩ 2 with b:=c.b }])) then
        rec (zG .i64 t 1,(fs { zC ⟨c.b,i,k⟩ 2 with b:=c.b }).i,(fs { zC ⟨c.b,i,k⟩ 2 with b:=c.b }).h,ap l [fv { zC ⟨c.b,i,k⟩ 2 with b:=c.b }],c.b,()) else none) else none) else some (R ⟨c.b,(zC ⟨c.b,i,k⟩ 2).i,(zC ⟨c.b,i,k⟩ 2).h⟩ l)) else none) :
 Ends G (iter 3 F (0,c.i,c.h,[],c.b,())):=by
 refine zvA (fun n s=>s.1+(n:Int)=2/\0<=s.1/\0<=s.2.1/\(∀x∈s.2.2.2.1,P x)/\ln s.2.2.2.1=s.1/\s.2.2.2.2.1=c.b) ?_ 3 2 _ ⟨rfl,jX 0,h.1,by simp,rfl,rfl⟩ (by omega)
 rintro n ⟨t,i,k,l,b,u⟩ rec ⟨h1,h2,h3,h4,h5,h6⟩ hrec
 dsimp only at h1 h2 h3 h4 h5 h6
 subst h6;rw[hF];have hcur:zdj ⟨c.b,i,k⟩:=zfc h h3;have hx:=zlU hcur (n:=2) (by omega)
 have hw:=zmK (x:=1) (by omega) (by omega) hx.1 (by omega)
 have h7:zdj { zC ⟨c.b,i,k⟩ 2 with b:=c.b }:=zfc h (zcp _ _);refine zbt (zhK hcur 2) (zc7 (fun hc=>?_) (fun hc=>?_))
 .have hlt:t<zG .i64 1 (zbb ⟨c.b,i,k⟩ 2):=qE hc;rw[hw]at hlt;have ht:=zmK (y:=1) h2 (by omega) (by omega) (by omega)
  refine zbt (hf h7) (zbt (zvB (by rw[zpb];omega)) (hrec (n-1) _ (by omega) ⟨?_,?_,hp _,?_,?_,rfl⟩))
  .show zG .i64 t 1+_=2
   omega
  .show 0<=zG .i64 t 1
   omega
  .intro x hx;rcases jJ.1 hx with hx|hx
   .exact h4 x hx
   .rw [qF.1 hx];exact hg h7
  .show ln (ap l [_])=zG .i64 t 1
   rw[zpb];omega
 .have hge:¬ t<zG .i64 1 (zbb ⟨c.b,i,k⟩ 2):=jV hc;rw[hw]at hge;unfold ln at h5;exact zAp (hG _ l rfl (zcp _ _) (by omega) (by omega) h4)
def zjv (N:Nat)(c:Cur)  : OA :=
 (iter (σ:=(Int×(Int×(Int×(lP×((List Int)×Unit)))))) N (fun r2 s3=>let y2:=s3.2.2.2.2.1;let y1:=(⟨y2,s3.2.1,s3.2.2.1⟩:Cur);let y0:=({ (zC y1 2) with b:=y2 }:Cur); (oN (zZ y1 2) (cond (ilt s3.1 (zG .i64 1 (zbb y1 2))) (oN (zfr y0) (oN (few (ln (ap s3.2.2.2.1 [(zmB y0)]))) (r2 ((zG .i64 s3.1 1),((zeA y0).i,((zeA y0).h,((ap s3.2.2.2.1 [(zmB y0)]),(y2,())))))))) (some [(.agg [(.s .u8 y2),(.i .i64 (zC y1 2).i),(.i .i64 (zC y1 2).h)]),(aS (.sl .ins) s3.2.2.2.1)])))) (0,(c.i,(c.h,([],(c.b,()))))))
def zMX:FuncId->Nat->Option Tmpl:=zo [(64,0,{ n:=19,tm:=[(0,.lp 0 0),(3,.sl 0 []),(4,ti)],lo:=[(0,[.sl 1 [],ti,ti])],ro:=[(0,(.sl .ins),true),(1,.u8,false)] })]
theorem zPQ (N:Nat)(c:Cur)  : zgM (cQ zlV zl3 zXD zk5) zMX N 12 64 [false,true,true] (zbH c) []=zjv N c:=by kernel_rfl
def ziY (c:Cur)(s:Cur)(v0:List (List Ins)):Prop:=(∃N,zjv N c=some (AV.agg (zbH s) :: [aS (.sl .ins) v0]))/\(s.b=c.b/\0<=s.i)/\(1<=v0.length/\v0.length<=2/\∀x∈v0,zcR x=true)
def zeX (c:Cur)  : Bool:=pc (∃s v0,ziY c s v0)
def znX (c:Cur)  : Cur×List (List Ins):=Classical.epsilon fun r=>ziY c r.1 r.2
def zeb (c:Cur)  : Cur:=bif zeX c then (znX c).1 else ⟨[],0,0⟩
def zkW (c:Cur)  : List (List Ins):=(znX c).2
theorem zsW {c:Cur}(h:zeX c=true):ziY c (zeb c) (zkW c):=by
 obtain ⟨s,v0,h2⟩:=zD.1 h;have h3:ziY c (znX c).1 (znX c).2:=Classical.epsilon_spec (p:=fun r=>ziY c r.1 r.2) ⟨(s,v0),h2⟩;unfold zeb;rw[h,cT];exact h3
theorem zTa (c:Cur)  : 0<=(zeb c).i:=by
 unfold zeb;cases h:zeX c with
 | false=>exact jX 0
 | true =>
  have:=(zsW h).2.1.2;unfold zeb at this
  rwa [h] at this
theorem zS9 (c:Cur)(h:∃N,Ends (fun a=>∃s v0,a=(AV.agg (zbH s) :: [aS (.sl .ins) v0])/\(s.b=c.b/\0<=s.i)/\(1<=v0.length/\v0.length<=2/\∀x∈v0,zcR x=true)) (zjv N c)):zeX c=true:=by
 obtain ⟨N,a,e,s,v0,rfl,h⟩:=h;exact zW ⟨s,v0,⟨N,e⟩,h⟩
def zni:List CV->List AV->Option (Bool×List CV×List AV)
 | [.s .u8 b,.i .i64 c,.i .i64 d],[]=>some ((zeX (⟨b,c,d⟩:Cur)),zbH (zeb (⟨b,c,d⟩:Cur)),[aS (.sl .ins) (zkW (⟨b,c,d⟩:Cur))])
 | _,_=>none
theorem zMd (c:Cur)(hb:zbG big (.agg (zbH c) :: []))(hc:zeX c=true):∃N,zjv N c=some (.agg (zbH (zeb c)) :: [aS (.sl .ins) (zkW c)]):=by
 exact (zsW hc).1
theorem zGc:zdv Tryz.prog 64 [false,true,true] zni:=by
 refine zcd (zc4 zdz zV zSS zn) (zex (by kernel_rfl)) ?_
 intro cs avs cs' rs hl hr h;have hb:=zcx hr;unfold zni at h;split at h
 .obtain ⟨hc,rfl,rfl⟩:=zcQ h;obtain ⟨N,hN⟩:=zMd _ (by exact hb) hc
  exact ⟨rfl,_,N,12,(zPQ N _ ).trans hN⟩
 .cases h
theorem zV1 {c:Cur}(h:zdj c):zeX c=true:=by
 refine zS9 c ⟨3,?_⟩;unfold zjv oN
 conv=>zeta
 exact zTS h (P:=fun x=>zcR x=true) (fc:=zfr) (fs:=zeA) (fv:=zmB) (R:=fun s l=>AV.agg (zbH s) :: [aS (.sl .ins) l]) zZX zU1 (fun h=>(zu9 (zZX h)).2.2) (fun s l hb hi h1 h2 hl=>⟨s,l,rfl,⟨hb,hi⟩,h1,h2,hl⟩) (fun rec t i k l=>rfl)
def zXE:zdk:=[(64,([false,true,true],zni))]++zXD
theorem zST:zcw zXE:=zem zSS (by
 intro x hx;simp only[qH,qV,or_false]at hx;rcases hx with rfl
 .exact zGc)
def zmP (N:Nat)(c:Cur)  : OA :=
 (iter (σ:=(Int×(Int×(Int×(lQ×((List Int)×Unit)))))) N (fun r2 s3=>let y2:=s3.2.2.2.2.1;let y1:=(⟨y2,s3.2.1,s3.2.2.1⟩:Cur);let y0:=({ (zC y1 2) with b:=y2 }:Cur); (oN (zZ y1 2) (cond (ilt s3.1 (zG .i64 1 (zbb y1 2))) (oN (zeX y0) (oN (few (ln (ap s3.2.2.2.1 [(zkW y0)]))) (r2 ((zG .i64 s3.1 1),((zeb y0).i,((zeb y0).h,((ap s3.2.2.2.1 [(zkW y0)]),(y2,())))))))) (some [(.agg [(.s .u8 y2),(.i .i64 (zC y1 2).i),(.i .i64 (zC y1 2).h)]),(aS (.sl (.sl .ins)) s3.2.2.2.1)])))) (0,(c.i,(c.h,([],(c.b,()))))))
def zTN:FuncId->Nat->Option Tmpl:=zo [(42,0,{ n:=19,tm:=[(0,.lp 0 0),(3,.sl 0 []),(4,ti)],lo:=[(0,[.sl 1 [],ti,ti])],ro:=[(0,(.sl (.sl .ins)),true),(1,.u8,false)] })]
theorem zUP (N:Nat)(c:Cur)  : zgM (cQ zlV zl3 zXE zk5) zTN N 12 42 [false,true,true] (zbH c) []=zmP N c:=by kernel_rfl
def zlD (c:Cur)(s:Cur)(v0:List (List (List Ins))):Prop:=(∃N,zmP N c=some (AV.agg (zbH s) :: [aS (.sl (.sl .ins)) v0]))/\(s.b=c.b/\0<=s.i)/\(1<=v0.length/\v0.length<=2/\∀p∈v0,1<=p.length/\p.length<=2/\∀x∈p,zcR x=true)
def zhl (c:Cur)  : Bool:=pc (∃s v0,zlD c s v0)
def zry (c:Cur)  : Cur×List (List (List Ins)):=Classical.epsilon fun r=>zlD c r.1 r.2
def zft (c:Cur)  : Cur:=bif zhl c then (zry c).1 else ⟨[],0,0⟩
def zoS (c:Cur)  : List (List (List Ins)):=(zry c).2
theorem zxX {c:Cur}(h:zhl c=true):zlD c (zft c) (zoS c):=by
 obtain ⟨s,v0,h2⟩:=zD.1 h;have h3:zlD c (zry c).1 (zry c).2:=Classical.epsilon_spec (p:=fun r=>zlD c r.1 r.2) ⟨(s,v0),h2⟩;unfold zft;rw[h,cT];exact h3
theorem zXS (c:Cur)  : 0<=(zft c).i:=by
 unfold zft;cases h:zhl c with
 | false=>exact jX 0
 | true =>
  have:=(zxX h).2.1.2;unfold zft at this
  rwa [h] at this
theorem zXR (c:Cur)(h:∃N,Ends (fun a=>∃s v0,a=(AV.agg (zbH s) :: [aS (.sl (.sl .ins)) v0])/\(s.b=c.b/\0<=s.i)/\(1<=v0.length/\v0.length<=2/\∀p∈v0,1<=p.length/\p.length<=2/\∀x∈p,zcR x=true)) (zmP N c)):zhl c=true:=by
 obtain ⟨N,a,e,s,v0,rfl,h⟩:=h;exact zW ⟨s,v0,⟨N,e⟩,h⟩
def zqx:List CV->List AV->Option (Bool×List CV×List AV)
 | [.s .u8 b,.i .i64 c,.i .i64 d],[]=>some ((zhl (⟨b,c,d⟩:Cur)),zbH (zft (⟨b,c,d⟩:Cur)),[aS (.sl (.sl .ins)) (zoS (⟨b,c,d⟩:Cur))])
 | _,_=>none
theorem zSn (c:Cur)(hb:zbG big (.agg (zbH c) :: []))(hc:zhl c=true):∃N,zmP N c=some (.agg (zbH (zft c)) :: [aS (.sl (.sl .ins)) (zoS c)]):=by
 exact (zxX hc).1
theorem zLq:zdv Tryz.prog 42 [false,true,true] zqx:=by
 refine zcd (zc4 zdz zV zST zn) (zex (by kernel_rfl)) ?_
 intro cs avs cs' rs hl hr h;have hb:=zcx hr;unfold zqx at h;split at h
 .obtain ⟨hc,rfl,rfl⟩:=zcQ h;obtain ⟨N,hN⟩:=zSn _ (by exact hb) hc
  exact ⟨rfl,_,N,12,(zUP N _ ).trans hN⟩
 .cases h
theorem z2v {c:Cur}(h:zdj c):zhl c=true:=by
 refine zXR c ⟨3,?_⟩;unfold zmP oN
 conv=>zeta
 exact zTS h (P:=fun p=>1<=p.length/\p.length<=2/\∀x∈p,zcR x=true) (fc:=zeX) (fs:=zeb) (fv:=zkW) (R:=fun s l=>AV.agg (zbH s) :: [aS (.sl (.sl .ins)) l]) zV1 zTa (fun h=>(zsW (zV1 h)).2.2) (fun s l hb hi h1 h2 hl=>⟨s,l,rfl,⟨hb,hi⟩,h1,h2,hl⟩) (fun rec t i k l=>rfl)
def zXF:zdk:=[(42,([false,true,true],zqx))]++zXE
theorem zSU:zcw zXF:=zem zST (by
 intro x hx;simp only[qH,qV,or_false]at hx;rcases hx with rfl
 .exact zLq)
theorem zCo {ρ:Type}{G:ρ->Prop}{x:Bool}{a b:Option ρ}(k:Ends G a)(h:x=true:=by first
 | exact zhK (by first|assumption|exact zfc (by assumption) (zcp _ _)|exact zfc (by assumption) (zhB _ _)|exact zfc (by assumption) (zkU _ _)) _
 | exact zSL (by first|assumption|exact zfc (by assumption) (zcp _ _)|exact zfc (by assumption) (zhB _ _)) _
 | exact zJF (by first|assumption|exact zfc (by assumption) (zcp _ _)) (by simp)):Ends G (cond x a b):=zbt h k
def zmO (N:Nat)(c:Cur)  : OA :=
 let y5:=(zbb c 4);let y0:=({ (zC c 4) with b:=c.b }:Cur);let y4:=(zj3 y0 4);let y3:=(zcl y0 4);let y1:=({ y3 with b:=c.b }:Cur);let y2:=({ (zcl y1 2) with b:=c.b }:Cur); (oN (zZ c 4) (oN (zea y0 4) (cond (nB y4) (cond (ine y5 2) (oN (zea y1 2) (cond (zj3 y1 2) (oN (zZ y2 256) (some [(.agg [(.s .u8 c.b),(.i .i64 (zC y2 256).i),(.i .i64 (zC y2 256).h)]),(.agg [(.i .i64 y5),(.i .i64 (zbb y2 256)),(.b (nB y4))])])) (some [(.agg [(.s .u8 c.b),(.i .i64 (zcl y1 2).i),(.i .i64 (zcl y1 2).h)]),(.agg [(.i .i64 y5),(.i .i64 0),(.b (nB y4))])]))) (some [(.agg [(.s .u8 c.b),(.i .i64 y3.i),(.i .i64 y3.h)]),(.agg [(.i .i64 y5),(.i .i64 0),(.b (nB y4))])])) (some [(.agg [(.s .u8 c.b),(.i .i64 y3.i),(.i .i64 y3.h)]),(.agg [(.i .i64 y5),(.i .i64 0),(.b (nB y4))])]))))
theorem zUO (N:Nat)(c:Cur)  : zgM (cQ zlV zl3 zXF zk5) (zo []) N 12 108 [false,true,true] (zbH c) []=zmO N c:=by kernel_rfl
def zlC (c:Cur)(s:Cur)(v0:Ctl):Prop:=(∃N,zmO N c=some (AV.agg (zbH s) :: [.agg (zAh v0)]))/\(s.b=c.b/\0<=s.i)/\(True)
def zhj (c:Cur)  : Bool:=pc (∃s v0,zlC c s v0)
def zrx (c:Cur)  : Cur×Ctl:=Classical.epsilon fun r=>zlC c r.1 r.2
def zeW (c:Cur)  : Cur:=bif zhj c then (zrx c).1 else ⟨[],0,0⟩
def zj6 (c:Cur)  : Ctl:=(zrx c).2
theorem zJR {c:Cur}(h:zhj c=true):zlC c (zeW c) (zj6 c):=by
 obtain ⟨s,v0,h2⟩:=zD.1 h;have h3:zlC c (zrx c).1 (zrx c).2:=Classical.epsilon_spec (p:=fun r=>zlC c r.1 r.2) ⟨(s,v0),h2⟩;unfold zeW;rw[h,cT];exact h3
theorem zXQ (c:Cur)  : 0<=(zeW c).i:=by
 unfold zeW;cases h:zhj c with
 | false=>exact jX 0
 | true =>
  have:=(zJR h).2.1.2;unfold zeW at this
  rwa [h] at this
theorem zXP (c:Cur)(h:∃N,Ends (fun a=>∃s v0,a=(AV.agg (zbH s) :: [.agg (zAh v0)])/\(s.b=c.b/\0<=s.i)/\(True)) (zmO N c)):zhj c=true:=by
 obtain ⟨N,a,e,s,v0,rfl,h⟩:=h;exact zW ⟨s,v0,⟨N,e⟩,h⟩
def zqw:List CV->List AV->Option (Bool×List CV×List AV)
 | [.s .u8 b,.i .i64 c,.i .i64 d],[]=>some ((zhj (⟨b,c,d⟩:Cur)),zbH (zeW (⟨b,c,d⟩:Cur)),[.agg (zAh (zj6 (⟨b,c,d⟩:Cur)))])
 | _,_=>none
theorem zSm (c:Cur)(hb:zbG big (.agg (zbH c) :: []))(hc:zhj c=true):∃N,zmO N c=some (.agg (zbH (zeW c)) :: [.agg (zAh (zj6 c))]):=by
 exact (zJR hc).1
theorem zLp:zdv Tryz.prog 108 [false,true,true] zqw:=by
 refine zcd (zc4 zdz zV zSU zn) (zex (by kernel_rfl)) ?_
 intro cs avs cs' rs hl hr h;have hb:=zcx hr;unfold zqw at h;split at h
 .obtain ⟨hc,rfl,rfl⟩:=zcQ h;obtain ⟨N,hN⟩:=zSm _ (by exact hb) hc
  exact ⟨rfl,_,N,12,(zUO N _ ).trans hN⟩
 .cases h
theorem z6T {c:Cur}(h:zdj c):zhj c=true:=by
 refine zXP c ⟨0,?_⟩;unfold zmO oN nB
 conv=>zeta
 refine zCo (zCo (zc7 (fun _=>zc7 (fun _=>zCo (zc7 (fun _=>zCo (?_)) (fun _=>?_))) (fun _=>?_)) (fun _=>?_)))
 all_goals exact zkm (fun x=>AV.agg (zAh x)) (v:=⟨_,_,_⟩) (by first|exact zcp _ _|exact zhB _ _) trivial
def zXG:zdk:=[(108,([false,true,true],zqw))]++zXF
theorem zGB:zcw zXG:=zem zSU (by
 intro x hx;simp only[qH,qV,or_false]at hx;rcases hx with rfl
 .exact zLp)
theorem zds {ρ:Type}{G:ρ->Prop}{x:Bool}{a b:Option ρ}(k:Ends G a)(h:x=true:=by first
 | exact zhK (by first|assumption|exact zfc (by assumption) (zcp _ _)|exact zfc (by assumption) (zkU _ _)) _
 | exact zJF (by first|assumption|exact zfc (by assumption) (zcp _ _)) (by simp)
 | exact z6T (zfc (by assumption) (zcp _ _))):Ends G (cond x a b):=zbt h k
def zmQ (N:Nat)(c:Cur)  : OA :=
 let y13:=({ (zC c 2) with b:=c.b }:Cur);let y8:=(zbb c 2);let y2:=(zbb y13 2);let y1:=({ (zC y13 2) with b:=c.b }:Cur);let y10:=(zC y1 24);let y5:=(zbb y1 24);let y0:=({ y10 with b:=c.b }:Cur);let y14:=(zC y0 8);let y12:=({ (zC y0 4) with b:=c.b }:Cur);let y11:=({ y14 with b:=c.b }:Cur);let y9:=({ (zC y0 16) with b:=c.b }:Cur);let y7:=({ (zbT y0 [16,17]) with b:=c.b }:Cur);let y6:=({ (zbT y0 [13,13,14,15]) with b:=c.b }:Cur);let y4:=({ (zC y11 4) with b:=c.b }:Cur);let y3:=({ (zC y12 8) with b:=c.b }:Cur); (share (oN (zdd y0 [13,13,14,15]) (oN (zZ y6 8) (some [(.agg [(.s .u8 c.b),(.i .i64 (zC y6 8).i),(.i .i64 (zC y6 8).h)]),(.agg [(.i .i64 (zeV y0 [13,13,14,15])),(.i .i64 y8),(.i .i64 y2),(.i .i64 (zbb y6 8)),(.i .i64 0),(.i .i64 0)])]))) (fun t5=>(share (cond (ieq y5 16) (oN (zdd y0 [16,17]) (oN (zZ y7 4) (some [(.agg [(.s .u8 c.b),(.i .i64 (zC y7 4).i),(.i .i64 (zC y7 4).h)]),(.agg [(.i .i64 (zeV y0 [16,17])),(.i .i64 y8),(.i .i64 y2),(.i .i64 (zbb y7 4)),(.i .i64 0),(.i .i64 0)])]))) (some [(.agg [(.s .u8 c.b),(.i .i64 y10.i),(.i .i64 y10.h)]),(.agg [(.i .i64 1),(.i .i64 y8),(.i .i64 y2),(.i .i64 0),(.i .i64 0),(.i .i64 0)])])) (fun t4=>(share (oN (zZ y0 4) (oN (zZ y12 8) (oN (zdd y3 [3,3,1,2]) (some [(.agg [(.s .u8 c.b),(.i .i64 (zbT y3 [3,3,1,2]).i),(.i .i64 (zbT y3 [3,3,1,2]).h)]),(.agg [(.i .i64 2),(.i .i64 y8),(.i .i64 y2),(.i .i64 (zbb y0 4)),(.i .i64 (zbb y12 8)),(.i .i64 (zeV y3 [3,3,1,2]))])])))) (fun t3=>(share (oN (zZ y0 4) (some [(.agg [(.s .u8 c.b),(.i .i64 (zC y0 4).i),(.i .i64 (zC y0 4).h)]),(.agg [(.i .i64 3),(.i .i64 y8),(.i .i64 y2),(.i .i64 (zbb y0 4)),(.i .i64 0),(.i .i64 0)])])) (fun t2=>(share (cond (ieq y5 7) (oN (zZ y0 8) (some [(.agg [(.s .u8 c.b),(.i .i64 y14.i),(.i .i64 y14.h)]),(.agg [(.i .i64 6),(.i .i64 y8),(.i .i64 y2),(.i .i64 (zbb y0 8)),(.i .i64 0),(.i .i64 0)])])) (cond (ieq y5 8) (oN (zhj y0) (cond ((zj6 y0).Open) (some [(.agg [(.s .u8 c.b),(.i .i64 (zeW y0).i),(.i .i64 (zeW y0).h)]),(.agg [(.i .i64 7),(.i .i64 y8),(.i .i64 y2),(.i .i64 (zj6 y0).Traps),(.i .i64 (zj6 y0).Post),(.i .i64 1)])]) (some [(.agg [(.s .u8 c.b),(.i .i64 (zeW y0).i),(.i .i64 (zeW y0).h)]),(.agg [(.i .i64 7),(.i .i64 y8),(.i .i64 y2),(.i .i64 (zj6 y0).Traps),(.i .i64 (zj6 y0).Post),(.i .i64 0)])]))) (cond (ieq y5 9) (oN (zZ y0 8) (oN (zZ y11 4) (oN (zZ y4 100) (some [(.agg [(.s .u8 c.b),(.i .i64 (zC y4 100).i),(.i .i64 (zC y4 100).h)]),(.agg [(.i .i64 8),(.i .i64 y8),(.i .i64 y2),(.i .i64 (zbb y0 8)),(.i .i64 (zbb y11 4)),(.i .i64 (zbb y4 100))])])))) (cond (ieq y5 10) (oN (zZ y0 8) (some [(.agg [(.s .u8 c.b),(.i .i64 y14.i),(.i .i64 y14.h)]),(.agg [(.i .i64 9),(.i .i64 y8),(.i .i64 y2),(.i .i64 (zbb y0 8)),(.i .i64 0),(.i .i64 0)])])) (cond (ieq y5 11) (some [(.agg [(.s .u8 c.b),(.i .i64 y10.i),(.i .i64 y10.h)]),(.agg [(.i .i64 10),(.i .i64 y8),(.i .i64 y2),(.i .i64 0),(.i .i64 0),(.i .i64 0)])]) (cond (ieq y5 12) (oN (zZ y0 16) (oN (zZ y9 100) (some [(.agg [(.s .u8 c.b),(.i .i64 (zC y9 100).i),(.i .i64 (zC y9 100).h)]),(.agg [(.i .i64 11),(.i .i64 y8),(.i .i64 y2),(.i .i64 (zbb y0 16)),(.i .i64 (zbb y9 100)),(.i .i64 0)])]))) (cond (ieq y5 13) (oN (zZ y0 16) (some [(.agg [(.s .u8 c.b),(.i .i64 (zC y0 16).i),(.i .i64 (zC y0 16).h)]),(.agg [(.i .i64 12),(.i .i64 y8),(.i .i64 y2),(.i .i64 (zbb y0 16)),(.i .i64 0),(.i .i64 0)])])) (cond (ieq y5 14) (cond (ieq y5 14) t5 t4) (cond (ieq y5 15) t5 t4))))))))) (fun t0=>(share (cond (ieq y5 4) (oN (zZ y0 100) (some [(.agg [(.s .u8 c.b),(.i .i64 (zC y0 100).i),(.i .i64 (zC y0 100).h)]),(.agg [(.i .i64 4),(.i .i64 y8),(.i .i64 y2),(.i .i64 (zbb y0 100)),(.i .i64 0),(.i .i64 0)])])) (cond (ieq y5 5) (cond (ieq y5 5) (some [(.agg [(.s .u8 c.b),(.i .i64 y10.i),(.i .i64 y10.h)]),(.agg [(.i .i64 5),(.i .i64 y8),(.i .i64 y2),(.i .i64 0),(.i .i64 0),(.i .i64 0)])]) t0) (cond (ieq y5 6) (some [(.agg [(.s .u8 c.b),(.i .i64 y10.i),(.i .i64 y10.h)]),(.agg [(.i .i64 5),(.i .i64 y8),(.i .i64 y2),(.i .i64 0),(.i .i64 0),(.i .i64 0)])]) t0))) (fun t1=>(share (cond (ieq y5 2) (cond (ieq y5 2) t2 t1) (cond (ieq y5 3) t2 t1)) (fun t6=>(oN (zZ c 2) (oN (zZ y13 2) (oN (zZ y1 24) (cond (ieq y5 0) (cond (ieq y5 0) t3 t6) (cond (ieq y5 1) t3 t6)))))))))))))))))))
theorem zUR (N:Nat)(c:Cur)  : zgM (cQ zlV zl3 zXG zk5) (zo []) N 12 67 [false,true,true] (zbH c) []=zmQ N c:=by kernel_rfl
def zlF (c:Cur)(s:Cur)(v0:GAct):Prop:=(∃N,zmQ N c=some (AV.agg (zbH s) :: [aT .act v0]))/\(s.b=c.b/\0<=s.i)/\(True)
def zfu (c:Cur)  : Bool:=pc (∃s v0,zlF c s v0)
def zrA (c:Cur)  : Cur×GAct:=Classical.epsilon fun r=>zlF c r.1 r.2
def zdV (c:Cur)  : Cur:=bif zfu c then (zrA c).1 else ⟨[],0,0⟩
def zmg (c:Cur)  : GAct:=(zrA c).2
theorem zJS {c:Cur}(h:zfu c=true):zlF c (zdV c) (zmg c):=by
 obtain ⟨s,v0,h2⟩:=zD.1 h;have h3:zlF c (zrA c).1 (zrA c).2:=Classical.epsilon_spec (p:=fun r=>zlF c r.1 r.2) ⟨(s,v0),h2⟩;unfold zdV;rw[h,cT];exact h3
theorem zXU (c:Cur)  : 0<=(zdV c).i:=by
 unfold zdV;cases h:zfu c with
 | false=>exact jX 0
 | true =>
  have:=(zJS h).2.1.2;unfold zdV at this
  rwa [h] at this
theorem zXT (c:Cur)(h:∃N,Ends (fun a=>∃s v0,a=(AV.agg (zbH s) :: [aT .act v0])/\(s.b=c.b/\0<=s.i)/\(True)) (zmQ N c)):zfu c=true:=by
 obtain ⟨N,a,e,s,v0,rfl,h⟩:=h;exact zW ⟨s,v0,⟨N,e⟩,h⟩
def zqy:List CV->List AV->Option (Bool×List CV×List AV)
 | [.s .u8 b,.i .i64 c,.i .i64 d],[]=>some ((zfu (⟨b,c,d⟩:Cur)),zbH (zdV (⟨b,c,d⟩:Cur)),[aT .act (zmg (⟨b,c,d⟩:Cur))])
 | _,_=>none
theorem zSr (c:Cur)(hb:zbG big (.agg (zbH c) :: []))(hc:zfu c=true):∃N,zmQ N c=some (.agg (zbH (zdV c)) :: [aT .act (zmg c)]):=by
 exact (zJS hc).1
theorem zLu:zdv Tryz.prog 67 [false,true,true] zqy:=by
 refine zcd (zc4 zdz zV zGB zn) (zex (by kernel_rfl)) ?_
 intro cs avs cs' rs hl hr h;have hb:=zcx hr;unfold zqy at h;split at h
 .obtain ⟨hc,rfl,rfl⟩:=zcQ h;obtain ⟨N,hN⟩:=zSr _ (by exact hb) hc
  exact ⟨rfl,_,N,12,(zUR N _ ).trans hN⟩
 .cases h
theorem z6R {c:Cur}(h:zdj c):zfu c=true:=by
 refine zXT c ⟨0,?_⟩;unfold zmQ oN
 conv=>zeta
 refine zlX (zds (zds (?_))) (fun _ ht5=>zlX (zc7 (fun _=>zds (zds (?_))) (fun _=>?_)) (fun _ ht4=>zlX (zds (zds (zds (?_)))) (fun _ ht3=>zlX (zds (?_)) (fun _ ht2=>zlX (zc7 (fun _=>zds (?_)) (fun _=>zc7 (fun _=>zds (zc7 (fun _=>?_) (fun _=>?_))) (fun _=>zc7 (fun _=>zds (zds (zds (?_)))) (fun _=>zc7 (fun _=>zds (?_)) (fun _=>zc7 (fun _=>?_) (fun _=>zc7 (fun _=>zds (zds (?_))) (fun _=>zc7 (fun _=>zds (?_)) (fun _=>zc7 (fun _=>zc7 (fun _=>ht5) (fun _=>ht4)) (fun _=>zc7 (fun _=>ht5) (fun _=>ht4)))))))))) (fun _ ht0=>zlX (zc7 (fun _=>zds (?_)) (fun _=>zc7 (fun _=>zc7 (fun _=>?_) (fun _=>ht0)) (fun _=>zc7 (fun _=>?_) (fun _=>ht0)))) (fun _ ht1=>zlX (zc7 (fun _=>zc7 (fun _=>ht2) (fun _=>ht1)) (fun _=>zc7 (fun _=>ht2) (fun _=>ht1))) (fun _ ht6=>zds (zds (zds (zc7 (fun _=>zc7 (fun _=>ht3) (fun _=>ht6)) (fun _=>zc7 (fun _=>ht3) (fun _=>ht6))))))))))))
 all_goals exact zkm (aT .act) (v:=⟨_,_,_,_,_,_⟩) (by first|exact zcp _ _|exact zkU _ _|exact zXQ _) trivial
def zjw (N:Nat)  : OA :=
 (iter (σ:=(Int×(lA×Unit))) N (fun r1 s2=>(cond (ilt s2.1 2) (iter (σ:=(Int×(Int×(lA×Unit)))) N (fun r3 s4=>(cond (ilt s4.2.1 2) (iter (σ:=(Int×(Int×(Int×(lA×Unit))))) N (fun r5 s6=>let y0:=(ap s6.2.2.2.1 [(⟨2,s6.1,s6.2.1,s6.2.2.1,(zG .i64 s6.2.2.1 (zmn .i64 3 s6.2.1)),3⟩:GAct),(⟨3,s6.1,s6.2.1,s6.2.2.1,0,0⟩:GAct)]); (cond (ilt s6.2.2.1 3) (oN (few (ln y0)) (r5 (s6.1,(s6.2.1,((zG .i64 s6.2.2.1 1),(y0,())))))) (r3 (s6.1,((zG .i64 s6.2.1 1),(s6.2.2.2.1,())))))) (s4.1,(s4.2.1,(0,(s4.2.2.1,()))))) (r1 ((zG .i64 s4.1 1),(s4.2.2.1,()))))) (s2.1,(0,(s2.2.1,())))) (some [(aS .act s2.2.1)]))) (0,([],())))
def zMY:FuncId->Nat->Option Tmpl:=zo [(66,0,{ n:=34,tm:=[(1,.sl 0 []),(2,ti)],lo:=[],ro:=[(0,.act,true)] }),(66,2,{ n:=34,tm:=[(1,.sl 0 []),(2,ti),(3,ti)],lo:=[],ro:=[(0,.act,true)] }),(66,4,{ n:=34,tm:=[(1,.sl 0 []),(2,ti),(3,ti),(4,ti)],lo:=[],ro:=[(0,.act,true)] })]
def ziZ  (v0:List GAct):Prop:=(∃N,zjw N=some [aS .act v0])/\(v0.length<=45)
def zh5  : Bool:=pc (∃v0,ziZ v0)
def zB2  : List GAct:=Classical.epsilon fun r=>ziZ r
def zrB  : List GAct:=(zB2)
theorem zB1  (h:zh5=true):ziZ zrB:=by
 obtain ⟨v0,h2⟩:=zD.1 h;have h3:ziZ (zB2):=Classical.epsilon_spec (p:=fun r=>ziZ r) ⟨v0,h2⟩;exact h3
theorem zTb  (h:∃N,Ends (fun a=>∃v0,a=[aS .act v0]/\(v0.length<=45)) (zjw N)):zh5=true:=by
 obtain ⟨N,a,e,v0,rfl,h⟩:=h;exact zW ⟨v0,⟨N,e⟩,h⟩
def zwz:Run:=rF0 (zh5,[aS .act zrB])
theorem zMe  (hc:zh5=true):∃N,zjw N  = some [aS .act zrB]:=by
 exact (zB1 hc).1
theorem zGd:vB 66 zwz:=kF0 zdz zV zGB zn zMY zMe
def zYq:List GAct:=match zjw 10 with
 | some [.one (.s .act l)]=>l
 | _=>[]
theorem zVu:zh5=true:=zTb ⟨10,_,(by kernel_rfl:zjw 10=some [aS .act zYq]),zYq,rfl,Nat.le_of_ble_eq_true (by kernel_rfl)⟩
def zXH:zdk:=[(67,([false,true,true],zqy))]++zXG
theorem zSV:zcw zXH:=zem zGB (by
 intro x hx;simp only[qH,qV,or_false]at hx;rcases hx with rfl
 .exact zLu)
def zYu:zO:=[(66,zwz)]++zlV
theorem zYv:zF zYu:=zh zGd zdz
theorem zN1 {c:Cur}(h:zdj c){m:Int}(h0:0<=m)(hm:m<=1000){G:Ans->Prop}{R:Cur->List GAct->Ans}(hG:∀s l,s.b=c.b->0<=s.i->ln l<=45+m->G (R s l)){F:(Int×Int×Int×Int×List GAct×List Int×Unit->OA)->Int×Int×Int×Int×List GAct×List Int×Unit->OA}(hF:∀rec t i k l,F rec (m,t,i,k,l,c.b,())=bif zZ ⟨c.b,i,k⟩ (zG .i64 m 1) then (bif ilt t (zbb ⟨c.b,i,k⟩ (zG .i64 m 1)) then (bif zfu { zC ⟨c.b,i,k⟩ (zG .i64 m 1) with b:=c.b } then (bif few (ln (ap l [zmg { zC ⟨c.b,i,k⟩ (zG .i64 m 1) with b:=c.b }])) then
        rec (m,zG .i64 t 1,(zdV { zC ⟨c.b,i,k⟩ (zG .i64 m 1) with b:=c.b }).i,(zdV { zC ⟨c.b,i,k⟩ (zG .i64 m 1) with b:=c.b }).h,ap l [zmg { zC ⟨c.b,i,k⟩ (zG .i64 m 1) with b:=c.b }],c.b,()) else none) else none) else some (R ⟨c.b,(zC ⟨c.b,i,k⟩ (zG .i64 m 1)).i,(zC ⟨c.b,i,k⟩ (zG .i64 m 1)).h⟩ l)) else none){i0 k0:Int}(hi0:0<=i0){l0:List GAct}(hl0:l0.length<=45):Ends G (iter 1002 F (m,0,i0,k0,l0,c.b,())):=by
 refine zvA (fun n s=>s.1=m/\s.2.1+(n:Int)=1000/\0<=s.2.1/\0<=s.2.2.1/\(ln s.2.2.2.2.1<=45+s.2.1/\s.2.1<=m)/\s.2.2.2.2.2.1=c.b) ?_ 1002 1000 _ ⟨rfl,rfl,jX 0,hi0,⟨by unfold ln;show ((l0.length:Nat):Int)<=45+0;omega,h0⟩,rfl⟩ (by omega)
 rintro n ⟨q,t,i,k,l,b,u⟩ rec ⟨h0,h1,h2,h3,⟨h5,hq⟩,h6⟩ hrec
 dsimp only at h0 h1 h2 h3 h5 h6 hq
 subst h6;subst h0;rw[hF];have hcur:zdj ⟨c.b,i,k⟩:=zfc h h3;have hw:=zmK (x:=q) (y:=1) (by omega) (by omega) (by omega) (by omega)
 have hx:=zlU hcur (n:=zG .i64 q 1) (by omega)
 have h7:zdj { zC ⟨c.b,i,k⟩ (zG .i64 q 1) with b:=c.b }:=zfc h (zcp _ _);refine zbt (zhK hcur _) (zc7 (fun hc=>?_) (fun hc=>?_))
 .have hlt:t<zbb ⟨c.b,i,k⟩ (zG .i64 q 1):=qE hc;have ht:=zmK (y:=1) h2 (by omega) (by omega) (by omega)
  refine zbt (z6R h7) (zbt (zvB (by rw[zpb];omega)) (hrec (n-1) _ (by omega) ⟨rfl,?_,?_,zXU _,⟨?_,?_⟩,rfl⟩))
  .show zG .i64 t 1+_=1000
   omega
  .show 0<=zG .i64 t 1
   omega
  .show ln (ap l [_])<=45+zG .i64 t 1
   rw[zpb];omega
  .show zG .i64 t 1<=q
   omega
 .refine zAp (hG _ l rfl (zcp _ _) ?_);omega
def zla (N:Nat)(c:Cur)(a0:Int):OA:=
 (oN (zea c 5) (cond (nB (zj3 c 5)) (oN zh5 (iter (σ:=(Int×(Int×(Int×(Int×(lA×((List Int)×Unit))))))) N (fun r3 s4=>let y6:=s4.2.2.2.2.2.1;let y4:=(zG .i64 s4.1 1);let y2:=(⟨y6,s4.2.2.1,s4.2.2.2.1⟩:Cur);let y0:=({ (zC y2 y4) with b:=y6 }:Cur);let y8:=(ap s4.2.2.2.2.1 [(zmg y0)]); (oN (zZ y2 y4) (cond (ilt s4.2.1 (zbb y2 y4)) (oN (zfu y0) (oN (few (ln y8)) (r3 (s4.1,((zG .i64 s4.2.1 1),((zdV y0).i,((zdV y0).h,(y8,(y6,()))))))))) (some [(.agg [(.s .u8 y6),(.i .i64 (zC y2 y4).i),(.i .i64 (zC y2 y4).h)]),(aS .act s4.2.2.2.2.1)])))) (a0,(0,((zcl c 5).i,((zcl c 5).h,(zrB,(c.b,())))))))) (iter (σ:=(Int×(Int×(Int×(Int×(lA×((List Int)×Unit))))))) N (fun r3 s4=>let y7:=s4.2.2.2.2.2.1;let y5:=(zG .i64 s4.1 1);let y3:=(⟨y7,s4.2.2.1,s4.2.2.2.1⟩:Cur);let y1:=({ (zC y3 y5) with b:=y7 }:Cur);let y9:=(ap s4.2.2.2.2.1 [(zmg y1)]); (oN (zZ y3 y5) (cond (ilt s4.2.1 (zbb y3 y5)) (oN (zfu y1) (oN (few (ln y9)) (r3 (s4.1,((zG .i64 s4.2.1 1),((zdV y1).i,((zdV y1).h,(y9,(y7,()))))))))) (some [(.agg [(.s .u8 y7),(.i .i64 (zC y3 y5).i),(.i .i64 (zC y3 y5).h)]),(aS .act s4.2.2.2.2.1)])))) (a0,(0,((zcl c 5).i,((zcl c 5).h,([],(c.b,())))))))))
def zP6:FuncId->Nat->Option Tmpl:=zo [(43,0,{ n:=26,tm:=[(0,.lp 0 0),(1,ti),(5,.sl 0 []),(6,ti)],lo:=[(0,[.sl 1 [],ti,ti])],ro:=[(0,.act,true),(1,.u8,false)] })]
theorem zSK (N:Nat)(c:Cur)(a0:Int):zgM (cQ zYu zl3 zXH zk5) zP6 N 12 43 [false,true,true] (zbH c) [aI a0]=zla N c a0:=by kernel_rfl
def zj8 (c:Cur)(a0:Int)(s:Cur)(v0:List GAct):Prop:=(∃N,zla N c a0=some (AV.agg (zbH s) :: [aS .act v0]))/\(s.b=c.b/\0<=s.i)/\(ln v0<=45+a0)
def zgi (c:Cur)(a0:Int):Bool:=pc (∃s v0,zj8 c a0 s v0)
def zpL (c:Cur)(a0:Int):Cur×List GAct:=Classical.epsilon fun r=>zj8 c a0 r.1 r.2
def zfv (c:Cur)(a0:Int):Cur:=bif zgi c a0 then (zpL c a0).1 else ⟨[],0,0⟩
def zmE (c:Cur)(a0:Int):List GAct:=(zpL c a0).2
theorem zva {c:Cur}{a0:Int}(h:zgi c a0=true):zj8 c a0 (zfv c a0) (zmE c a0):=by
 obtain ⟨s,v0,h2⟩:=zD.1 h;have h3:zj8 c a0 (zpL c a0).1 (zpL c a0).2:=Classical.epsilon_spec (p:=fun r=>zj8 c a0 r.1 r.2) ⟨(s,v0),h2⟩;unfold zfv;rw[h,cT];exact h3
theorem zU4 (c:Cur)(a0:Int):0<=(zfv c a0).i:=by
 unfold zfv;cases h:zgi c a0 with
 | false=>exact jX 0
 | true =>
  have:=(zva h).2.1.2;unfold zfv at this
  rwa [h] at this
theorem zU3 (c:Cur)(a0:Int)(h:∃N,Ends (fun a=>∃s v0,a=(AV.agg (zbH s) :: [aS .act v0])/\(s.b=c.b/\0<=s.i)/\(ln v0<=45+a0)) (zla N c a0)):zgi c a0=true:=by
 obtain ⟨N,a,e,s,v0,rfl,h⟩:=h;exact zW ⟨s,v0,⟨N,e⟩,h⟩
def zoA:List CV->List AV->Option (Bool×List CV×List AV)
 | [.s .u8 b,.i .i64 c,.i .i64 d],[.one (.i .i64 e)]=>some ((zgi (⟨b,c,d⟩:Cur) e),zbH (zfv (⟨b,c,d⟩:Cur) e),[aS .act (zmE (⟨b,c,d⟩:Cur) e)])
 | _,_=>none
theorem zPN (c:Cur)(a0:Int)(hb:zbG big (.agg (zbH c) :: [aI a0]))(hc:zgi c a0=true):∃N,zla N c a0=some (.agg (zbH (zfv c a0)) :: [aS .act (zmE c a0)]):=by
 exact (zva hc).1
theorem zIV:zdv Tryz.prog 43 [false,true,true] zoA:=by
 refine zcd (zc4 zYv zV zSV zn) (zex (by kernel_rfl)) ?_
 intro cs avs cs' rs hl hr h;have hb:=zcx hr;unfold zoA at h;split at h
 .obtain ⟨hc,rfl,rfl⟩:=zcQ h;obtain ⟨N,hN⟩:=zPN _ _ (by exact hb) hc
  exact ⟨rfl,_,N,12,(zSK N _ _ ).trans hN⟩
 .cases h
theorem zYk {c:Cur}(h:zdj c){m:Int}(h0:0<=m)(hm:m<=1000):zgi c m=true:=by
 refine zU3 c m ⟨1002,?_⟩;unfold zla oN nB
 conv=>zeta
 have g:=zB1 zVu;exact zbt (zSL h 5) (zc7 (fun _=>zbt zVu (zN1 h h0 hm (R:=fun s l=>AV.agg (zbH s) :: [aS .act l]) (fun s l hb hi hl=>⟨s,l,rfl,⟨hb,hi⟩,hl⟩) (fun rec t i k l=>rfl) (zhB _ _) g.2)) (fun _=>zN1 h h0 hm (R:=fun s l=>AV.agg (zbH s) :: [aS .act l]) (fun s l hb hi hl=>⟨s,l,rfl,⟨hb,hi⟩,hl⟩) (fun rec t i k l=>rfl) (zhB _ _) (jU _)))
def zXI:zdk:=[(43,([false,true,true],zoA))]++zXH
theorem zSW:zcw zXI:=zem zSV (by
 intro x hx;simp only[qH,qV,or_false]at hx;rcases hx with rfl
 .exact zIV)
def zCh (h:Host):Prop:=∃ps l,zHG ps/\(1<=ps.length/\∀p∈ps,1<=p.length/\∀x∈p,zcR x=true)/\h=(zxk ps l).1
theorem z1R {p:List Ins}(h:zcR p=true):p.length<=12:=by
 unfold zcR at h;cases hc:p.all zdr with
 | false=>rw[hc]at h;cases h
 | true =>
  rw[hc,cT]at h;have h2:=(zfQ.1 h).2;unfold ln at h2;omega
def zk9 (N:Nat)(c:Cur)  : OA :=
 let y0:=({ (zft c) with b:=c.b }:Cur); (oN (zhl c) (oN (zgi y0 20) (oN (zsK (zoS c) (zmE y0 20)) (some [(.agg [(.s .u8 c.b),(.i .i64 (zfv y0 20).i),(.i .i64 (zfv y0 20).h)]),(aH (zsJ (zoS c) (zmE y0 20)))]))))
theorem zSG (N:Nat)(c:Cur)  : zgM (cQ zFs zl3 zXI zk5) (zo []) N 12 18 [false,true,true] (zbH c) []=zk9 N c:=by kernel_rfl
def zj7 (c:Cur)(s:Cur)(v0:Host):Prop:=(∃N,zk9 N c=some (AV.agg (zbH s) :: [aH v0]))/\(s.b=c.b/\0<=s.i)/\(zCh v0)
def zec (c:Cur)  : Bool:=pc (∃s v0,zj7 c s v0)
def zpJ (c:Cur)  : Cur×Host:=Classical.epsilon fun r=>zj7 c r.1 r.2
def zpK (c:Cur)  : Cur:=bif zec c then (zpJ c).1 else ⟨[],0,0⟩
def zid (c:Cur)  : Host:=(zpJ c).2
theorem zE2 {c:Cur}(h:zec c=true):zj7 c (zpK c) (zid c):=by
 obtain ⟨s,v0,h2⟩:=zD.1 h;have h3:zj7 c (zpJ c).1 (zpJ c).2:=Classical.epsilon_spec (p:=fun r=>zj7 c r.1 r.2) ⟨(s,v0),h2⟩;unfold zpK;rw[h,cT];exact h3
theorem zU2 (c:Cur)(h:∃N,Ends (fun a=>∃s v0,a=(AV.agg (zbH s) :: [aH v0])/\(s.b=c.b/\0<=s.i)/\(zCh v0)) (zk9 N c)):zec c=true:=by
 obtain ⟨N,a,e,s,v0,rfl,h⟩:=h;exact zW ⟨s,v0,⟨N,e⟩,h⟩
def zoz:List CV->List AV->Option (Bool×List CV×List AV)
 | [.s .u8 b,.i .i64 c,.i .i64 d],[]=>some ((zec (⟨b,c,d⟩:Cur)),zbH (zpK (⟨b,c,d⟩:Cur)),[aH (zid (⟨b,c,d⟩:Cur))])
 | _,_=>none
theorem zPH (c:Cur)(hb:zbG big (.agg (zbH c) :: []))(hc:zec c=true):∃N,zk9 N c=some (.agg (zbH (zpK c)) :: [aH (zid c)]):=by
 exact (zE2 hc).1
theorem zIP:zdv Tryz.prog 18 [false,true,true] zoz:=by
 refine zcd (zc4 zuN zV zSW zn) (zex (by kernel_rfl)) ?_
 intro cs avs cs' rs hl hr h;have hb:=zcx hr;unfold zoz at h;split at h
 .obtain ⟨hc,rfl,rfl⟩:=zcQ h;obtain ⟨N,hN⟩:=zPH _ (by exact hb) hc
  exact ⟨rfl,_,N,12,(zSG N _ ).trans hN⟩
 .cases h
theorem zZl {c:Cur}(h:zdj c):zec c=true:=by
 refine zU2 c ⟨0,?_⟩;have h1:zdj { zft c with b:=c.b }:=zfc h (zXS _);have g1:=(zxX (z2v h)).2.2;have g2:=(zva (zYk h1 (m:=20) (by omega) (by omega))).2.2
 unfold zk9 oN
 conv=>zeta
 have g3:(zmE { zft c with b:=c.b } 20).length<=65:=by
  unfold ln at g2;omega
 have S:zHG (zoS c):=⟨by omega,fun p hp=>by
  have g:=g1.2.2 p hp;exact ⟨by omega,fun x hx=>by have:=z1R (g.2.2 x hx);omega⟩⟩
 exact zbt (z2v h) (zbt (zYk h1 (by omega) (by omega)) (zbt (zW ⟨S,jB g3 (by decide)⟩) (zkm aH (zU4 _ _) ⟨_,_,S,⟨g1.1,fun p hp=>⟨(g1.2.2 p hp).1,(g1.2.2 p hp).2.2⟩⟩,rfl⟩)))
def zXJ:zdk:=[(18,([false,true,true],zoz))]++zXI
theorem zxH:zcw zXJ:=zem zSW (by
 intro x hx;simp only[qH,qV,or_false]at hx;rcases hx with rfl
 .exact zIP)
theorem zRf {α τ ρ:Type}{G:ρ->Prop}{body:Nat->α->τ->(τ->Option ρ)->Option ρ}{K:τ->Option ρ}(hb:∀i x t κ,(∀t,Ends G (κ t))->Ends G (body i x t κ))(hK:∀t,Ends G (K t)):∀(l:List α) (i:Nat) (t:τ),Ends G (goL body K l i t)
 | [],i,t=>hK t
 | x :: l,i,t=>hb i x t _ (fun t=>zRf hb hK l (i+1) t)
def zmM (N:Nat)(a0:List Int):OA:=
 (iter (σ:=(Int×(Int×((List Int)×(lM×(lN×(lE×(lE×Unit)))))))) N (fun r2 s3=>let y0:=(⟨s3.2.2.1,0,s3.1⟩:Cur); (cond (ilt s3.2.1 (ln s3.2.2.1)) (cond (ilt s3.2.1 4000) (oN (inb s3.2.1 (ln s3.2.2.1)) (r2 ((wand .i64 (zG .i64 (zG .i64 (zmn .i64 s3.1 131) (wcv .i64 (ix s3.2.2.1 s3.2.1 0))) 7) 1073741823),((zG .i64 s3.2.1 1),(s3.2.2.1,(s3.2.2.2.1,(s3.2.2.2.2.1,(s3.2.2.2.2.2.1,(s3.2.2.2.2.2.2.1,()))))))))) (oN (zec y0) (some [(aH (zid y0))]))) (oN (zec y0) (some [(aH (zid y0))])))) ((zG .i64 94701 (ln a0)),(0,(a0,([],([],([],([],()))))))))
def zMR:FuncId->Nat->Option Tmpl:=zo [(19,0,{ n:=32,tm:=[(0,.sl 0 []),(3,ti),(4,ti)],lo:=[(0,[.sl 1 [],.sl 2 [],.sl 3 [],.sl 4 []])],ro:=[(0,.u8,false),(1,(.sl .int),true),(2,.mon,true),(3,.entry,true),(4,.entry,true)],sk:=[(0,2,0,.lp 0 0)] })]
def ziR (a0:List Int)(v0:Host):Prop:=(∃N,zmM N a0=some [aH v0])/\(zCh v0)
def zh0 (a0:List Int):Bool:=pc (∃v0,ziR a0 v0)
def zBT (a0:List Int):Host:=Classical.epsilon fun r=>ziR a0 r
def znz (a0:List Int):Host:=(zBT a0)
theorem zBS {a0:List Int}(h:zh0 a0=true):ziR a0 (znz a0):=by
 obtain ⟨v0,h2⟩:=zD.1 h;have h3:ziR a0 (zBT a0):=Classical.epsilon_spec (p:=fun r=>ziR a0 r) ⟨v0,h2⟩;exact h3
theorem zS6 (a0:List Int)(h:∃N,Ends (fun a=>∃v0,a=[aH v0]/\(zCh v0)) (zmM N a0)):zh0 a0=true:=by
 obtain ⟨N,a,e,v0,rfl,h⟩:=h;exact zW ⟨v0,⟨N,e⟩,h⟩
def zwh:Run:=rF1 (dS .u8) fun b=>(zh0 b,[aH (znz b)])
theorem zLT (a0:List Int)(hc:zh0 a0=true):∃N,zmM N a0=some [aH (znz a0)]:=by
 exact (zBS hc).1
theorem zFT:vB 6 zwh:=kF1 zuN zV zxH zn zMR zLT
theorem zHY {a0:List Int}(h:a0.length<=big):zh0 a0=true:=by
 refine zS6 a0 (zbP fun N hNN=>?_);unfold zmM oN
 conv=>zeta
 have fin:∀t,Ends (fun a=>∃v0,a=[aH v0]/\zCh v0) (cond (zec ⟨a0,0,t⟩) (some [aH (zid ⟨a0,0,t⟩)]) none):=fun t =>
  have hc:zdj ⟨a0,0,t⟩:=⟨jX 0,h⟩
  zbt (zZl hc) ⟨_,rfl,_,rfl,(zE2 (zZl hc)).2.2⟩
 refine (congrArg (Ends _) (zbc a0 (fun i (t:Int)=>(t,(i:Int),a0,[],[],[],[],())) _ (fun i x (t:Int) κ=>bif ilt (i:Int) 4000 then κ (wand .i64 (zG .i64 (zG .i64 (zmn .i64 t 131) (wcv .i64 x)) 7) 1073741823) else (cond (zec ⟨a0,0,t⟩) (some [aH (zid ⟨a0,0,t⟩)]) none)) (fun (t:Int)=>(cond (zec ⟨a0,0,t⟩) (some [aH (zid ⟨a0,0,t⟩)]) none)) (fun i hi t rec=>?_) (fun t rec=>?_) N (zG .i64 94701 (ln a0)) (hNN h))).mpr ?_
 .simp only [zbf hi,zN hi,zba hi,zT hi h,cT]
 .simp only [zbd,cF]
 exact zRf (fun i x t κ hk=>zc7 (fun _=>hk _) (fun _=>fin t)) fin _ _ _
def zYw:zO:=[(6,zwh)]++zFs
theorem zYx:zF zYw:=zh zFT zuN
theorem zWe:∀(l:List GAct) (u:Host×List Told),SmH u.1->SmH (zA7 l u).1
 | [],u,h=>h
 | a :: l,u,h=>zWe l (zd1 u.1 a,ap u.2 [ziq u.1 a]) (zWc h)
theorem z1z {h:Host}(L:zCh h):Safe h/\SmH h:=by
 obtain ⟨ps,l,hS,hp,rfl⟩:=L;refine ⟨?_,zWe _ _ (zWd hS)⟩;unfold zxk;rw[zV4];exact (zY5 _ (zXc hp)).1
def zYy:zO:=zYw
theorem zAk:zF zYy:=zYx
def zQw (l:List Int):Prop:=l.length=12/\∀i:Int,0<=i->i<12->0<=ix l i 0/\ix l i 0<10000
def z3Q:zdk:=zXJ
theorem z1N:zcw z3Q:=zxH
def z7g:zdk:=z3Q
theorem z1O:zcw z7g:=z1N
def zke (N:Nat)(a0:List Int):OA:=
 (iter (σ:=(Int×(Int×((List Int)×((List Int)×Unit))))) N (fun r2 s3=>let y4:=s3.2.2.1; (cond (ilt s3.2.1 (ln y4)) (cond (ilt s3.2.1 4000) (oN (inb s3.2.1 (ln y4)) (r2 ((wand .i64 (zG .i64 (zG .i64 (zmn .i64 s3.1 131) (wcv .i64 (ix y4 s3.2.1 0))) 7) 1073741823),((zG .i64 s3.2.1 1),(y4,(s3.2.2.2.1,())))))) (iter (σ:=(Int×(Int×(Int×((List Int)×((List Int)×Unit)))))) N (fun r4 s5=>let y0:=(⟨s5.2.2.2.2.1,s5.2.1,s5.2.2.1⟩:Cur);let y2:=(ap s5.2.2.2.1 [(zbb y0 10000)]); (cond (ilt s5.1 12) (oN (zZ y0 10000) (oN (few (ln y2)) (r4 ((zG .i64 s5.1 1),((zC y0 10000).i,((zC y0 10000).h,(y2,(s5.2.2.2.2.1,())))))))) (some [(aS .int s5.2.2.2.1)]))) (0,(0,(s3.1,([],(y4,()))))))) (iter (σ:=(Int×(Int×(Int×((List Int)×((List Int)×Unit)))))) N (fun r4 s5=>let y1:=(⟨s5.2.2.2.2.1,s5.2.1,s5.2.2.1⟩:Cur);let y3:=(ap s5.2.2.2.1 [(zbb y1 10000)]); (cond (ilt s5.1 12) (oN (zZ y1 10000) (oN (few (ln y3)) (r4 ((zG .i64 s5.1 1),((zC y1 10000).i,((zC y1 10000).h,(y3,(s5.2.2.2.2.1,())))))))) (some [(aS .int s5.2.2.2.1)]))) (0,(0,(s3.1,([],(y4,())))))))) ((zG .i64 94701 (ln a0)),(0,(a0,([],())))))
def zGR:FuncId->Nat->Option Tmpl:=zo [(19,0,{ n:=32,tm:=[(0,.sl 0 []),(3,ti),(4,ti)],lo:=[],ro:=[(0,.u8,false),(1,.int,true)],sk:=[(0,2,0,.sl 1 [])] }),(14,0,{ n:=19,tm:=[(3,.lp 0 0),(4,.sl 0 []),(5,ti)],lo:=[(0,[.sl 1 [],ti,ti])],ro:=[(0,.int,true),(1,.u8,false)] })]
def zhc (a0:List Int)(v0:List Int):Prop:=(∃N,zke N a0=some [aS .int v0])/\(zQw v0)
def zgw (a0:List Int):Bool:=pc (∃v0,zhc a0 v0)
def zwD (a0:List Int):List Int:=Classical.epsilon fun r=>zhc a0 r
def zfD (a0:List Int):List Int:=(zwD a0)
theorem zwC {a0:List Int}(h:zgw a0=true):zhc a0 (zfD a0):=by
 obtain ⟨v0,h2⟩:=zD.1 h;have h3:zhc a0 (zwD a0):=Classical.epsilon_spec (p:=fun r=>zhc a0 r) ⟨v0,h2⟩;exact h3
theorem zMy (a0:List Int)(h:∃N,Ends (fun a=>∃v0,a=[aS .int v0]/\(zQw v0)) (zke N a0)):zgw a0=true:=by
 obtain ⟨N,a,e,v0,rfl,h⟩:=h;exact zW ⟨v0,⟨N,e⟩,h⟩
def zsx:Run:=rF1 (dS .u8) fun b=>(zgw b,[aS .int (zfD b)])
theorem zGq (a0:List Int)(hc:zgw a0=true):∃N,zke N a0=some [aS .int (zfD a0)]:=by
 exact (zwC hc).1
theorem zAD:vB 14 zsx:=kF1 zAk zV z1O zn zGR zGq
theorem zSZ {a0:List Int}(h:a0.length<=big):zgw a0=true:=by
 refine zMy a0 (zbP fun N hNN=>?_);unfold zke oN
 conv=>zeta
 have h12:12<N:=hNN (by rw[zrC];omega)
 refine zvA (fun n s=>∃(t:Int) (i:Nat),s=(t,(i:Int),a0,[],())/\i+n=a0.length) ?_ N a0.length _ ⟨_,0,rfl,by omega⟩ (hNN h)
 rintro n s rec ⟨t,i,rfl,hi⟩ hrec
 dsimp only
 refine zc7 (fun h1=>zc7 (fun h2=>?_) (fun _=>?_)) (fun _=>?_)
 .have hlt:(i:Int)<ln a0:=qE h1;unfold ln at hlt;refine zbt (qI ⟨by omega,by unfold ln;omega⟩) (hrec (n-1) _ (by omega) (by rw[zT (show i<a0.length by omega) h];exact ⟨_,i+1,rfl,by omega⟩))
 all_goals
  refine zvA (fun n s=>∃(k:Nat) (i x:Int) (l:List Int),s=((k:Int),i,x,l,a0,())/\k+n=12/\0<=i/\l.length=k/\∀y∈l,0<=y/\y<10000) ?_ N 12 _ ⟨0,0,t,[],rfl,rfl,jX 0,rfl,by simp⟩ h12
  rintro n' s rec' ⟨k,i',x,l,rfl,hk,hi0,hlk,hl⟩ hrec'
  dsimp only
  have hcur:zdj ⟨a0,i',x⟩:=⟨hi0,h⟩;have hx:=zlU hcur (n:=10000) (by omega)
  refine zc7 (fun h3=>?_) (fun h3=>⟨_,rfl,l,rfl,?_⟩)
  .have h3':(k:Int)<12:=qE h3;have hnew:∀y∈ap l [zbb ⟨a0,i',x⟩ 10000],0<=y/\y<10000:=by
    intro y hy;rcases jJ.1 hy with hy|hy
    .exact hl y hy
    .rw [qF.1 hy];exact hx
   exact zbt (zhK hcur _) (zbt (zvB (by rw[zpb];unfold ln;omega)) (hrec' (n'-1) _ (by omega) (by rw[zmJ (show -9223372036854775808<=(k:Int)+1 by omega) (by omega)];exact ⟨k+1,_,_,_,rfl,by omega,zcp _ _,by simp[ap,hlk],hnew⟩)))
  .have h3':¬ (k:Int)<12:=jV h3;exact ⟨by omega,fun j h0 h1=>hl _ (zbq (qI ⟨h0,by unfold ln;omega⟩) 0)⟩
theorem zSy {α β:Type}{f:α->β}{l:List α}{x:β}{xs:List β}(h:l.map f=x :: xs):∃a r,l=a :: r/\f a=x/\r.map f=xs:=by
 cases l with
 | nil=>cases h
 | cons a r =>
  simp only[q0,List.cons.injEq]at h;exact ⟨a,r,rfl,h.1,h.2⟩
theorem z6H {a:AV}{ct:CTy}(h:some a.sh=some (false,[ct])):∃c,a = .one c/\c.ty=ct:=by
 cases a with
 | one c =>
  simp only[AV.sh,qC,jS,List.cons.injEq,and_true,true_and]at h;exact ⟨c,rfl,h⟩
 | agg l=>simp[AV.sh]at h
theorem z7G {a:AV}{t:Ty}(h:some a.sh=some (false,[.s t])):∃l:List t.den,a = .one (.s t l):=by
 obtain ⟨c,rfl,hc⟩:=z6H h;obtain ⟨l,rfl⟩:=zkk hc;exact ⟨l,rfl⟩
section
open Go Go.ChangeShapes Go.WideShapes Go.ChangeAt
abbrev zLA (_:List Int):Bool:=true
abbrev zI0 (l:List Int):Bool:=igt (ln l) 1048576
def zOj:Run:=rF1 (dS .u8) fun b=>(zLA b,[aB (zI0 b)])
def zVp (N:Nat)(a0:List Int):OA:=
 (some [(aB (igt (ln a0) 1048576))])
theorem zZw (a0:List Int)(hc:zLA a0=true):∃N,zVp N a0=some [aB (zI0 a0)]:=by
 refine ⟨0,?_⟩;unfold zVp
 first|rfl|(simp only [*,zI0,cT,cF]<;>rfl)|simp_all[Ty.cells,zI0]
theorem zUf:vB 5 zOj:=kF1 zAk zV zxH zn (zo []) zZw
def z3c:zO:=[(5,zOj),(14,zsx),(8,zv8),(12,zwt),(15,zsr),(16,zss),(17,zqB)]++zYy
theorem z07:zF z3c:=zh zUf (zh zAD (zh zFK (zh zF5 (zh zvH (zh zvI (zh ztw zAk))))))
def zoX (N:Nat)(a0:List Int):OA:=
 let y3:=(znz a0);let y2:=(zkd (ix (zfD a0) 1 0) 8);let y1:=(zkd (ix (zfD a0) 0 0) (ln y3.Mons));let y0:=(zi5 (zkp y3 y1 y2) y1 y2);let y6:=(znP y0 y3);let y5:=(aB (zxS y0 y3));let y4:=(ieq (ln (zdJ y0)) (zG .i64 (ln (zdJ y3)) 1)); (oN (zLA a0) (cond (zI0 a0) oT (oN (zh0 a0) (oN (zgw a0) (oN (inb 0 (ln (zfD a0))) (oN (ine (ln y3.Mons) 0) (oN (inb 1 (ln (zfD a0))) (oN (ine 8 0) (oN (zeK y3) (oN (zxn y3 y1 y2) (oN (zo8 (zkp y3 y1 y2) y1 y2) (oN (zo8 y0 y1 y2) (cond (zle (zkp y3 y1 y2) y1 y2) (cond (nB (zle y0 y1 y2)) (oN (zsi y0 (zi5 y0 y1 y2)) (cond (zre y0 (zi5 y0 y1 y2)) (cond (nB (zkq y3 y1 y2)) (cond (zkq y3 y1 y2) (oN y6 (some [y5])) (oN (zeK y0) (cond y4 (oN y6 (some [y5])) oF))) (oN (zeK y0) (cond (ige (ln (zdJ y0)) (ln (zdJ y3))) (cond (zkq y3 y1 y2) (oN y6 (some [y5])) (oN (zeK y0) (cond y4 (oN y6 (some [y5])) oF))) oF))) oF)) oF) oF)))))))))))))
theorem zSC (N:Nat)(a0:List Int):evalFn (cQ z3c zl3 zXJ zk5) (zo []) N 12 4 [aS .u8 a0]=zoX N a0:=by kernel_rfl
theorem zKB (N:Nat)(a0:List Int)(hl:a0.length<=big):Ends (fun a=>a=[.one (.b true)]) (zoX N a0):=by
 unfold zoX oN nB
 conv=>zeta
 refine zbt rfl (zc7 (fun _=>zAp rfl) (fun _=>zbt (zHY hl) (zbt (zSZ hl) ?_)));obtain ⟨S,hs⟩:=z1z (zBS (zHY hl)).2;obtain ⟨hp1,hp2⟩:=(zwC (zSZ hl)).2;generalize znz a0=h at S hs;generalize zfD a0=p at hp1 hp2;have hS:zbz h:=(zJ h).2 hs;have hn1:=S.ok.n1;have hlp:ln p=12:=by unfold ln;omega
 have hM:(0:Int)<ln h.Mons:=by unfold ln;omega
 have mM:=zCL (hp2 0 (by omega) (by omega)).1 hM
 have m8:=zCL (hp2 1 (by omega) (by omega)).1 (show (0:Int)<8 by omega)
 generalize zkd (ix p 0 0) (ln h.Mons)=m at mM;generalize zkd (ix p 1 0) 8=q at m8;have hm:hasB m (ln h.Mons)=true:=zu.2 mM;have hq:hasB q 8=true:=zu.2 m8;obtain ⟨o1,o2,o3,o4,o5,o6,S3,S2,l2⟩:=z6u S hm hq;have hs2:SmH (zcH h m q):=z0j hs;have hs3:SmH (zbL (zcH h m q) m q):=zMB hs2;have hs4:SmH (zbL (zbL (zcH h m q) m q) m q):=zMB hs3;have f1:(zby h).length<=12:=by have:=zr2 S.ok;omega
 have c1:inb 0 (ln p)=true:=zB (zu.2 (by omega))
 have c2:inb 1 (ln p)=true:=zB (zu.2 (by omega))
 have c3:ine (ln h.Mons) 0=true:=zos.2 (by omega)
 have sc:znP (zbL (zcH h m q) m q) h=true:=zW ⟨(zJ _).2 hs3,hS,o6⟩;have fc:zeK (zbL (zcH h m q) m q)=true:=zW hs3.1.1;refine zbt c1 (zbt c3 (zbt c2 (zbt rfl (zbt (zW hs.1.1) (zbt (zW hS) (zbt (zW ((zJ _).2 hs2)) (zbt (zW ((zJ _).2 hs3)) (zbt o1 (zbt ?_ (zbt (zW o3.symm) (zbt rfl ?_)))))))))))
 .show (cond (ze8 (zbL (zcH h m q) m q) m q) false true)=true
  rw[o2];rfl
 .show Ends _ (cond (cond (zfe h m q) false true) (cond (zfe h m q) _ _) _)
  cases hk:zfe h m q with
  | false =>
   refine zbt rfl (zVz rfl (zbt fc (zbt ?_ (zbt sc (zAp rfl)))));have:=o5 hk
   show ieq ((zby (zbL (zcH h m q) m q)).length:Int) (zG .i64 ((zby h).length:Int) 1)=true
   rw[zmJ (by omega) (by omega)]
   exact zbg.2 (by omega)
  | true =>
   refine zVz rfl (zbt fc (zbt ?_ (zbt hk (zbt sc (zAp rfl)))));have:=o4 hk;exact qI (by show ((zby h).length:Int)<=((zby (zbL (zcH h m q) m q)).length:Int);omega)
theorem zOz (a0:List Int)(ho:∀c∈zy [aS .u8 a0],CVOk c):∃N,zoX N a0=some [.one (.b true)]:=by
 have hb:zbG big [aS .u8 a0]:=fun c hc=>CVB.of_ok (ho c hc);have hl:=(len0 hb);exact ⟨5,z4P (G:=fun a=>a=[.one (.b true)]) (zKB 5 a0 hl)⟩
theorem zJU:Tryz.f4.params.toList.map (zcg Tryz.prog 4)=[some (false,[.s .u8])]:=by kernel_rfl
theorem zCN:zVn 4 Tryz.f4.params.toList:=by
 refine zT1 z07 zV zxH zn (zex (by kernel_rfl)) ?_
 intro avs hg;obtain ⟨h1,h2⟩:=hg;rw[zJU]at h1;obtain ⟨v0,r0,rfl,e0,h1⟩:=zSy h1;cases List.map_eq_nil_iff.1 h1;obtain ⟨a0,rfl⟩:=z7G e0;obtain ⟨N,hN⟩:=zOz a0 h2;exact ⟨zo [],N,12,(zSC N a0).trans hN⟩
theorem zMC (H:Type)(ds:List (DataW H))(h:ds.length=Tryz.f4.params.toList.length):Rows.fnInOutSpec.fn H ds={ results:=[.lit (.bool true)],args:=ds }:=by
 have hl:ds.length=1:=h.trans (by kernel_rfl)
 match ds,hl with
 | [d],_=>rfl
set_option maxRecDepth 100000 in
theorem zGy (os:Os)(started:os.Started)(H:Type)(enc:TypeId×Value->H) :
 ReturnsInHanded {} Tryz.checked os 4 .any (Rows.fnInOutSpec.pre6 enc Tryz.prog Tryz.f4 Rows.fnInOutRow.domain false) (Rows.fnInOutSpec.post enc Tryz.prog Tryz.f4 false true false false):=by
 refine returnsInHanded_of_change_shaped (C:=Tryz.checked) own started (by kernel_rfl) Tryz.func4
  (ChangeSpec.witness6 (enc:=enc) (C:=Tryz.checked) false ⟨#[],#[.slice none 0 0],[]⟩ 8 (by kernel_rfl) (by kernel_rfl) (by kernel_rfl) (by kernel_rfl)) ?_
 intro W base args ds gs before hval hW _ hsz _ _;exact zI1 (P:=Tryz.prog) z0K z1x rfl zMC (by kernel_rfl) (B:=4) (by kernel_rfl) (by kernel_rfl) zCN W base args ds gs before hval hW hsz
end
section
open Go Go.ChangeShapes Go.WideShapes Go.ChangeAt
abbrev PP:=Tryz.pinned.checked.prog
abbrev cc:=Rows.fnInOutRow
abbrev ss:=Rows.fnInOutSpec
theorem jf1:cc.wf (OpenSpec.ofChange ss)=true:=by kernel_rfl
theorem jf2:laidOutB PP=true:=by kernel_rfl
theorem jf3:mapsRowed PP=true:=by kernel_rfl
theorem jf4:Tryz.f4.params.all (PP.readableRec ·)=true:=by kernel_rfl
theorem jf5:namedTie PP cc.named ss.vars=true:=by kernel_rfl
theorem jf6:(cc.inPlace==PP.inPlace 4)=true:=by kernel_rfl
theorem jf7:(cc.unfollowed==PP.unfollowed 4)=true:=by kernel_rfl
theorem jf8:(cc.recurses==PP.recurses 4)=true:=by kernel_rfl
theorem jf9:(cc.named==PP.varsNamed 4)=true:=by kernel_rfl
theorem z7A:(cc.lifted==PP.liftsFinal)=true:=by kernel_rfl
theorem z7B:PP.stopsHeard=true:=by kernel_rfl
theorem z7C:PP.mayEnter=true:=by kernel_rfl
theorem z7D:(cc.plainKeys==PP.plainKeys)=true:=by kernel_rfl
theorem z7E:(PP.make==some cc.make)=true:=by kernel_rfl
theorem zRx:joinedFacts PP 4 Tryz.f4 ss cc=true:=by
 unfold joinedFacts;simp only[qD]
 repeat' apply And.intro
 all_goals first|with_reducible exact jf1|with_reducible exact jf2|with_reducible exact jf3|with_reducible exact jf4|with_reducible exact jf5|with_reducible exact jf6|with_reducible exact jf7|with_reducible exact jf8|with_reducible exact jf9|with_reducible exact z7A|with_reducible exact z7B|with_reducible exact z7C|with_reducible exact z7D|with_reducible exact z7E|kernel_rfl
theorem said_fnInOut:Rows.FnInOutSaid :=
 OpenClaim.holds_of_wide 4 Tryz.f4 rfl rfl rfl rfl rfl rfl rfl ⟨rfl,rfl,rfl,rfl,rfl⟩ rfl rfl rfl rfl rfl (by kernel_rfl) Tryz.func4 zRx
  (qE (by kernel_rfl)) (by unfold Func.isWrapper;first|(rw [if_pos (by decide +kernel)];kernel_rfl)|(rw [if_neg (by decide +kernel)];exact ⟨rfl,rfl⟩))
  (fun os started H enc _=>zGy os started H enc)
end
end
end Go.Proofs.YtbihnofoichpmaaGreat.E
