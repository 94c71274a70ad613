/- What is proved here: FnLed: for every input the law returns true, and each argument reads afterwards as it read before. No conditions. -/
import Derived.Test.YtdaahiceaagpdaaGreatV5
namespace Go.Proofs.YtdaahiceaagpdaaGreat.E
open Go
set_option linter.unusedVariables false
set_option maxRecDepth 100000
set_option linter.unusedSimpArgs false
set_option linter.unusedSectionVars false
noncomputable section
structure KOk (k:Kept) (inner outer:List Slot):Prop where
 l1:k.Known.length=inner.length
 l2:k.Slots.length=inner.length
 at':∀i,hasB i (ln inner)=true->ix k.Slots i sZ=bif ix k.Known i false then zba (ix inner i sZ) outer else noSlot
theorem z5k {k:Kept}{inner outer:List Slot}:zjG k inner outer=true↔KOk k inner outer:=by
 unfold zjG;have hne:∀{a b:Int} {c:Bool},(cond (ine a b) false c)=true↔a=b/\c=true:=by
  intro a b c
  by_cases h:a=b
  .simp [ine,h]
  .simp [ine,h]
 rw[hne,hne,zFr];unfold ln zop;constructor
 .rintro ⟨h1,h2,h3⟩
  refine ⟨by omega,by omega,fun i hi=>?_⟩
  have hi':=zy.1 hi;unfold ln at hi';have:=ziz.1 (h3 i.toNat (by omega) (by omega))
  rwa [show ((i.toNat:Nat):Int)=i by omega] at this
 .rintro ⟨h1,h2,h3⟩
  exact ⟨by omega,by omega,fun j h4 h5=>ziz.2 (h3 _ (zy.2 (by unfold ln;omega)))⟩
def TOk (x:Mon):Prop:=∀g,hasB g (ln x.Guests)=true->KOk (ix x.Tables g kZ) (ix x.Guests g gZ).Live x.Outer
structure Rt (h:Host):Prop where
 t:∀m,hasB m (ln h.Mons)=true->TOk (ix h.Mons m mZ)
 e1:∀e∈h.Buffer,zcc h e=true
 e2:∀e∈h.IoBuffer,zcc h e=true
structure Safe (h:Host):Prop where
 ok:HOk h
 rt:Rt h
theorem zpR {a b:Slot}:below' a b=true↔a=noSlot\/(a.Page=b.Page/\enough b.Rights a.Rights=true):=by
 unfold below';rw[zr2,ziz,zqg,zbT,zbh]
 by_cases h:a=noSlot<;>simp [h]
theorem z0y (x:Int):wand .i64 0 x=0:=by
 unfold wand;have:(BitVec.ofInt 64 0 &&& BitVec.ofInt 64 x)=0#64:=by
  rw[show BitVec.ofInt 64 0=0#64 from rfl,BitVec.zero_and]
 show IntKind.wrap .i64 ((BitVec.ofInt 64 0 &&& BitVec.ofInt 64 x).toNat:Int)=0
 rw[this];rfl
theorem z0K {a:Slot}(h:below' a noSlot=true):a=noSlot:=by
 rcases zpR.1 h with h|⟨h1,h2⟩
 .exact h
 .refine zSU h1 ?_;unfold enough at h2;rw[show noSlot.Rights=0 from rfl,z0y]at h2
  simp only[zbT,zbh]at h2;exact h2.2.2.symm
theorem ze2 {h:Host}{e:Entry}:zcc h e=true↔hasB (zcC e.Tag) (ln h.Mons)=true/\hasB (zc8 e.Tag) (ln (ix h.Mons (zcC e.Tag) mZ).Guests)=true /\
 below' ⟨e.Host,e.Rights⟩ (zba (zbm (ix (ix h.Mons (zcC e.Tag) mZ).Guests (zc8 e.Tag) gZ).Live e.Page) (ix h.Mons (zcC e.Tag) mZ).Outer)=true:=by
 unfold zcc;rw[zbT,zbT]
theorem zOt {o:List Slot}{p q:Int}{s:Slot}(hp:0<=p)(h:q≠p):zbm (up o p s) q=zbm o q:=by
 unfold zbm;rw[zdr];cases hq:hasB q (ln o) with
 | false=>rfl
 | true=>rw[cond_true,cond_true,zbl hp (zy.1 hq).1 (Ne.symm h)]
theorem zId {s:Slot}{o:List Slot}{p:Int}{t:Slot}(hp:0<=p)(h:s.Page≠p):zba s (up o p t)=zba s o:=by
 unfold zba;rw[zOt hp h]
theorem zWq {s:Slot}{o:List Slot}:zba s o=noSlot\/(zba s o).Page=(zbm o s.Page).Page:=by
 unfold zba;cases ieq s.Page (-1)<;>cases ieq (zbm o s.Page).Page (-1)<;>cases ieq (zcZ s.Rights (zbm o s.Page).Rights) 0<;>simp
theorem zjy (k:Kept)(q:Int):(zbG k q).Known.length=k.Known.length/\(zbG k q).Slots.length=k.Slots.length:=by
 unfold zbG;cases zcY k q<;>simp [zbB]
theorem zyU:∀(l:List Int) (k:Kept),(zea k l).Known.length=k.Known.length/\(zea k l).Slots.length=k.Slots.length
 | [],k=>⟨rfl,rfl⟩
 | q :: l,k=>by
  have h1:=zyU l (zbG k q);have h2:=zjy k q;exact ⟨h1.1.trans h2.1,h1.2.trans h2.2⟩
theorem zu8 {k:Kept}{q i:Int}(hl:k.Known.length=k.Slots.length)(hi:hasB i (ln k.Known)=true) :
 ix (zbG k q).Known i false=(cond (ieq q i) false (ix k.Known i false))/\ix (zbG k q).Slots i sZ=(cond (ieq q i) noSlot (ix k.Slots i sZ)):=by
 have hi':hasB i (ln k.Slots)=true:=by unfold ln at hi ⊢;rwa [<- hl]
 unfold zbG zcY
 by_cases e:q=i
 .subst e;simp only[hi,hi',cond_true,ieq,beq_self_eq_true];exact ⟨zW hi _ _,zW hi' _ _⟩
 .rw [show ieq q i=false from zbJ.2 e]
  by_cases hq:hasB q (ln k.Known)=true
  .have hq':hasB q (ln k.Slots)=true:=by unfold ln at hq ⊢;rwa [<- hl]
   simp only[hq,hq',cond_true,cond_false];exact ⟨zbl (zy.1 hq).1 (zy.1 hi).1 e _ _,zbl (zy.1 hq).1 (zy.1 hi).1 e _ _⟩
  .rw [vE]at hq;simp[hq]
theorem zAF:∀(l:List Int) {k:Kept} {i:Int},k.Known.length=k.Slots.length->hasB i (ln k.Known)=true ->
 (i∈l->ix (zea k l).Known i false=false/\ix (zea k l).Slots i sZ=noSlot) /\
 (i∉l->ix (zea k l).Known i false=ix k.Known i false/\ix (zea k l).Slots i sZ=ix k.Slots i sZ)
 | [],k,i,hl,hi=>⟨fun h=>by simp at h,fun _=>⟨rfl,rfl⟩⟩
 | q :: l,k,i,hl,hi=>by
  have h2:=zjy k q;have h3:=zu8 (q:=q) hl hi;have ih:=zAF l (k:=zbG k q) (i:=i) (by rw[h2.1,h2.2,hl]) (by unfold ln at hi ⊢;rwa [h2.1])
  show (_->ix (zea (zbG k q) l).Known i false=_/\ix (zea (zbG k q) l).Slots i sZ=_)/\(_->ix (zea (zbG k q) l).Known i false=_/\ix (zea (zbG k q) l).Slots i sZ=_)
  by_cases hm:i∈l
  .refine ⟨fun _=>ih.1 hm,fun h=>absurd (qY _ hm) h⟩
  .rw [(ih.2 hm).1,(ih.2 hm).2,h3.1,h3.2]
   by_cases e:q=i
   .subst e;simp[ieq]
   .rw [zbJ.2 e];simp[hm,Ne.symm e]
theorem zGv {α:Type}{P:α->Bool}{d:α}:∀{l:List α} {n:Nat} {i:Int},i∈idxs P l n↔∃k:Nat,∃h:k<l.length,i=((n+k:Nat):Int)/\P l[k]=true
 | [],n,i=>by simp[idxs]
 | x :: l,n,i=>by
  have ih:=@zGv α P d l (n+1) i;unfold idxs;constructor
  .intro h;cases hx:P x with
   | true =>
    rw[hx,cond_true,qG]at h;rcases h with h|h
    .exact ⟨0,by simp,by simpa using h,hx⟩
    .obtain ⟨k,h1,h2,h3⟩:=ih.1 h;exact ⟨k+1,by simpa using h1,by rw[h2];congr 1;omega,by simpa using h3⟩
   | false =>
    rw[hx,cond_false]at h;obtain ⟨k,h1,h2,h3⟩:=ih.1 h;exact ⟨k+1,by simpa using h1,by rw[h2];congr 1;omega,by simpa using h3⟩
  .rintro ⟨k,h1,h2,h3⟩
   cases k with
   | zero =>
    simp only[List.getElem_cons_zero]at h3;rw[h3,cond_true,h2];exact jI
   | succ k =>
    have:=ih.2 ⟨k,by simpa using h1,by rw[h2];congr 1;omega,by simpa using h3⟩
    cases P x
    .exact this
    .exact qY _ this
theorem zTD {l:List Slot}{p i:Int}:i∈zCr l p↔hasB i (ln l)=true/\(ix l i sZ).Page=p:=by
 unfold zCr;rw[zGv (d:=sZ)];constructor
 .rintro ⟨k,h1,rfl,h3⟩
  rw[j4,zjF h1];exact ⟨zy.2 (by unfold ln;omega),zbh.1 h3⟩
 .rintro ⟨h1,h2⟩
  obtain ⟨k,hk,rfl,e⟩:=zxT h1 sZ;exact ⟨k,hk,by simp,by rw[e]at h2;exact zbh.2 h2⟩
theorem zW4 {k:Kept}{inner outer:List Slot}(h:KOk k inner outer){p:Int}(hp:0<=p)(s:Slot):KOk (zg4 k inner p) inner (up outer p s):=by
 have hl:=zyU (zCr inner p) k;refine ⟨hl.1.trans h.l1,hl.2.trans h.l2,fun i hi=>?_⟩;have hi':hasB i (ln k.Known)=true:=by unfold ln at hi ⊢;rwa [h.l1]
 have ha:=zAF (zCr inner p) (by rw[h.l1,h.l2]) hi'
 unfold zg4
 by_cases hc:(ix inner i sZ).Page=p
 .have:=ha.1 (zTD.2 ⟨hi,hc⟩);rw[this.1,this.2];rfl
 .have:=ha.2 (fun h=>hc (zTD.1 h).2);rw[this.1,this.2,h.at' i hi,zId hp hc]
theorem zCk (gs:List Guest)(p:Int):∀(n:Nat) (ts:List Kept),(zj9 gs p n ts).length=ts.length
 | 0,ts=>rfl
 | n+1,ts=>by rw[zj9,zbB,zCk gs p n]
theorem zMU (gs:List Guest)(p:Int):∀(n:Nat) (ts:List Kept),n<=ts.length->∀i,0<=i->ix (zj9 gs p n ts) i kZ=if i<n then zg4 (ix ts i kZ) (ix gs i gZ).Live p else ix ts i kZ
 | 0,ts,_,i,hi=>by rw[if_neg (by omega)];rfl
 | n+1,ts,hn,i,hi=>by
  rw[zj9]
  by_cases e:i=n
  .subst e;rw[zW (by rw[ln,zCk];exact zy.2 (by omega)),if_pos (by omega),zMU gs p n ts (by omega) _ hi,if_neg (by omega)]
  .rw [zbl (by omega) hi (Ne.symm e),zMU gs p n ts (by omega) i hi]
   by_cases h:i<n
   .rw [if_pos h,if_pos (by omega)]
   .rw [if_neg h,if_neg (by omega)]
def ziA (x:Mon)(p:Int)(s:Slot):Mon:={ zjg x p x.Tables.length with Outer:=up x.Outer p s }
theorem z0e {x:Mon}(h:TOk x)(ht:x.Tables.length=x.Guests.length){p:Int}(hp:0<=p)(s:Slot):TOk (ziA x p s):=by
 intro g hg;have hg':hasB g (ln x.Guests)=true:=hg
 show KOk (ix (zj9 x.Guests p x.Tables.length x.Tables) g kZ) (ix x.Guests g gZ).Live (up x.Outer p s)
 rw[zMU _ _ _ _ (qX _) _ (zy.1 hg').1,if_pos (by have:=zy.1 hg';unfold ln at this;omega)]
 exact zW4 (h g hg') hp s
theorem zqX (h:Host)(m p:Int)(s:Slot):(zb6 h m p s).Mons=up h.Mons m (ziA (ix h.Mons m mZ) p s):=by
 unfold zb6;cases ine (ix (ix h.Mons m zf).Outer p zK).Page (-1)<;>rfl
theorem zvw (h:Host)(m p:Int)(s:Slot):(zb6 h m p s).Memory=h.Memory:=by
 unfold zb6;cases ine (ix (ix h.Mons m zf).Outer p zK).Page (-1)<;>rfl
theorem zOv (h:Host)(m p:Int)(s:Slot):(zb6 h m p s).Buffer=(cond (ieq (ix (ix h.Mons m mZ).Outer p sZ).Page (-1)) h.Buffer (flushed h.Buffer (ix (ix h.Mons m mZ).Outer p sZ).Page)) /\
 (zb6 h m p s).IoBuffer=(cond (ieq (ix (ix h.Mons m mZ).Outer p sZ).Page (-1)) h.IoBuffer (flushed h.IoBuffer (ix (ix h.Mons m mZ).Outer p sZ).Page)):=by
 unfold zb6
 by_cases e:(ix (ix h.Mons m zf).Outer p zK).Page = -1
 .rw [show ine (ix (ix h.Mons m zf).Outer p zK).Page (-1)=false by simp[ine,e],show ieq (ix (ix h.Mons m mZ).Outer p sZ).Page (-1)=true from zbh.2 e]
  exact ⟨rfl,rfl⟩
 .rw [show ine (ix (ix h.Mons m zf).Outer p zK).Page (-1)=true from zrO.2 e,show ieq (ix (ix h.Mons m mZ).Outer p sZ).Page (-1)=false from zbJ.2 e]
  exact ⟨rfl,rfl⟩
theorem zIj {h h':Host}{m p:Int}{s:Slot}(hm:hasB m (ln h.Mons)=true)(hp:hasB p (ln (ix h.Mons m mZ).Outer)=true){x:Mon}(hM:h'.Mons=up h.Mons m x)(hG:x.Guests=(ix h.Mons m mZ).Guests)(hO:x.Outer=up (ix h.Mons m mZ).Outer p s){e:Entry}(he:zcc h e=true)(hn:(ix (ix h.Mons m mZ).Outer p sZ).Page = -1\/e.Host≠(ix (ix h.Mons m mZ).Outer p sZ).Page):zcc h' e=true:=by
 obtain ⟨h1,h2,h3⟩:=ze2.1 he;rw[ze2,hM,zdr];refine ⟨h1,?_⟩
 by_cases hc:m=zcC e.Tag
 .rw [<- hc]at h1 h2 h3 ⊢;rw[zW hm,hG,hO];refine ⟨h2,?_⟩
  by_cases hq:(zbm (ix (ix h.Mons m mZ).Guests (zc8 e.Tag) gZ).Live e.Page).Page=p
  .have key:zba (zbm (ix (ix h.Mons m mZ).Guests (zc8 e.Tag) gZ).Live e.Page) (ix h.Mons m mZ).Outer=noSlot\/e.Host≠(zba (zbm (ix (ix h.Mons m mZ).Guests (zc8 e.Tag) gZ).Live e.Page) (ix h.Mons m mZ).Outer).Page:=by
    rcases zWq (s:=zbm (ix (ix h.Mons m mZ).Guests (zc8 e.Tag) gZ).Live e.Page) (o:=(ix h.Mons m mZ).Outer) with hz|hz
    .exact .inl hz
    .rw [hq]at hz;have hs:zbm (ix h.Mons m mZ).Outer p=ix (ix h.Mons m mZ).Outer p sZ:=by unfold zbm;rw[hp];rfl
     rw[hs]at hz;rcases hn with hn|hn
     .left
      unfold zba;rw[hq,hs,hn,show ieq (-1) (-1)=true from rfl]
      cases ieq p (-1)<;>rfl
     .exact .inr (by rw[hz];exact hn)
   have hno:(⟨e.Host,e.Rights⟩:Slot)=noSlot:=by
    rcases key with key|key
    .rw [key]at h3;exact z0K h3
    .rcases zpR.1 h3 with h|h
     .exact h
     .exact absurd h.1 key
   rw[hno];exact zpR.2 (.inl rfl)
  .rw [zId (zy.1 hp).1 hq];exact h3
 .rw [zbl (zy.1 hm).1 (zy.1 h1).1 hc];exact ⟨h2,h3⟩
theorem zx6 {h:Host}(H:Rt h){m p:Int}(hm:hasB m (ln h.Mons)=true)(hp:hasB p (ln (ix h.Mons m mZ).Outer)=true)(ht:(ix h.Mons m mZ).Tables.length=(ix h.Mons m mZ).Guests.length)(s:Slot):Rt (zb6 h m p s):=by
 have hb:=zOv h m p s;have hM:=zqX h m p s;have key:∀(b:List Entry),(∀e∈b,zcc h e=true)->∀e∈(cond (ieq (ix (ix h.Mons m mZ).Outer p sZ).Page (-1)) b (flushed b (ix (ix h.Mons m mZ).Outer p sZ).Page)),zcc (zb6 h m p s) e=true:=by
  intro b hb e he
  by_cases ho:(ix (ix h.Mons m mZ).Outer p sZ).Page = -1
  .rw [zbh.2 ho,cond_true]at he;exact zIj hm hp hM rfl rfl (hb e he) (.inl ho)
  .rw [zbJ.2 ho,cond_false]at he;obtain ⟨he1,he2⟩:=List.mem_filter.1 he;exact zIj hm hp hM rfl rfl (hb e he1) (.inr (by simpa [ieq] using he2))
 refine ⟨fun k hk=>?_,fun e he=>key _ H.e1 e (by rwa [hb.1]at he),fun e he=>key _ H.e2 e (by rwa [hb.2]at he)⟩
 rw[hM]at hk ⊢;rw[zdr]at hk
 by_cases hc:m=k
 .subst hc;rw[zW hm];exact z0e (H.t m hm) ht (zy.1 hp).1 s
 .rw [zbl (zy.1 hm).1 (zy.1 hk).1 hc];exact H.t k hk
theorem zND:∀(l pre:List Entry),allI (alone (pre++l)) l pre.length=true↔(∀x∈l,∀y∈pre,sameKey x y=false)/\l.Pairwise (fun y x=>sameKey x y=false)
 | [],pre=>by simp[allI]
 | x :: l,pre=>by
  have ih:=zND l (pre++[x]);rw[kF,List.singleton_append,kR,uT] at ih;rw[allI,qD,ih,List.pairwise_cons];have h1:alone (pre++x :: l) pre.length x=true↔∀y∈pre,sameKey x y=false:=by
   unfold alone;rw[kU rfl,qL];simp
  rw[h1];constructor
  .rintro ⟨h2,h3,h4⟩
   refine ⟨fun z hz y hy=>?_,fun z hz=>h3 z hz x (by simp),h4⟩
   rcases qG.1 hz with rfl|hz
   .exact h2 y hy
   .exact h3 z hz y (by simp[hy])
  .rintro ⟨h2,h3,h4⟩
   refine ⟨fun y hy=>h2 x (by simp) y hy,fun z hz y hy=>?_,h4⟩
   rcases jK.1 hy with hy|hy
   .exact h2 z (by simp[hz]) y hy
   .rw [qF.1 hy];exact h3 z hz
theorem zCw {l:List Entry}:zez l=true↔l.Pairwise (fun y x=>sameKey x y=false)/\l.length<=6:=by
 unfold zez;have:=zND l [];simp only[jQ,List.length_nil] at this;have h0:ile (ln l) 6=true↔l.length<=6:=by
  rw[ile,qU,ln];omega
 rw[zbT,this,h0];simp
theorem zxe {l:List Entry}(h:zez l=true)(P:Entry->Bool):zez (l.filter P)=true:=by
 rw[zCw]at h ⊢;exact ⟨h.1.sublist List.filter_sublist,jC (k9 _ _) h.2⟩
theorem zEr {l:List Entry}(h:zez l=true)(p:Int):zez (flushed l p)=true:=zxe h _
theorem zQA {x x':Mon}{p:Int}(hp:hasB p (ln x.Outer)=true){s:Slot}(h:x'.Outer=up x.Outer p s)(q:Int):cPg x' q+(if (ix x.Outer p sZ).Page=q then 1 else 0)=cPg x q+(if s.Page=q then 1 else 0):=by
 have:=zNH (fun s=>ieq s.Page q) hp s sZ;simp only[zbh] at this;unfold cPg;rw[h];exact this
theorem zog {s:Slot}(hs:SOk s){c:List Int}:zkx s c=true↔(s.Page = -1->zb5 c=true)/\(s.Page≠-1->enough s.Rights 1=true/\c=[]):=by
 unfold zkx
 by_cases e:s=noSlot
 .rw [ziz.2 e,cond_true,e];simp[noSlot]
 .rw [zqg.2 e,cond_false,zbT];have:s.Page≠-1:=fun h=>e (hs.none h);have h0:ile (ln c) 0=true↔c=[]:=by
   rw[ile,qU,ln,<- List.length_eq_zero_iff];omega
  rw[h0];exact ⟨fun h=>⟨fun h'=>absurd h' this,fun _=>h⟩,fun h=>h.2 this⟩
structure Chg (x x':Mon) (p:Int) (s:Slot) (c:List Int):Prop where
 o:x'.Outer=up x.Outer p s
 u:x'.Out=up x.Out p c
 g:x'.Guests=x.Guests
 t:x'.Tables.length=x.Tables.length
 d:x'.Dirty.length=x.Dirty.length
 a1:x'.Outs=x.Outs
 a2:x'.Pending=x.Pending
 a3:x'.Traps=x.Traps
 a4:x'.Own=x.Own
theorem MOk.chg {x x':Mon}(H:MOk x){p:Int}(hp:hasB p 8=true){s:Slot}{c:List Int}(k:Chg x x' p s c)(hs:SOk s)(hf:zkx s c=true):MOk x':=by
 refine ⟨by rw[k.g];exact H.g1,by rw[k.g];exact H.g2,by rw[k.t,k.g];exact H.gt,by rw[k.o,zbB];exact H.o8,fun y hy=>?_,by rw[k.u,zbB];exact H.u8,by rw[k.d];exact H.d8,by rw[k.a1];exact H.outs,by rw[k.a2];exact H.pend,by rw[k.a3];exact H.tr,by rw[k.a4];exact H.own,by rw[k.g];exact H.gs,fun q hq=>?_⟩
 .rw [k.o]at hy;rcases qZ hy with h|h
  .exact H.sl y h
  .rw [h];exact hs
 .rw [k.o,k.u]
  by_cases e:p=q
  .subst e;rw[zW (H.hasO hp),zW (H.hasU hp)];exact hf
  .rw [zbl (zy.1 hp).1 (zy.1 hq).1 e,zbl (zy.1 hp).1 (zy.1 hq).1 e];exact H.fit q hq
structure Like (h r:Host):Prop where
 len:r.Mons.length=h.Mons.length
 g:∀i,hasB i (ln h.Mons)=true->(ix r.Mons i mZ).Guests=(ix h.Mons i mZ).Guests
 o:∀i,hasB i (ln h.Mons)=true->(ix r.Mons i mZ).Outs=(ix h.Mons i mZ).Outs
 p:∀i,hasB i (ln h.Mons)=true->(ix r.Mons i mZ).Pending=(ix h.Mons i mZ).Pending
 tr:∀i,hasB i (ln h.Mons)=true->(ix r.Mons i mZ).Traps=(ix h.Mons i mZ).Traps
 ow:∀i,hasB i (ln h.Mons)=true->(ix r.Mons i mZ).Own=(ix h.Mons i mZ).Own
 pg:∀i k,hasB i (ln h.Mons)=true->hasB k 8=true->zcM r i k=zcM h i k
theorem Like.refl (h:Host):Like h h:=⟨rfl,fun _ _=>rfl,fun _ _=>rfl,fun _ _=>rfl,fun _ _=>rfl,fun _ _=>rfl,fun _ _ _ _=>rfl⟩
theorem Like.trans {a b c:Host}(x:Like a b)(y:Like b c):Like a c:=by
 have k:∀i,hasB i (ln a.Mons)=true->hasB i (ln b.Mons)=true:=fun i hi=>by unfold ln at hi ⊢;rwa [x.len]
 exact ⟨y.len.trans x.len,fun i h=>(y.g i (k i h)).trans (x.g i h),fun i h=>(y.o i (k i h)).trans (x.o i h),fun i h=>(y.p i (k i h)).trans (x.p i h),fun i h=>(y.tr i (k i h)).trans (x.tr i h),fun i h=>(y.ow i (k i h)).trans (x.ow i h),fun i q h hq=>(y.pg i q (k i h) hq).trans (x.pg i q h hq)⟩
theorem Like.has {h r:Host}(k:Like h r){i:Int}:hasB i (ln r.Mons)=hasB i (ln h.Mons):=by unfold ln;rw[k.len]
theorem zpk {h r:Host}{m:Int}:∀(n i:Nat),(∀k:Nat,i<=k->k<i+n->zcM r m (k:Int)=zcM h m (k:Int))->zco r m n i=zco h m n i
 | 0,i,_=>rfl
 | n+1,i,h=>by
  rw[zco,zco,h i (by omega) (by omega),zpk n (i+1) (fun k h1 h2=>h k (by omega) (by omega))]
theorem Like.seen {h r:Host}(k:Like h r)(m:Int):zB r m=zB h m:=by
 unfold zB;rw[k.has];cases hm:hasB m (ln h.Mons) with
 | false=>rfl
 | true =>
  simp only[cond_true];rw[k.g m hm,k.o m hm,k.p m hm,zpk 8 0 (fun j h1 h2=>k.pg m j hm (zy.2 (by omega)))]
theorem zmv {h:Host}{m p:Int}(hm:hasB m (ln h.Mons)=true)(hp:hasB p 8=true)(ho:hasB p (ln (ix h.Mons m mZ).Outer)=true) :
 zcM h m p=bif ieq (ix (ix h.Mons m mZ).Outer p sZ).Page (-1) then zb8 (ix h.Mons m mZ).Out p else zb8 h.Memory (ix (ix h.Mons m mZ).Outer p sZ).Page:=by
 unfold zcM;have:zbm (ix h.Mons m mZ).Outer p=ix (ix h.Mons m mZ).Outer p sZ:=by unfold zbm;rw[ho];rfl
 rw[hm,hp,cond_true,cond_true,this]
 by_cases e:(ix (ix h.Mons m mZ).Outer p sZ).Page = -1
 .rw [zbh.2 e,show ine (ix (ix h.Mons m mZ).Outer p sZ).Page (-1)=false by simp[ine,e]];rfl
 .rw [zbJ.2 e,show ine (ix (ix h.Mons m mZ).Outer p sZ).Page (-1)=true from zrO.2 e];rfl
theorem zjM {m:List (List Int)}{p:Int}(h:hasB p (ln m)=true):zb8 m p=ix m p []:=by unfold zb8;rw[h];rfl
theorem zOf {m:List (List Int)}(h:∀c∈m,zb5 c=true)(p:Int):zb5 (zb8 m p)=true:=by
 unfold zb8;cases hp:hasB p (ln m) with
 | false=>rfl
 | true=>exact h _ (zkr hp _)
theorem zuV {h r:Host}(H:HOk h){m p:Int}(hm:hasB m (ln h.Mons)=true)(hp:hasB p 8=true){x:Mon}{s:Slot}{c:List Int}(hM:r.Mons=up h.Mons m x)(k:Chg (ix h.Mons m mZ) x p s c)(hs:SOk s)(hf:zkx s c=true)(m12:r.Memory.length=12)(pgs:∀c∈r.Memory,zb5 c=true)(b1:zez r.Buffer=true)(b2:zez r.IoBuffer=true)(uq:0<=s.Page->s.Page=(ix (ix h.Mons m mZ).Outer p sZ).Page\/zd6 h.Mons s.Page=0):HOk r:=by
 refine H.up hm ((H.mon hm).chg hp k hs hf) hM m12 pgs b1 b2 fun q hq=>?_;have h1:=zQA ((H.mon hm).hasO hp) k.o q
 by_cases e:s.Page=q
 .have e2:=uq (by omega)
  rw[if_pos e]at h1;rcases e2 with e2|e2
  .rw [if_pos (by omega)]at h1;left;omega
  .right
   rw[e] at e2;refine ⟨e2,?_⟩;have:=zw5 hm x q;have h4:cPg (ix h.Mons m mZ) q<=zd6 h.Mons q:=by
    have:=zw5 hm (⟨[],[],[],[],[],0,0,[],0⟩:Mon) q;have e0:cPg (⟨[],[],[],[],[],0,0,[],0⟩:Mon) q=0:=rfl;omega
   omega
 .rw [if_neg e]at h1
  left
  split at h1<;>omega
theorem ztX {h r:Host}(H:HOk h){m p:Int}(hm:hasB m (ln h.Mons)=true)(hp:hasB p 8=true){x:Mon}{s:Slot}{c:List Int}(hM:r.Mons=up h.Mons m x)(k:Chg (ix h.Mons m mZ) x p s c)(hpg:(cond (ieq s.Page (-1)) c (zb8 r.Memory s.Page))=zcM h m p)(hmem:∀i q,hasB i (ln h.Mons)=true->hasB q 8=true->¬ (i=m/\q=p)->(ix (ix h.Mons i mZ).Outer q sZ).Page≠-1->zb8 r.Memory (ix (ix h.Mons i mZ).Outer q sZ).Page=zb8 h.Memory (ix (ix h.Mons i mZ).Outer q sZ).Page):Like h r:=by
 have hm0:=(zy.1 hm).1;have hp0:=(zy.1 hp).1;have e:∀{α:Type} (F:Mon->α),F x=F (ix h.Mons m mZ)->∀i,hasB i (ln h.Mons)=true->F (ix r.Mons i mZ)=F (ix h.Mons i mZ):=by
  intro α F hF i hi;rw[hM]
  by_cases e:m=i
  .subst e;rw[zW hm];exact hF
  .rw [zbl hm0 (zy.1 hi).1 e]
 refine ⟨by rw[hM,zbB],e Mon.Guests k.g,e Mon.Outs k.a1,e Mon.Pending k.a2,e Mon.Traps k.a3,e Mon.Own k.a4,fun i q hi hq=>?_⟩
 have hi':hasB i (ln r.Mons)=true:=by rw[hM,zdr];exact hi
 have hO:=(H.mon hi).hasO hq;have hO':hasB q (ln (ix r.Mons i mZ).Outer)=true:=by
  rw[hM]
  by_cases e:m=i
  .subst e;rw[zW hm,k.o,zdr];exact hO
  .rw [zbl hm0 (zy.1 hi).1 e];exact hO
 rw[zmv hi' hq hO']
 by_cases e:m=i
 .subst e;rw[hM,zW hm,k.o,k.u]
  by_cases e2:p=q
  .subst e2;rw[zW ((H.mon hm).hasO hp),<- hpg];cases ieq s.Page (-1)
   .rfl
   .rw [cond_true,cond_true,zjM (by rw[zdr];exact (H.mon hm).hasU hp),zW ((H.mon hm).hasU hp)]
  .rw [zbl hp0 (zy.1 hq).1 e2,zmv hm hq hO]
   by_cases e3:(ix (ix h.Mons m mZ).Outer q sZ).Page = -1
   .rw [zbh.2 e3,cond_true,cond_true,zjM (by rw[zdr];exact (H.mon hm).hasU hq),zjM ((H.mon hm).hasU hq),zbl hp0 (zy.1 hq).1 e2]
   .rw [zbJ.2 e3,cond_false,cond_false,hmem m q hm hq (fun h=>e2 h.2.symm) e3]
 .rw [hM,zbl hm0 (zy.1 hi).1 e,zmv hi hq hO]
  by_cases e3:(ix (ix h.Mons i mZ).Outer q sZ).Page = -1
  .rw [zbh.2 e3,cond_true,cond_true]
  .rw [zbJ.2 e3,cond_false,cond_false,hmem i q hi hq (fun h=>e h.1.symm) e3]
structure Op (h r:Host):Prop where
 ok:HOk r
 like:Like h r
 rt:Rt h->Rt r
theorem Op.refl {h:Host}(H:HOk h):Op h h:=⟨H,Like.refl h,id⟩
theorem Op.trans {a b c:Host}(x:Op a b)(y:Op b c):Op a c:=⟨y.ok,x.like.trans y.like,fun h=>y.rt (x.rt h)⟩
theorem Op.safe {h r:Host}(k:Op h r)(s:Safe h):Safe r:=⟨k.ok,k.rt s.rt⟩
theorem zJ4 {h r:Host}(H:Rt h){m:Int}(hm:hasB m (ln h.Mons)=true){x:Mon}(hM:r.Mons=up h.Mons m x)(hb1:r.Buffer=h.Buffer)(hb2:r.IoBuffer=h.IoBuffer)(hl:x.Guests.length=(ix h.Mons m mZ).Guests.length)(hv:∀g,hasB g (ln (ix h.Mons m mZ).Guests)=true->(ix x.Guests g gZ).Live=(ix (ix h.Mons m mZ).Guests g gZ).Live)(ht:x.Tables=(ix h.Mons m mZ).Tables)(ho:x.Outer=(ix h.Mons m mZ).Outer):Rt r:=by
 have hm0:=(zy.1 hm).1;have hg:∀g,hasB g (ln x.Guests)=hasB g (ln (ix h.Mons m mZ).Guests):=fun g=>by unfold ln;rw[hl]
 have key:∀e,zcc h e=true->zcc r e=true:=by
  intro e he;obtain ⟨h1,h2,h3⟩:=ze2.1 he;rw[ze2,hM,zdr];refine ⟨h1,?_⟩
  by_cases hc:m=zcC e.Tag
  .rw [<- hc]at h1 h2 h3 ⊢;rw[zW hm,hg,hv _ h2,ho];exact ⟨h2,h3⟩
  .rw [zbl hm0 (zy.1 h1).1 hc];exact ⟨h2,h3⟩
 refine ⟨fun k hk=>?_,fun e he=>key e (H.e1 e (by rwa [hb1]at he)),fun e he=>key e (H.e2 e (by rwa [hb2]at he))⟩
 rw[hM]at hk ⊢;rw[zdr]at hk
 by_cases hc:m=k
 .subst hc;rw[zW hm];intro g hgg;rw[hg]at hgg;rw[ht,hv g hgg,ho];exact H.t m hm g hgg
 .rw [zbl hm0 (zy.1 hk).1 hc];exact H.t k hk
theorem znY {h h1:Host}{m p:Int}{s:Slot}{x:Mon}(hm:hasB m (ln h.Mons)=true)(e:h1.Mons=up h.Mons m x):(zb6 h1 m p s).Mons=up h.Mons m (ziA x p s):=by
 rw[zqX,e,zW hm,z0x]
theorem zAr {x x1:Mon}{p:Int}{s:Slot}{c:List Int}(ho:x1.Outer=x.Outer)(hu:x1.Out=up x.Out p c)(hg:x1.Guests=x.Guests)(ht:x1.Tables=x.Tables)(hd:x1.Dirty.length=x.Dirty.length)(h1:x1.Outs=x.Outs)(h2:x1.Pending=x.Pending)(h3:x1.Traps=x.Traps)(h4:x1.Own=x.Own):Chg x (ziA x1 p s) p s c :=
 ⟨by show up x1.Outer p s=_;rw[ho],hu,hg,by show (zj9 x1.Guests p x1.Tables.length x1.Tables).length=_;rw[zCk,ht],hd,h1,h2,h3,h4⟩
theorem ztg {h:Host}{m p:Int}{s:Slot}(h1:zez h.Buffer=true)(h2:zez h.IoBuffer=true):zez (zb6 h m p s).Buffer=true/\zez (zb6 h m p s).IoBuffer=true:=by
 have:=zOv h m p s;rw[this.1,this.2];cases ieq (ix (ix h.Mons m mZ).Outer p sZ).Page (-1)
 .exact ⟨zEr h1 _,zEr h2 _⟩
 .exact ⟨h1,h2⟩
theorem z7J {h:Host}(H:HOk h){s:Slot}(hs:SOk s)(hp:s.Page≠-1):hasB s.Page (ln h.Memory)=true:=by
 have:=hs.pos hp;exact zy.2 ⟨this.1,by unfold ln;rw[H.m12];omega⟩
theorem zVI {h:Host}(H:HOk h){m p:Int}(hm:hasB m (ln h.Mons)=true)(hp:hasB p 8=true)(hn:(ix (ix h.Mons m mZ).Outer p sZ).Page≠-1):Op h (zda h m p):=by
 have X:=H.mon hm;have hM:(zda h m p).Mons=up h.Mons m (ziA { ix h.Mons m mZ with Out:=up (ix h.Mons m mZ).Out p (zb8 h.Memory (ix (ix h.Mons m mZ).Outer p sZ).Page) } p noSlot):=znY hm rfl;have k:Chg (ix h.Mons m mZ) (ziA { ix h.Mons m mZ with Out:=up (ix h.Mons m mZ).Out p (zb8 h.Memory (ix (ix h.Mons m mZ).Outer p sZ).Page) } p noSlot) p noSlot (zb8 h.Memory (ix (ix h.Mons m mZ).Outer p sZ).Page):=zAr rfl rfl rfl rfl rfl rfl rfl rfl rfl;have hmem:(zda h m p).Memory=h.Memory:=zvw _ _ _ _;have hb:=ztg (h:=zep h m p) (m:=m) (p:=p) (s:=noSlot) H.b1 H.b2;refine ⟨zuV H hm hp hM k (.inl rfl) ((zog (.inl rfl)).2 ⟨fun _=>zOf H.pgs _,fun h=>absurd rfl h⟩) (by rw[hmem];exact H.m12) (by rw[hmem];exact H.pgs) hb.1 hb.2 (fun h=>absurd h (by decide)),
  ztX H hm hp hM k ?_ (fun i q _ _ _ _=>by rw[hmem]),fun R=>?_⟩
 .rw [zmv hm hp (X.hasO hp),zbJ.2 hn];rfl
 .have R1:Rt (zep h m p):=zJ4 (x:={ ix h.Mons m mZ with Out:=up (ix h.Mons m mZ).Out p (zb8 h.Memory (ix (ix h.Mons m mZ).Outer p sZ).Page) }) R hm rfl rfl rfl rfl (fun _ _=>rfl) rfl rfl;have hm1:hasB m (ln (zep h m p).Mons)=true:=by show hasB m (ln (up h.Mons m _))=true;rw[zdr];exact hm
  have e1:ix (zep h m p).Mons m mZ={ ix h.Mons m mZ with Out:=up (ix h.Mons m mZ).Out p (zb8 h.Memory (ix (ix h.Mons m mZ).Outer p sZ).Page) }:=zW hm _ _;exact zx6 R1 hm1 (by rw[e1];exact X.hasO hp) (by rw[e1];exact X.gt) noSlot
theorem zEw {o:List Slot}{q:Int}:zmU o q=none↔o.countP (fun s=>ieq s.Page q)=0:=by
 unfold zmU;rw[List.findIdx?_eq_none_iff,uW];simp
theorem zTU {o:List Slot}{q:Int}{k:Nat}(h:zmU o q=some k):∃hk:k<o.length,o[k].Page=q:=by
 unfold zmU at h;rw[uQ]at h;obtain ⟨hk,h1,_⟩:=h;exact ⟨hk,zbh.1 h1⟩
theorem zxZ {q:Int}:∀(l:List Mon) (i:Nat),((zha q l i).1<0↔zd6 l q=0)/\(¬ (zha q l i).1<0->∃a b:Nat,∃ha:a<l.length,∃hb:b<l[a].Outer.length,zha q l i=(((i+a:Nat):Int),(b:Int))/\l[a].Outer[b].Page=q)
 | [],i=>⟨by simp[zha,zd6],fun h=>absurd (show (-1:Int)<0 by decide) h⟩
 | x :: l,i=>by
  have ih:=zxZ (q:=q) l (i+1);unfold zha;split
  .rename_i k hk;obtain ⟨h1,h2⟩:=zTU hk;refine ⟨⟨fun h=>by simp at h;omega,fun h=>?_⟩,fun _=>⟨0,k,by simp,h1,by simp,h2⟩⟩
   exfalso;simp only[zd6,jB,uE]at h;have h3:x.Outer.countP (fun s=>ieq s.Page q)=0:=by unfold cPg at h;omega
   rw[zEw.2 h3]at hk;cases hk
  .rename_i hk;have h3:=zEw.1 hk;refine ⟨?_,fun h=>?_⟩
   .rw [ih.1];simp only[zd6,jB,uE];unfold cPg;omega
   .obtain ⟨a,b,ha,hb,e,hp⟩:=ih.2 h;exact ⟨a+1,b,by simpa using ha,by simpa using hb,by rw[e];simp;omega,by simpa using hp⟩
theorem zGT {h:Host}{q:Int}(hq:0<=q):(zbu h q).1<0↔zd6 h.Mons q=0:=by
 unfold zbu;rw[show ilt q 0=false from qJ (by omega),cond_false]
 exact (zxZ h.Mons 0).1
theorem z1R {h:Host}(H:HOk h){q:Int}(hq:0<=q)(hn:¬ (zbu h q).1<0):hasB (zbu h q).1 (ln h.Mons)=true/\hasB (zbu h q).2 8=true/\(ix (ix h.Mons (zbu h q).1 mZ).Outer (zbu h q).2 sZ).Page=q:=by
 unfold zbu at hn ⊢;rw[show ilt q 0=false from qJ (by omega),cond_false]at hn ⊢
 obtain ⟨a,b,ha,hb,e,hp⟩:=(zxZ h.Mons 0).2 hn;rw[e,j4];have h8:=(H.mons _ (jG ha)).o8;exact ⟨zy.2 (by unfold ln;simp;omega),zy.2 (by simp;omega),by rw[zjF ha,zjF hb];exact hp⟩
theorem zRg {P:Nat->Bool}:∀{n i:Nat} {q:Int},q∈zu9 P n i↔∃k:Nat,q=(k:Int)/\i<=k/\k<i+n/\P k=true
 | 0,i,q=>by simp[zu9];intro k _ _ _;omega
 | n+1,i,q=>by
  have ih:=@zRg P n (i+1) q;unfold zu9;constructor
  .intro h;cases hx:P i with
   | true =>
    rw[hx,cond_true,qG]at h;rcases h with h|h
    .exact ⟨i,h,by omega,by omega,hx⟩
    .obtain ⟨k,h1,h2,h3,h4⟩:=ih.1 h;exact ⟨k,h1,by omega,by omega,h4⟩
   | false =>
    rw[hx,cond_false]at h;obtain ⟨k,h1,h2,h3,h4⟩:=ih.1 h;exact ⟨k,h1,by omega,by omega,h4⟩
  .rintro ⟨k,h1,h2,h3,h4⟩
   by_cases e:k=i
   .subst e;rw[h4,cond_true,h1];exact jI
   .have:=ih.2 ⟨k,h1,by omega,by omega,h4⟩
    cases P i
    .exact this
    .exact qY _ this
theorem zFK {h:Host}{q:Int}:q∈zbZ h↔hasB q (ln h.Memory)=true/\zd6 h.Mons q=0:=by
 unfold zbZ;rw[zRg];constructor
 .rintro ⟨k,rfl,h1,h2,h3⟩
  exact ⟨zy.2 (by unfold ln;omega),(zGT (by omega)).1 (qE h3)⟩
 .rintro ⟨h1,h2⟩
  have h1':=zy.1 h1;unfold ln at h1';refine ⟨q.toNat,by omega,by omega,by omega,?_⟩
  rw[show ((q.toNat:Nat):Int)=q by omega]
  exact qI ((zGT h1'.1).2 h2)
theorem zWU {h:Host}(hn:zbZ h≠[]):hasB (ix (zbZ h) 0 0) (ln h.Memory)=true/\zd6 h.Mons (ix (zbZ h) 0 0)=0:=by
 refine zFK.1 (zkr (zy.2 ⟨by omega,?_⟩) 0)
 unfold ln;have:=kN.2 hn;omega
structure But (h r:Host) (m p:Int):Prop where
 ne:∀i k,hasB i (ln h.Mons)=true->hasB k 8=true->¬ (i=m/\k=p)->ix (ix r.Mons i mZ).Outer k sZ=ix (ix h.Mons i mZ).Outer k sZ
theorem zFt {h r:Host}{m p:Int}(hm:hasB m (ln h.Mons)=true)(hp:hasB p 8=true){x:Mon}{s:Slot}(hM:r.Mons=up h.Mons m x)(ho:x.Outer=up (ix h.Mons m mZ).Outer p s):But h r m p:=by
 refine ⟨fun i k hi hk hc=>?_⟩;rw[hM]
 by_cases e:m=i
 .subst e;rw[zW hm,ho,zbl (zy.1 hp).1 (zy.1 hk).1 (fun e=>hc ⟨rfl,e.symm⟩)]
 .rw [zbl (zy.1 hm).1 (zy.1 hi).1 e]
theorem zZ8 {h:Host}(H:HOk h){m p:Int}(hm:hasB m (ln h.Mons)=true)(hp:hasB p 8=true):But h (zda h m p) m p/\ix (ix (zda h m p).Mons m mZ).Outer p sZ=noSlot:=by
 have hM:(zda h m p).Mons=up h.Mons m (ziA { ix h.Mons m mZ with Out:=up (ix h.Mons m mZ).Out p (zb8 h.Memory (ix (ix h.Mons m mZ).Outer p sZ).Page) } p noSlot):=znY hm rfl;refine ⟨zFt hm hp hM rfl,?_⟩;rw[hM,zW hm];exact zW ((H.mon hm).hasO hp) _ _
structure Roomy (h r:Host):Prop where
 op:Op h r
 free:zbZ r≠[]
 sl:∀i k,hasB i (ln h.Mons)=true->hasB k 8=true->ix (ix r.Mons i mZ).Outer k sZ=ix (ix h.Mons i mZ).Outer k sZ\/ix (ix r.Mons i mZ).Outer k sZ=noSlot
 dirt:∀i,(ix r.Mons i mZ).Dirty=(ix h.Mons i mZ).Dirty
theorem zKU {h r:Host}{m:Int}(hm:hasB m (ln h.Mons)=true){x:Mon}(hM:r.Mons=up h.Mons m x)(hd:x.Dirty=(ix h.Mons m mZ).Dirty)(i:Int):(ix r.Mons i mZ).Dirty=(ix h.Mons i mZ).Dirty:=by
 rw[hM]
 by_cases e:i.toNat=m.toNat
 .have:∀l:List Mon,ix l i mZ=ix l m mZ:=fun l=>by unfold ix;rw[e]
  rw[this,this,zW hm,hd]
 .unfold ix up;simp[List.getD,jD,Ne.symm e]
theorem roomy {h:Host}(H:HOk h):Roomy h (zcO h):=by
 unfold zcO
 by_cases hf:zbZ h=[]
 .rw [show ieq (ln (zbZ h)) 0=true by rw[hf];rfl,cond_true]
  have hn:¬ (zbu h 0).1<0:=fun hc=>by
   have:(0:Int)∈zbZ h:=zFK.2 ⟨zy.2 (by unfold ln;rw[H.m12];omega),(zGT (by omega)).1 hc⟩
   rw[hf] at this;cases this
  obtain ⟨h1,h2,h3⟩:=z1R H (by omega) hn
  have k:=zVI H h1 h2 (by rw[h3];decide)
  have hs:=zZ8 H h1 h2;refine ⟨k,fun hc=>?_,fun i q hi hq=>?_,fun i=>zKU (x:=ziA { ix h.Mons (zbu h 0).1 mZ with Out:=up (ix h.Mons (zbu h 0).1 mZ).Out (zbu h 0).2 (zb8 h.Memory (ix (ix h.Mons (zbu h 0).1 mZ).Outer (zbu h 0).2 sZ).Page) } (zbu h 0).2 noSlot) h1 (znY h1 rfl) rfl i⟩
  .have:(0:Int)∈zbZ (zda h (zbu h 0).1 (zbu h 0).2):=by
    refine zFK.2 ⟨zy.2 (by unfold ln;rw[k.ok.m12];omega),?_⟩
    have hM:(zda h (zbu h 0).1 (zbu h 0).2).Mons=up h.Mons (zbu h 0).1 (ziA { ix h.Mons (zbu h 0).1 mZ with Out:=up (ix h.Mons (zbu h 0).1 mZ).Out (zbu h 0).2 (zb8 h.Memory (ix (ix h.Mons (zbu h 0).1 mZ).Outer (zbu h 0).2 sZ).Page) } (zbu h 0).2 noSlot):=znY h1 rfl;have c1:=zw5 h1 (ziA { ix h.Mons (zbu h 0).1 mZ with Out:=up (ix h.Mons (zbu h 0).1 mZ).Out (zbu h 0).2 (zb8 h.Memory (ix (ix h.Mons (zbu h 0).1 mZ).Outer (zbu h 0).2 sZ).Page) } (zbu h 0).2 noSlot) 0;rw[<- hM] at c1;have c2:=zQA (x':=ziA { ix h.Mons (zbu h 0).1 mZ with Out:=up (ix h.Mons (zbu h 0).1 mZ).Out (zbu h 0).2 (zb8 h.Memory (ix (ix h.Mons (zbu h 0).1 mZ).Outer (zbu h 0).2 sZ).Page) } (zbu h 0).2 noSlot) ((H.mon h1).hasO h2) (s:=noSlot) rfl 0;rw[if_pos h3,if_neg (by decide)] at c2
    have c3:=H.uq 0 (by omega)
    omega
   rw[hc] at this;cases this
  .by_cases e:i=(zbu h 0).1/\q=(zbu h 0).2
   .rw [e.1,e.2];exact .inr hs.2
   .exact .inl (hs.1.ne i q hi hq e)
 .have:ieq (ln (zbZ h)) 0=false:=zbJ.2 (by unfold ln;have:=kN.2 hf;omega)
  rw[this,cond_false];exact ⟨Op.refl H,hf,fun i k hi hk=>.inl rfl,fun _=>rfl⟩
theorem zU4 {m:List (List Int)}{p:Int}{c:List Int}(hp:hasB p (ln m)=true)(hc:zb5 c=true):zgK m p c=up m p c:=by unfold zgK;rw[hp,hc];rfl
theorem zBf {m:List (List Int)}{p q:Int}{c:List Int}(hp:0<=p)(h:q≠p):zb8 (up m p c) q=zb8 m q:=by
 unfold zb8;rw[zdr];cases hq:hasB q (ln m) with
 | false=>rfl
 | true=>rw[cond_true,cond_true,zbl hp (zy.1 hq).1 (Ne.symm h)]
theorem zBe {m:List (List Int)}{p:Int}{c:List Int}(hp:hasB p (ln m)=true):zb8 (up m p c) p=c:=by rw[zjM (by rw[zdr];exact hp),zW hp]
theorem zXl {h:Host}(H:HOk h){m p to:Int}(hm:hasB m (ln h.Mons)=true)(hp:hasB p 8=true)(hn:(ix (ix h.Mons m mZ).Outer p sZ).Page = -1)(ht:hasB to (ln h.Memory)=true)(hf:zd6 h.Mons to=0) :
 Op h (zew h m p to)/\But h (zew h m p to) m p/\ix (ix (zew h m p to).Mons m mZ).Outer p sZ=⟨to,3⟩/\∀i,(ix (zew h m p to).Mons i mZ).Dirty=(ix h.Mons i mZ).Dirty:=by
 have X:=H.mon hm;have ht':=zy.1 ht;unfold ln at ht';rw[H.m12]at ht';have hM:(zew h m p to).Mons=up h.Mons m (ziA { ix h.Mons m mZ with Out:=up (ix h.Mons m mZ).Out p [] } p ⟨to,3⟩):=znY hm rfl;have k:Chg (ix h.Mons m mZ) (ziA { ix h.Mons m mZ with Out:=up (ix h.Mons m mZ).Out p [] } p ⟨to,3⟩) p ⟨to,3⟩ []:=zAr rfl rfl rfl rfl rfl rfl rfl rfl rfl;have hfit:=((zog (X.slot hp)).1 (X.fit p hp)).1 hn;have hmem:(zew h m p to).Memory=up h.Memory to (ix (ix h.Mons m mZ).Out p []):=by
  show (zb6 (landing h m p to) m p ⟨to,3⟩).Memory=_
  rw[zvw];exact zU4 ht hfit
 have hs:SOk ⟨to,3⟩:=.inr ⟨ht'.1,by show to<=11;omega,by show (1:Int)<=3;omega,by show (3:Int)<=3;omega⟩
 have hb:=ztg (h:=landing h m p to) (m:=m) (p:=p) (s:=⟨to,3⟩) H.b1 H.b2;refine ⟨⟨zuV H hm hp hM k hs ((zog hs).2 ⟨fun h=>absurd h (by show to≠-1;omega),fun _=>⟨show enough 3 1=true by decide,rfl⟩⟩) (by rw[hmem,zbB];exact H.m12) (fun c hc=>?_) hb.1 hb.2 (fun _=>.inr hf),
  ztX H hm hp hM k ?_ (fun i q hi hq hc hne=>?_),fun R=>?_⟩,zFt hm hp hM rfl,?_,fun i=>zKU (x:=ziA { ix h.Mons m mZ with Out:=up (ix h.Mons m mZ).Out p [] } p ⟨to,3⟩) hm hM rfl i⟩
 .rw [hmem]at hc;rcases qZ hc with h1|h1
  .exact H.pgs c h1
  .rw [h1];exact hfit
 .rw [zmv hm hp (X.hasO hp),zbh.2 hn,cond_true,zjM (X.hasU hp)];rw[show ieq (⟨to,3⟩:Slot).Page (-1)=false from zbJ.2 (by show to≠-1;omega),cond_false,hmem]
  exact zBe ht
 .rw [hmem];refine zBf ht'.1 (fun e=>?_);have:=zFu hi ((H.mon hi).hasO hq);rw[e] at this;omega
 .have R1:Rt (landing h m p to):=zJ4 (x:={ ix h.Mons m mZ with Out:=up (ix h.Mons m mZ).Out p [] }) R hm rfl rfl rfl rfl (fun _ _=>rfl) rfl rfl;have hm1:hasB m (ln (landing h m p to).Mons)=true:=by show hasB m (ln (up h.Mons m _))=true;rw[zdr];exact hm
  have e1:ix (landing h m p to).Mons m mZ={ ix h.Mons m mZ with Out:=up (ix h.Mons m mZ).Out p [] }:=zW hm _ _;exact zx6 R1 hm1 (by rw[e1];exact X.hasO hp) (by rw[e1];exact X.gt) _
 .rw [hM,zW hm];exact zW (X.hasO hp) _ _
theorem zJT {h:Host}(H:HOk h){m p:Int}(hm:hasB m (ln h.Mons)=true)(hp:hasB p 8=true)(hn:(ix (ix h.Mons m mZ).Outer p sZ).Page = -1) :
 Op h (fetched h m p)/\(∃to,0<=to/\to<=11/\ix (ix (fetched h m p).Mons m mZ).Outer p sZ=⟨to,3⟩)/\∀i,(ix (fetched h m p).Mons i mZ).Dirty=(ix h.Mons i mZ).Dirty:=by
 have R:=roomy H;have hm1:hasB m (ln (zcO h).Mons)=true:=by rw[R.op.like.has];exact hm
 have hn1:(ix (ix (zcO h).Mons m mZ).Outer p sZ).Page = -1:=by
  rcases R.sl m p hm hp with h1|h1<;>rw [h1]
  .exact hn
  .rfl
 obtain ⟨h1,h2⟩:=zWU R.free;obtain ⟨k1,k2,k3,k4⟩:=zXl R.op.ok hm1 hp hn1 h1 h2;have h1':=zy.1 h1;unfold ln at h1';rw[R.op.ok.m12]at h1';exact ⟨R.op.trans k1,⟨_,h1'.1,by omega,k3⟩,fun i=>(k4 i).trans (R.dirt i)⟩
theorem zmC {o:List Slot}{p:Int}(h:hasB p (ln o)=true):zbm o p=ix o p sZ:=by unfold zbm;rw[h];rfl
theorem zjN {h:Host}(H:HOk h){m p:Int}(hm:hasB m (ln h.Mons)=true)(hp:hasB p 8=true) :
 (cond (ieq (ix (ix h.Mons m mZ).Outer p sZ).Page (-1)) (ix (ix h.Mons m mZ).Out p []) (zb8 h.Memory (ix (ix h.Mons m mZ).Outer p sZ).Page))=zcM h m p:=by
 rw[zmv hm hp ((H.mon hm).hasO hp),zjM ((H.mon hm).hasU hp)]
structure Mark (x y:Mon):Prop where
 o:y.Outer=x.Outer
 u:y.Out=x.Out
 g:y.Guests=x.Guests
 t:y.Tables=x.Tables
 d:y.Dirty.length=x.Dirty.length
 a1:y.Outs=x.Outs
 a2:y.Pending=x.Pending
 a3:y.Traps=x.Traps
 a4:y.Own=x.Own
theorem zVH {h:Host}(H:HOk h){m:Int}(hm:hasB m (ln h.Mons)=true){y:Mon}(k:Mark (ix h.Mons m mZ) y):Op h { h with Mons:=up h.Mons m y }/\∀i q,ix (ix (up h.Mons m y) i mZ).Outer q sZ=ix (ix h.Mons i mZ).Outer q sZ:=by
 have X:=H.mon hm;have h0:hasB 0 8=true:=by decide
 have c:Chg (ix h.Mons m mZ) y 0 (ix (ix h.Mons m mZ).Outer 0 sZ) (ix (ix h.Mons m mZ).Out 0 []):=⟨by rw[zHd (X.hasO h0),k.o],by rw[zHd (X.hasU h0),k.u],k.g,by rw[k.t],k.d,k.a1,k.a2,k.a3,k.a4⟩
 refine ⟨⟨zuV H hm h0 rfl c (X.slot h0) (X.fit 0 h0) H.m12 H.pgs H.b1 H.b2 (fun _=>.inl rfl),ztX H hm h0 rfl c (zjN H hm h0) (fun _ _ _ _ _ _=>rfl),
  fun R=>zJ4 R hm rfl rfl rfl (by rw[k.g]) (fun g _=>by rw[k.g]) k.t k.o⟩,fun i q=>?_⟩
 by_cases e:i.toNat=m.toNat
 .have:∀l:List Mon,ix l i mZ=ix l m mZ:=fun l=>by unfold ix;rw[e]
  rw[this,this,zW hm,k.o]
 .have:ix (up h.Mons m y) i mZ=ix h.Mons i mZ:=by
   unfold ix up;simp[List.getD,jD,Ne.symm e]
  rw[this]
theorem zJS {h:Host}(H:HOk h){m:Int}(hm:hasB m (ln h.Mons)=true)(p:Int):Op h (zbs h m p)/\∀i q,ix (ix (zbs h m p).Mons i mZ).Outer q sZ=ix (ix h.Mons i mZ).Outer q sZ :=
 zVH H hm ⟨rfl,rfl,rfl,rfl,zbB _ _ _,rfl,rfl,rfl,rfl⟩
theorem zZL {h:Host}(H:HOk h){m:Int}(hm:hasB m (ln h.Mons)=true)(p:Int):Op h (zoZ h m p)/\∀i q,ix (ix (zoZ h m p).Mons i mZ).Outer q sZ=ix (ix h.Mons i mZ).Outer q sZ :=
 zVH H hm ⟨rfl,rfl,rfl,rfl,zbB _ _ _,rfl,rfl,rfl,rfl⟩
theorem rights {r:Int}(h0:1<=r)(h3:r<=3):r=1\/r=2\/r=3:=by omega
theorem MOk.enough1 {x:Mon}(X:MOk x){p:Int}(hp:hasB p 8=true)(hn:(ix x.Outer p sZ).Page≠-1):(ix x.Outer p sZ).Rights=1\/(ix x.Outer p sZ).Rights=3:=by
 have h1:=(((zog (X.slot hp)).1 (X.fit p hp)).2 hn).1;have h2:=(X.slot hp).pos hn;rcases rights h2.2.2.1 h2.2.2.2 with e|e|e
 .exact .inl e
 .rw [e]at h1;exact absurd h1 (by decide)
 .exact .inr e
theorem zOb {h:Host}(H:HOk h){m p:Int}(hm:hasB m (ln h.Mons)=true)(hp:hasB p 8=true)(hn:(ix (ix h.Mons m mZ).Outer p sZ).Page≠-1){r:Int}(hr:r=1\/r=3) :
 Op h (zb6 h m p ⟨(ix (ix h.Mons m mZ).Outer p sZ).Page,r⟩)/\But h (zb6 h m p ⟨(ix (ix h.Mons m mZ).Outer p sZ).Page,r⟩) m p /\
  ix (ix (zb6 h m p ⟨(ix (ix h.Mons m mZ).Outer p sZ).Page,r⟩).Mons m mZ).Outer p sZ=⟨(ix (ix h.Mons m mZ).Outer p sZ).Page,r⟩/\∀i,(ix (zb6 h m p ⟨(ix (ix h.Mons m mZ).Outer p sZ).Page,r⟩).Mons i mZ).Dirty=(ix h.Mons i mZ).Dirty:=by
 have X:=H.mon hm;have hpos:=(X.slot hp).pos hn;have hM:=zqX h m p ⟨(ix (ix h.Mons m mZ).Outer p sZ).Page,r⟩;have k:Chg (ix h.Mons m mZ) (ziA (ix h.Mons m mZ) p ⟨(ix (ix h.Mons m mZ).Outer p sZ).Page,r⟩) p ⟨(ix (ix h.Mons m mZ).Outer p sZ).Page,r⟩ (ix (ix h.Mons m mZ).Out p []) :=
  zAr rfl (zHd (X.hasU hp) _).symm rfl rfl rfl rfl rfl rfl rfl
 have hs:SOk ⟨(ix (ix h.Mons m mZ).Outer p sZ).Page,r⟩:=.inr ⟨hpos.1,hpos.2.1,by show 1<=r;omega,by show r<=3;omega⟩
 have hfit:=((zog (X.slot hp)).1 (X.fit p hp)).2 hn;have hb:=ztg (h:=h) (m:=m) (p:=p) (s:=⟨(ix (ix h.Mons m mZ).Outer p sZ).Page,r⟩) H.b1 H.b2;have hmem:=zvw h m p ⟨(ix (ix h.Mons m mZ).Outer p sZ).Page,r⟩;refine ⟨⟨zuV H hm hp hM k hs ((zog hs).2 ⟨fun h=>absurd h hn,fun _=>⟨?_,hfit.2⟩⟩) (by rw[hmem];exact H.m12) (by rw[hmem];exact H.pgs) hb.1 hb.2 (fun _=>.inl rfl),
  ztX H hm hp hM k (by rw[hmem];exact zjN H hm hp) (fun i q _ _ _ _=>by rw[hmem]),fun R=>zx6 R hm (X.hasO hp) X.gt _⟩,zFt hm hp hM rfl,?_,fun i=>zKU hm hM rfl i⟩
 .show enough r 1=true
  rcases hr with rfl|rfl<;>decide
 .rw [hM,zW hm];exact zW (X.hasO hp) _ _
structure Mended (h r:Host) (m p n:Int):Prop where
 op:Op h r
 inn:(ix (ix r.Mons m mZ).Outer p sZ).Page≠-1
 ri:ieq (wand .i64 n 2) 0=false->(ix (ix r.Mons m mZ).Outer p sZ).Rights=3
 dt:ieq (wand .i64 n 2) 0=false->ix (ix r.Mons m mZ).Dirty p false=true
 d0:ieq (wand .i64 n 2) 0=true->(ix r.Mons m mZ).Dirty=(ix h.Mons m mZ).Dirty
 dk:∀k,hasB k 8=true->k≠p->ix (ix r.Mons m mZ).Dirty k false=ix (ix h.Mons m mZ).Dirty k false
 dm:∀i,hasB i (ln h.Mons)=true->i≠m->(ix r.Mons i mZ).Dirty=(ix h.Mons i mZ).Dirty
theorem zSu {h:Host}(H:HOk h){m p:Int}(n:Int)(hm:hasB m (ln h.Mons)=true)(hp:hasB p 8=true)(hn:(ix (ix h.Mons m mZ).Outer p sZ).Page≠-1):Mended h (ziq h m p n) m p n:=by
 unfold ziq;cases hw:ieq (wand .i64 n 2) 0 with
 | true=>exact ⟨Op.refl H,hn,fun e=>(Bool.noConfusion (hw.symm.trans e)),fun e=>(Bool.noConfusion (hw.symm.trans e)),fun _=>rfl,fun _ _ _=>rfl,fun _ _ _=>rfl⟩
 | false =>
  rw[cond_false];obtain ⟨k1,k2⟩:=zJS H hm p;have hm1:hasB m (ln (zbs h m p).Mons)=true:=by rw[k1.like.has];exact hm
  have hn1:(ix (ix (zbs h m p).Mons m mZ).Outer p sZ).Page≠-1:=by rw[k2];exact hn
  have hd:(ix (zbs h m p).Mons m mZ).Dirty=up (ix h.Mons m mZ).Dirty p true:=by
   show (ix (up h.Mons m _) m mZ).Dirty=_
   rw[zW hm]
  have hd2:∀i,hasB i (ln h.Mons)=true->i≠m->(ix (zbs h m p).Mons i mZ).Dirty=(ix h.Mons i mZ).Dirty:=fun i hi hc=>by
   show (ix (up h.Mons m _) i mZ).Dirty=_
   rw[zbl (zy.1 hm).1 (zy.1 hi).1 (Ne.symm hc)]
  have he:=(k1.ok.mon hm1).enough1 hp hn1;have hD:∀r:Host,(∀i,(ix r.Mons i mZ).Dirty=(ix (zbs h m p).Mons i mZ).Dirty)->Op (zbs h m p) r->(ix (ix r.Mons m mZ).Outer p sZ).Page≠-1->(ix (ix r.Mons m mZ).Outer p sZ).Rights=3->Mended h r m p n:=by
   intro r h1 h2 h3 h4;refine ⟨k1.trans h2,h3,fun _=>h4,fun _=>?_,fun e=>(Bool.noConfusion (hw.symm.trans e)),fun k hk hc=>?_,fun i hi hc=>by rw[h1,hd2 i hi hc]⟩
   .rw [h1,hd,zW ((H.mon hm).hasD hp)]
   .rw [h1,hd,zbl (zy.1 hp).1 (zy.1 hk).1 (Ne.symm hc)]
  unfold opened;rcases he with e|e
  .rw [e,show ieq (wand .i64 1 2) 0=true by decide,cond_true]
   obtain ⟨o1,o2,o3,o4⟩:=zOb k1.ok hm1 hp hn1 (r:=3) (.inr rfl);exact hD _ o4 o1 (by rw[o3];exact hn1) (by rw[o3])
  .rw [e,show ieq (wand .i64 3 2) 0=false by decide,cond_false]
   exact hD _ (fun _=>rfl) (Op.refl k1.ok) hn1 e
theorem zOa {h:Host}(H:HOk h){m p:Int}(n:Int)(hm:hasB m (ln h.Mons)=true)(hp:hasB p 8=true):Mended h (mended h m p n) m p n:=by
 unfold mended
 by_cases e:(ix (ix h.Mons m mZ).Outer p sZ).Page = -1
 .rw [zbh.2 e,cond_true];obtain ⟨k1,⟨to,t1,t2,t3⟩,k3⟩:=zJT H hm hp e;have K:=zSu k1.ok n (by rw[k1.like.has];exact hm) hp (by rw[t3];show to≠-1;omega)
  exact ⟨k1.trans K.op,K.inn,K.ri,K.dt,fun e=>by rw[K.d0 e,k3],fun k hk hc=>by rw[K.dk k hk hc,k3],fun i hi hc=>by rw[K.dm i (by rw[k1.like.has];exact hi) hc,k3]⟩
 .rw [zbJ.2 e,cond_false];exact zSu H n hm hp e
theorem zng {h:Host}{m p:Int}:zcf h m p=true↔HOk h/\hasB m (ln h.Mons)=true/\hasB p 8=true:=by
 unfold zcf;rw[zbT,zbT,zhL]
theorem zXm {h:Host}(H:HOk h)(m p:Int):Op h (zos h m p):=by
 unfold zos;cases hh:zcf h m p with
 | false=>exact Op.refl H
 | true =>
  obtain ⟨_,hm,hp⟩:=zng.1 hh;rw[cond_true];unfold zjj
  by_cases e:(ix (ix h.Mons m mZ).Outer p sZ).Page = -1
  .rw [zbh.2 e];exact Op.refl H
  .rw [zbJ.2 e];exact zVI H hm hp e
theorem zZK {h:Host}(H:HOk h)(m p:Int):Op h (zsA h m p):=by
 unfold zsA;cases hh:zcf h m p with
 | false=>exact Op.refl H
 | true =>
  obtain ⟨_,hm,hp⟩:=zng.1 hh;rw[cond_true];unfold zjj
  by_cases e:(ix (ix h.Mons m mZ).Outer p sZ).Page = -1
  .rw [zbh.2 e];exact (zJT H hm hp e).1
  .rw [zbJ.2 e];exact Op.refl H
theorem zZJ {h:Host}(H:HOk h)(m p:Int):Op h (zsf h m p):=by
 unfold zsf;cases hh:zcf h m p with
 | false=>exact Op.refl H
 | true =>
  obtain ⟨_,hm,hp⟩:=zng.1 hh;rw[cond_true];obtain ⟨k1,k2⟩:=zZL H hm p;cases e:zcg (ix (ix h.Mons m zf).Outer p zK) noSlot with
  | true=>exact k1
  | false =>
   rw[cond_false];have hn:(ix (ix h.Mons m mZ).Outer p sZ).Page≠-1:=fun h1=>zqg.1 e (((H.mon hm).slot hp).none h1);have:=zOb k1.ok (m:=m) (p:=p) (by rw[k1.like.has];exact hm) hp (by rw[k2];exact hn) (r:=1) (.inl rfl)
   rw[k2 m p] at this;exact k1.trans this.1
structure KeepP (x y:Mon):Prop where
 o:y.Outer=x.Outer
 u:y.Out=x.Out
theorem zJY {h r:Host}{m:Int}(hm:hasB m (ln h.Mons)=true){y:Mon}(hM:r.Mons=up h.Mons m y)(hmem:r.Memory=h.Memory)(k:KeepP (ix h.Mons m mZ) y)(i q:Int):zcM r i q=zcM h i q:=by
 unfold zcM;rw[hM,zdr,hmem];cases hi:hasB i (ln h.Mons) with
 | false=>rfl
 | true =>
  by_cases e:m=i
  .subst e;rw[zW hm,k.o,k.u]
  .rw [zbl (zy.1 hm).1 (zy.1 hi).1 e]
theorem ztc {h r:Host}{m:Int}(hm:hasB m (ln h.Mons)=true){y:Mon}(hM:r.Mons=up h.Mons m y)(hmem:r.Memory=h.Memory)(k:KeepP (ix h.Mons m mZ) y)(i:Int) :
 zB r i=bif ieq i m then ⟨(zB h i).Memory,y.Guests,y.Outs,y.Pending⟩ else zB h i:=by
 have hp:zco r i 8 0=zco h i 8 0:=zpk 8 0 (fun j _ _=>zJY hm hM hmem k i j);unfold zB;rw[hp,hM,zdr]
 by_cases e:i=m
 .subst e;rw[hm,zbh.2 rfl,zW hm];rfl
 .rw [zbJ.2 e,cond_false];cases hi:hasB i (ln h.Mons) with
  | false=>rfl
  | true=>rw[zbl (zy.1 hm).1 (zy.1 hi).1 (Ne.symm e)]
theorem zjI {x y:Mon}(X:MOk x)(k:KeepP x y)(g:y.Guests.length=x.Guests.length)(t:y.Tables.length=x.Tables.length)(d:y.Dirty.length=x.Dirty.length)(o:y.Outs.length<=40)(p:zcN y.Pending=true)(tr:win y.Traps 0 3=true)(ow:win y.Own 0 1000000000=true)(gs:∀g∈y.Guests,zcX g=true):MOk y :=
 ⟨by rw[g];exact X.g1,by rw[g];exact X.g2,by rw[t,g];exact X.gt,by rw[k.o];exact X.o8,by rw[k.o];exact X.sl,by rw[k.u];exact X.u8,by rw[d];exact X.d8,o,p,tr,ow,gs,by rw[k.o,k.u];exact X.fit⟩
theorem zQ8 {h:Host}(H:HOk h){m:Int}(hm:hasB m (ln h.Mons)=true){y:Mon}(k:KeepP (ix h.Mons m mZ) y)(hy:MOk y):HOk { h with Mons:=up h.Mons m y } :=
 H.up hm hy rfl H.m12 H.pgs H.b1 H.b2 fun q _=>.inl (by unfold cPg;rw[k.o];exact qX _)
theorem zuR {h:Host}(S:Safe h){m:Int}(hm:hasB m (ln h.Mons)=true){y:Mon}(k:KeepP (ix h.Mons m mZ) y)(hy:MOk y)(hg:y.Guests.length=(ix h.Mons m mZ).Guests.length)(hv:∀g,hasB g (ln (ix h.Mons m mZ).Guests)=true->(ix y.Guests g gZ).Live=(ix (ix h.Mons m mZ).Guests g gZ).Live)(ht:y.Tables=(ix h.Mons m mZ).Tables):Safe { h with Mons:=up h.Mons m y } :=
 ⟨zQ8 S.ok hm k hy,zJ4 S.rt hm rfl rfl rfl hg hv ht k.o⟩
theorem zPO {h:Host}(S:Safe h)(m t:Int):Safe (ziy h m t)/\∀i,zB (ziy h m t) i=zB h i:=by
 unfold ziy;rw[zhL.2 S.ok,cond_true];cases hm:hasB m (ln h.Mons) with
 | false=>exact ⟨S,fun _=>rfl⟩
 | true =>
  cases ht:win t 0 3 with
  | false=>exact ⟨S,fun _=>rfl⟩
  | true =>
   have X:=S.ok.mon hm;have k:KeepP (ix h.Mons m mZ) { ix h.Mons m mZ with Traps:=t }:=⟨rfl,rfl⟩;refine ⟨zuR S hm k (zjI X k rfl rfl rfl X.outs X.pend ht X.own X.gs) rfl (fun _ _=>rfl) rfl,fun i=>?_⟩;rw[cond_true,cond_true];refine (ztc (h:=h) (r:={ h with Mons:=up h.Mons m { ix h.Mons m mZ with Traps:=t } }) hm rfl rfl k i).trans ?_
   by_cases e:i=m
   .subst e;rw[zbh.2 rfl,cond_true];unfold zB;rw[hm];rfl
   .rw [zbJ.2 e];rfl
theorem zEz:∀(n i:Nat) (k:Kept),(zhK n i k).Known.length=k.Known.length/\(zhK n i k).Slots.length=k.Slots.length
 | 0,i,k=>⟨rfl,rfl⟩
 | n+1,i,k=>by
  have h1:=zEz n (i+1) (zbG k (i:Int));have h2:=zjy k (i:Int);exact ⟨h1.1.trans h2.1,h1.2.trans h2.2⟩
theorem zIq:∀(n i:Nat) (k:Kept),k.Known.length=k.Slots.length->∀j,hasB j (ln k.Known)=true ->
 ((i:Int)<=j/\j<((i+n:Nat):Int)->ix (zhK n i k).Known j false=false/\ix (zhK n i k).Slots j sZ=noSlot) /\
 (¬ ((i:Int)<=j/\j<((i+n:Nat):Int))->ix (zhK n i k).Known j false=ix k.Known j false/\ix (zhK n i k).Slots j sZ=ix k.Slots j sZ)
 | 0,i,k,_,j,_=>⟨fun h=>by omega,fun _=>⟨rfl,rfl⟩⟩
 | n+1,i,k,hl,j,hj=>by
  have h2:=zjy k (i:Int);have h3:=zu8 (q:=(i:Int)) hl hj;have ih:=zIq n (i+1) (zbG k (i:Int)) (by rw[h2.1,h2.2,hl]) j (by unfold ln at hj ⊢;rwa [h2.1])
  rw[zhK]
  by_cases hc:((i+1:Nat):Int)<=j/\j<((i+1+n:Nat):Int)
  .exact ⟨fun _=>ih.1 hc,fun h=>absurd (by omega) h⟩
  .rw [(ih.2 hc).1,(ih.2 hc).2,h3.1,h3.2]
   by_cases e:(i:Int)=j
   .rw [zbh.2 e];exact ⟨fun _=>⟨rfl,rfl⟩,fun h=>absurd (by omega) h⟩
   .rw [zbJ.2 e];exact ⟨fun h=>absurd (by omega) hc,fun _=>⟨rfl,rfl⟩⟩
theorem zO1 {k:Kept}{inner outer:List Slot}(h:KOk k inner outer):KOk (zih k) inner outer:=by
 have hl:=zEz k.Known.length 0 k;refine ⟨hl.1.trans h.l1,hl.2.trans h.l2,fun i hi=>?_⟩;have hi':hasB i (ln k.Known)=true:=by unfold ln at hi ⊢;rwa [h.l1]
 have hi2:=zy.1 hi';unfold ln at hi2;have:=(zIq k.Known.length 0 k (by rw[h.l1,h.l2]) i hi').1 ⟨by omega,by omega⟩
 unfold zih;rw[this.1,this.2];rfl
theorem zIc:∀(n j:Nat) (l:List Kept),(ztA n j l).length=l.length
 | 0,_,_=>rfl
 | n+1,j,l=>by rw[ztA,zIc n,zbB]
theorem zQE:∀(n j:Nat) (l:List Kept),j+n<=l.length->∀g,0<=g->ix (ztA n j l) g kZ=if (j:Int)<=g/\g<((j+n:Nat):Int) then zih (ix l g kZ) else ix l g kZ
 | 0,j,l,_,g,hg=>by rw[if_neg (by omega)];rfl
 | n+1,j,l,hl,g,hg=>by
  rw[ztA,zQE n (j+1) _ (by rw[zbB];omega) g hg]
  by_cases e:(j:Int)=g
  .subst e;rw[if_neg (by omega),if_pos (by omega),zW (zy.2 ⟨by omega,by unfold ln;omega⟩)]
  .rw [zbl (by omega) hg e]
   by_cases h:((j+1:Nat):Int)<=g/\g<((j+1+n:Nat):Int)
   .rw [if_pos h,if_pos (by omega)]
   .rw [if_neg h,if_neg (by omega)]
theorem zIb:∀(n i:Nat) (l:List Mon),(zmR n i l).length=l.length
 | 0,_,_=>rfl
 | n+1,i,l=>by rw[zmR,zIb n,zbB]
theorem zNG:∀(n i:Nat) (l:List Mon),i+n<=l.length->∀m,0<=m->ix (zmR n i l) m mZ=if (i:Int)<=m/\m<((i+n:Nat):Int) then ztB (ix l m mZ) (ix l m mZ).Tables.length 0 else ix l m mZ
 | 0,i,l,_,m,hm=>by rw[if_neg (by omega)];rfl
 | n+1,i,l,hl,m,hm=>by
  rw[zmR,zNG n (i+1) _ (by rw[zbB];omega) m hm]
  by_cases e:(i:Int)=m
  .subst e;rw[if_neg (by omega),if_pos (by omega),zW (zy.2 ⟨by omega,by unfold ln;omega⟩)]
  .rw [zbl (by omega) hm e]
   by_cases h:((i+1:Nat):Int)<=m/\m<((i+1+n:Nat):Int)
   .rw [if_pos h,if_pos (by omega)]
   .rw [if_neg h,if_neg (by omega)]
theorem z0R (h:Host){m:Int}(hm:hasB m (ln h.Mons)=true):ix (cold h).Mons m mZ=ztB (ix h.Mons m mZ) (ix h.Mons m mZ).Tables.length 0:=by
 have:=zy.1 hm;unfold ln at this
 show ix (zmR h.Mons.length 0 h.Mons) m mZ=_
 rw[zNG _ _ _ (by omega) m this.1,if_pos (by omega)]
theorem zvS (h:Host):(cold h).Mons.length=h.Mons.length:=zIb _ _ _
theorem zFw (h:Host)(m:Int):hasB m (ln (cold h).Mons)=hasB m (ln h.Mons):=by unfold ln;rw[zvS]
theorem z4r {l l':List Mon}(hl:l'.length=l.length)(h:∀m,hasB m (ln l)=true->(ix l' m mZ).Outer=(ix l m mZ).Outer)(q:Int):zd6 l' q=zd6 l q:=by
 have:l'.map (fun x=>cPg x q)=l.map (fun x=>cPg x q):=by
  refine List.ext_getElem (by simp[hl]) fun k h1 h2=>?_
  simp only[uH]at h1 h2;have:=h (k:Int) (zy.2 ⟨by omega,by unfold ln;omega⟩)
  rw[zjF h1,zjF h2] at this;simp[cPg,this]
 unfold zd6;rw[this]
theorem z5x {h:Host}(H:HOk h):Op h (cold h):=by
 have hx:∀m,hasB m (ln h.Mons)=true->ix (cold h).Mons m mZ=ztB (ix h.Mons m mZ) (ix h.Mons m mZ).Tables.length 0:=fun m hm=>z0R h hm;have hpg:∀i q,zcM (cold h) i q=zcM h i q:=by
  intro i q;unfold zcM;rw[zFw];cases hi:hasB i (ln h.Mons) with
  | false=>rfl
  | true=>rw[hx i hi];rfl
 refine ⟨⟨H.m12,H.pgs,by rw[zvS];exact H.n1,by rw[zvS];exact H.n3,rfl,rfl,fun y hy=>?_,fun q hq=>?_⟩,⟨zvS h,fun i hi=>by rw[hx i hi];rfl,fun i hi=>by rw[hx i hi];rfl,fun i hi=>by rw[hx i hi];rfl,fun i hi=>by rw[hx i hi];rfl,fun i hi=>by rw[hx i hi];rfl,fun i k _ _=>hpg i k⟩,fun R=>⟨fun m hm=>?_,fun e he=>(by cases he),fun e he=>(by cases he)⟩⟩
 .obtain ⟨m,hm,rfl⟩:=zJJ hy mZ;rw[zFw]at hm;rw[hx m hm];have X:=H.mon hm;have k:KeepP (ix h.Mons m mZ) (ztB (ix h.Mons m mZ) (ix h.Mons m mZ).Tables.length 0):=⟨rfl,rfl⟩;exact zjI X k rfl (zIc _ _ _) rfl X.outs X.pend X.tr X.own X.gs
 .rw [z4r (l:=h.Mons) (zvS h) (fun m hm=>by rw[hx m hm];rfl)]
  exact H.uq q hq
 .rw [zFw]at hm;rw[hx m hm];have X:=H.mon hm;intro g hg
  show KOk (ix (ztA (ix h.Mons m mZ).Tables.length 0 (ix h.Mons m mZ).Tables) g kZ) (ix (ix h.Mons m mZ).Guests g gZ).Live (ix h.Mons m mZ).Outer
  have hg':hasB g (ln (ix h.Mons m mZ).Guests)=true:=hg;have hg2:=zy.1 hg';unfold ln at hg2;have hgt:=X.gt;rw[zQE _ _ _ (by omega) g hg2.1,if_pos (by omega)]
  exact zO1 (R.t m hm g hg')
theorem zTa {m g:Int}(hm:win m 0 2=true)(hg:win g 0 1=true):zcC (zdq m g)=m/\zc8 (zdq m g)=g/\1<=zdq m g/\zdq m g<=6:=by
 have h1:=zcq.1 hm;have h2:=zcq.1 hg;have e1:m=0\/m=1\/m=2:=by omega
 have e2:g=0\/g=1:=by omega
 rcases e1 with rfl|rfl|rfl<;>rcases e2 with rfl|rfl<;>decide
theorem HOk.tag {h:Host}(H:HOk h){m g:Int}(hm:hasB m (ln h.Mons)=true)(hg:hasB g (ln (ix h.Mons m mZ).Guests)=true):win m 0 2=true/\win g 0 1=true:=by
 have h1:=zy.1 hm;have h2:=zy.1 hg;have h3:=H.n3;have h4:=(H.mon hm).g2;unfold ln at h1 h2;exact ⟨zcq.2 (by omega),zcq.2 (by omega)⟩
theorem zfJ {r:Int}:zcu r=true↔r=0\/r=1\/r=2\/r=3:=by
 unfold zcu ige ile;rw[qD,qU,qU];omega
theorem zpT {a b:Int}(h:enough a b=true):zcu a=true/\zcu b=true:=by
 unfold enough at h;rw[zbT,zbT]at h;exact ⟨h.1,h.2.1⟩
theorem zQW {a b c:Int}(h1:enough a b=true)(h2:enough b c=true):enough a c=true:=by
 have ha:=zfJ.1 (zpT h1).1;have hb:=zfJ.1 (zpT h1).2;have hc:=zfJ.1 (zpT h2).2;rcases ha with rfl|rfl|rfl|rfl<;>rcases hb with rfl|rfl|rfl|rfl<;>rcases hc with rfl|rfl|rfl|rfl<;>revert h1 h2<;>decide
theorem zTN {a b n:Int}(hn:n=1\/n=2)(h1:enough a n=true)(h2:enough b n=true):zcZ a b≠0/\enough (zcZ a b) n=true:=by
 have ha:=zfJ.1 (zpT h1).1;have hb:=zfJ.1 (zpT h2).1;rcases hn with rfl|rfl<;>rcases ha with rfl|rfl|rfl|rfl<;>rcases hb with rfl|rfl|rfl|rfl<;>revert h1 h2<;>decide
theorem both_ok (a b:Int):zcu (zcZ a b)=true:=by
 unfold zcZ;cases ha:zcu a with
 | false=>rfl
 | true =>
  cases hb:zcu b with
  | false=>rfl
  | true =>
   have ha:=zfJ.1 ha;have hb:=zfJ.1 hb;rcases ha with rfl|rfl|rfl|rfl<;>rcases hb with rfl|rfl|rfl|rfl<;>decide
theorem zTS {a:Int}(h:zcu a=true):enough a a=true:=by
 rcases zfJ.1 h with rfl|rfl|rfl|rfl<;>decide
theorem zo7 {n:Int}(hn:n=1\/n=2):enough 0 n=false:=by rcases hn with rfl|rfl<;>decide
theorem zWr {s:Slot}{o:List Slot}(h1:s.Page≠-1)(h2:(zbm o s.Page).Page≠-1):zba s o=bif ieq (zcZ s.Rights (zbm o s.Page).Rights) 0 then noSlot else ⟨(zbm o s.Page).Page,zcZ s.Rights (zbm o s.Page).Rights⟩:=by
 unfold zba;rw[zbJ.2 h1,zbJ.2 h2];rfl
theorem zoc {s:Slot}{o:List Slot}{n:Int}(hn:n=1\/n=2)(h:enough (zba s o).Rights n=true):s.Page≠-1/\(zbm o s.Page).Page≠-1/\(zba s o).Page=(zbm o s.Page).Page:=by
 unfold zba at h ⊢
 by_cases e1:s.Page = -1
 .rw [zbh.2 e1,cond_true]at h;rw[show noSlot.Rights=0 from rfl,zo7 hn]at h;cases h
 .rw [zbJ.2 e1,cond_false]at h ⊢
  by_cases e2:(zbm o s.Page).Page = -1
  .rw [zbh.2 e2,cond_true]at h;rw[show noSlot.Rights=0 from rfl,zo7 hn]at h;cases h
  .rw [zbJ.2 e2,cond_false]at h ⊢
   by_cases e3:zcZ s.Rights (zbm o s.Page).Rights=0
   .rw [zbh.2 e3,cond_true]at h;rw[show noSlot.Rights=0 from rfl,zo7 hn]at h;cases h
   .rw [zbJ.2 e3];exact ⟨e1,e2,rfl⟩
theorem zQF {s:Slot}{o:List Slot}{n:Int}(hn:n=1\/n=2)(h1:s.Page≠-1)(h2:(zbm o s.Page).Page≠-1)(h3:enough s.Rights n=true)(h4:enough (zbm o s.Page).Rights n=true) :
 (zba s o).Page=(zbm o s.Page).Page/\enough (zba s o).Rights n=true:=by
 have:=zTN hn h3 h4;rw[zWr h1 h2,zbJ.2 this.1];exact ⟨rfl,this.2⟩
theorem zWs (s:Slot)(o:List Slot):zcu (zba s o).Rights=true:=by
 unfold zba;cases ieq s.Page (-1)<;>cases ieq (zbm o s.Page).Page (-1)<;>cases ieq (zcZ s.Rights (zbm o s.Page).Rights) 0<;>first|rfl|exact both_ok _ _
theorem zxq {b:List Entry}{t p:Int}{e:Entry}:e∈zcl b t p↔e∈b/\¬ (e.Tag=t/\e.Page=p):=by
 unfold zcl;rw[List.mem_filter];refine and_congr Iff.rfl ?_;unfold zp7
 by_cases h:e.Tag=t
 .rw [show ine e.Tag t=false by simp[ine,h],cond_false,zrO];simp[h]
 .rw [zrO.2 h];simp[h]
theorem z1Z {b:List Entry}{e x:Entry}(h:x∈zoA b e):x∈b\/x=e:=by
 unfold zoA ap at h;have:x∈zcl b e.Tag e.Page++[e]:=by
  cases hc:igt (ln (zcl b e.Tag e.Page++[e])) 6 with
  | true=>rw[hc,cond_true]at h;exact kK h
  | false=>rw[hc,cond_false]at h;exact h
 rcases jK.1 this with h|h
 .exact .inl (zxq.1 h).1
 .exact .inr (qF.1 h)
theorem z7B {n:Nat}(h:n<=100):wsub .i64 (n:Int) 6=(n:Int)-6:=by
 unfold wsub IntKind.wrap;simp[IntKind.signed,IntKind.bits];omega
theorem zVe {b:List Entry}(h:zez b=true)(e:Entry):zez (zoA b e)=true:=by
 have h1:=zCw.1 h;have hl:(zcl b e.Tag e.Page).length<=6:=jC (k9 _ _) h1.2;have hp:(zcl b e.Tag e.Page++[e]).Pairwise (fun y x=>sameKey x y=false):=by
  rw[List.pairwise_append];refine ⟨h1.1.sublist List.filter_sublist,List.pairwise_singleton _ _,fun x hx y hy=>?_⟩;rw[qF.1 hy];have:=(zxq.1 hx).2;unfold sameKey
  by_cases e1:e.Tag=x.Tag
  .rw [zbh.2 e1,cond_true,zbJ];exact fun e2=>this ⟨e1.symm,e2.symm⟩
  .rw [zbJ.2 e1];rfl
 unfold zoA ap;cases hc:igt (ln (zcl b e.Tag e.Page++[e])) 6 with
 | true =>
  rw[cond_true,zCw];refine ⟨hp.sublist (List.drop_sublist _ _),?_⟩;unfold dp ln;rw[kR,uT,z7B (by omega),List.length_drop,kR,uT]
  omega
 | false =>
  rw[cond_false,zCw];refine ⟨hp,?_⟩;have:=jT hc;unfold ln at this;omega
theorem zZs {h r:Host}{m:Int}(hm:hasB m (ln h.Mons)=true){y:Mon}(hM:r.Mons=up h.Mons m y)(hmem:r.Memory=h.Memory)(k:KeepP (ix h.Mons m mZ) y)(g:y.Guests=(ix h.Mons m mZ).Guests)(o:y.Outs=(ix h.Mons m mZ).Outs)(p:y.Pending=(ix h.Mons m mZ).Pending)(t:y.Traps=(ix h.Mons m mZ).Traps)(w:y.Own=(ix h.Mons m mZ).Own):Like h r:=by
 have e:∀{α:Type} (F:Mon->α),F y=F (ix h.Mons m mZ)->∀i,hasB i (ln h.Mons)=true->F (ix r.Mons i mZ)=F (ix h.Mons i mZ):=by
  intro α F hF i hi;rw[hM]
  by_cases e:m=i
  .subst e;rw[zW hm];exact hF
  .rw [zbl (zy.1 hm).1 (zy.1 hi).1 e]
 exact ⟨by rw[hM,zbB],e Mon.Guests g,e Mon.Outs o,e Mon.Pending p,e Mon.Traps t,e Mon.Own w,fun i q _ _=>zJY hm hM hmem k i q⟩
theorem z15 {h:Host}(R:Rt h){m g:Int}(hm:hasB m (ln h.Mons)=true)(ht:hasB g (ln (ix h.Mons m mZ).Tables)=true){k:Kept}(hk:KOk k (ix (ix h.Mons m mZ).Guests g gZ).Live (ix h.Mons m mZ).Outer) :
 Rt { h with Mons:=up h.Mons m { ix h.Mons m mZ with Tables:=up (ix h.Mons m mZ).Tables g k } }:=by
 have key:∀e,zcc h e=true->zcc { h with Mons:=up h.Mons m { ix h.Mons m mZ with Tables:=up (ix h.Mons m mZ).Tables g k } } e=true:=by
  intro e he;obtain ⟨h1,h2,h3⟩:=ze2.1 he;rw[ze2]
  show hasB (zcC e.Tag) (ln (up h.Mons m _))=true/\hasB (zc8 e.Tag) (ln (ix (up h.Mons m _) (zcC e.Tag) mZ).Guests)=true/\below' _ (zba (zbm (ix (ix (up h.Mons m _) (zcC e.Tag) mZ).Guests (zc8 e.Tag) gZ).Live e.Page) (ix (up h.Mons m _) (zcC e.Tag) mZ).Outer)=true
  rw[zdr];refine ⟨h1,?_⟩
  by_cases hc:m=zcC e.Tag
  .rw [<- hc]at h1 h2 h3 ⊢;rw[zW hm];exact ⟨h2,h3⟩
  .rw [zbl (zy.1 hm).1 (zy.1 h1).1 hc];exact ⟨h2,h3⟩
 refine ⟨fun i hi=>?_,fun e he=>key e (R.e1 e he),fun e he=>key e (R.e2 e he)⟩
 show TOk (ix (up h.Mons m _) i mZ)
 have hi':hasB i (ln h.Mons)=true:=by
  have:hasB i (ln (up h.Mons m { ix h.Mons m mZ with Tables:=up (ix h.Mons m mZ).Tables g k }))=true:=hi
  rwa [zdr] at this
 by_cases hc:m=i
 .subst hc;rw[zW hm];intro j hj
  by_cases e:g=j
  .subst e
   show KOk (ix (up _ g k) g kZ) _ _
   rw[zW ht];exact hk
  .show KOk (ix (up _ g k) j kZ) _ _
   rw[zbl (zy.1 ht).1 (zy.1 hj).1 e];exact R.t m hm j hj
 .rw [zbl (zy.1 hm).1 (zy.1 hi').1 hc];exact R.t i hi'
theorem z1O {h:Host}(H:HOk h){m g:Int}(hm:hasB m (ln h.Mons)=true)(ht:hasB g (ln (ix h.Mons m mZ).Tables)=true){k:Kept}(hk:Rt h->KOk k (ix (ix h.Mons m mZ).Guests g gZ).Live (ix h.Mons m mZ).Outer) :
 Op h { h with Mons:=up h.Mons m { ix h.Mons m mZ with Tables:=up (ix h.Mons m mZ).Tables g k } }:=by
 have X:=H.mon hm;have kp:KeepP (ix h.Mons m mZ) { ix h.Mons m mZ with Tables:=up (ix h.Mons m mZ).Tables g k }:=⟨rfl,rfl⟩;exact ⟨zQ8 H hm kp (zjI X kp rfl (zbB _ _ _) rfl X.outs X.pend X.tr X.own X.gs),zZs (y:={ ix h.Mons m mZ with Tables:=up (ix h.Mons m mZ).Tables g k }) hm rfl rfl kp rfl rfl rfl rfl rfl,fun R=>z15 R hm ht (hk R)⟩
theorem zJh {k:Kept}{inner outer:List Slot}(h:KOk k inner outer)(p:Int):KOk (filled k inner outer p) inner outer:=by
 unfold filled zcY;cases h1:hasB p (ln k.Known) with
 | false=>exact h
 | true =>
  have hs:hasB p (ln k.Slots)=true:=by unfold ln at h1 ⊢;rw[h.l2,<- h.l1];exact h1
  have hi:hasB p (ln inner)=true:=by unfold ln at h1 ⊢;rw[<- h.l1];exact h1
  rw[cond_true,hs,cond_true,hi,cond_true];refine ⟨by rw[zbB];exact h.l1,by rw[zbB];exact h.l2,fun i hi'=>?_⟩
  by_cases e:p=i
  .subst e
   show ix (up _ p _) p sZ=bif ix (up _ p true) p false then _ else _
   rw[zW hs,zW h1];rfl
  .show ix (up _ p _) i sZ=bif ix (up _ p true) i false then _ else _
   rw[zbl (zy.1 hs).1 (zy.1 hi').1 e,zbl (zy.1 hs).1 (zy.1 hi').1 e];exact h.at' i hi'
theorem z5y {h:Host}(H:HOk h){m g:Int}(hm:hasB m (ln h.Mons)=true)(hg:hasB g (ln (ix h.Mons m mZ).Guests)=true)(page:Int):Op h (zb7 h m g page) :=
 z1O H hm (by unfold ln;rw[(H.mon hm).gt];exact hg) fun R=>zJh (R.t m hm g hg) page
theorem zYe {k:Kept}{inner outer:List Slot}(h:KOk k inner outer){p:Int}(hp:hasB p (ln inner)=true):zdk k p=bif ix k.Known p false then zba (ix inner p sZ) outer else noSlot:=by
 have h1:hasB p (ln k.Known)=true:=by unfold ln at hp ⊢;rw[h.l1];exact hp
 have h2:hasB p (ln k.Slots)=true:=by unfold ln at hp ⊢;rw[h.l2];exact hp
 unfold zdk zhN zcY;rw[h1,h2,cond_true,cond_true,h.at' p hp];cases ix k.Known p false<;>rfl
theorem zWj {k:Kept}{inner outer:List Slot}(h:KOk k inner outer){p:Int}(hp:hasB p (ln inner)=true):zdk (filled k inner outer p) p=zba (ix inner p sZ) outer:=by
 rw[zYe (zJh h p) hp];have h1:hasB p (ln k.Known)=true:=by unfold ln at hp ⊢;rw[h.l1];exact hp
 have h2:hasB p (ln k.Slots)=true:=by unfold ln at hp ⊢;rw[h.l2];exact hp
 have:ix (filled k inner outer p).Known p false=true:=by
  unfold filled zcY;rw[h1,h2,hp];exact zW h1 _ _
 rw[this];rfl
theorem z6J {h:Host}(H:HOk h){m g page:Int}(io:Bool)(he:Rt h->zcc h (zP5 h m g page)=true):Op h (zt0 h m g page io):=by
 have hl:∀(b1 b2:List Entry),Like h ⟨h.Memory,h.Mons,b1,b2⟩:=fun _ _=>⟨rfl,fun _ _=>rfl,fun _ _=>rfl,fun _ _=>rfl,fun _ _=>rfl,fun _ _=>rfl,fun _ _ _ _=>rfl⟩;have key:∀(b:List Entry),(∀e∈b,zcc h e=true)->Rt h->∀e∈zoA b (zP5 h m g page),zcc h e=true:=by
  intro b hb R e hx;rcases z1Z hx with hx|hx
  .exact hb e hx
  .rw [hx];exact he R
 unfold zt0;cases io
 .exact ⟨⟨H.m12,H.pgs,H.n1,H.n3,zVe H.b1 _,H.b2,H.mons,H.uq⟩,hl _ _,fun R=>⟨R.t,fun e hx=>key _ R.e1 R e hx,R.e2⟩⟩
 .exact ⟨⟨H.m12,H.pgs,H.n1,H.n3,H.b1,zVe H.b2 _,H.mons,H.uq⟩,hl _ _,fun R=>⟨R.t,R.e1,fun e hx=>key _ R.e2 R e hx⟩⟩
theorem z1s {b:List Entry}{t p:Int}{e:Entry}(h:zra b t p=some e):e∈b/\e.Tag=t/\e.Page=p:=by
 unfold zra at h;have h1:=List.find?_some h;rw[zbT,zbh,zbh]at h1;exact ⟨uI h,h1⟩
theorem zgR {h:Host}{m g:Int}:zbH h m g=true↔HOk h/\hasB m (ln h.Mons)=true/\hasB g (ln (ix h.Mons m mZ).Guests)=true:=by
 unfold zbH;rw[zbT,zbT,zhL]
structure GOk (x:Guest):Prop where
 prog:zcT x.Prog=true
 a:win x.A 0 99=true
 pc:win x.Pc 0 12=true
 w:zcn x.Written 4 8=true
 l:zcn x.Live 4 8=true
 ctl:zgL x.Ctl=true
 pend:zcN x.Pending=true
 ex:zgC x.Exit=true
 seen:ile (ln x.Seen) 40=true
theorem zrK {x:Guest}:zcX x=true↔GOk x:=by
 unfold zcX;simp only[qD];exact ⟨fun ⟨a,b,c,d,e,f,g,h,i⟩=>⟨a,b,c,d,e,f,g,h,i⟩,fun ⟨a,b,c,d,e,f,g,h,i⟩=>⟨a,b,c,d,e,f,g,h,i⟩⟩
theorem z0d {s:Slot}:zdd s 8=true↔s=noSlot\/(0<=s.Page/\s.Page<=7/\1<=s.Rights/\s.Rights<=3):=by
 unfold zdd;rw[zr2,ziz,zqg];have:wsub .i64 8 1=7:=by decide
 simp only[this,zr2,zcq];simp[igt];constructor
 .rintro (h|⟨h,⟨h1,h2⟩,h3⟩)
  .exact .inl h
  .exact .inr ⟨h1,h2,h3⟩
 .intro h
  by_cases hs:s=noSlot
  .exact .inl hs
  .rcases h with h|⟨h1,h2,h3⟩
   .exact .inl h
   .exact .inr ⟨hs,⟨h1,h2⟩,h3⟩
theorem HOk.guest {h:Host}(H:HOk h){m g:Int}(hm:hasB m (ln h.Mons)=true)(hg:hasB g (ln (ix h.Mons m mZ).Guests)=true):GOk (ix (ix h.Mons m mZ).Guests g gZ):=zrK.1 ((H.mon hm).gs _ (zkr hg _))
structure Walked (l:List Slot) (p n q:Int):Prop where
 hp:hasB p (ln l)=true
 pg:(ix l p sZ).Page=q
 q8:hasB q 8=true
 en:enough (ix l p sZ).Rights n=true
theorem walked {x:Guest}(X:GOk x){p n:Int}(hw:zdn x.Live p n=true):Walked x.Live p n (zbQ x.Live p n):=by
 have e:zbQ x.Live p n=(zbm x.Live p).Page:=by unfold zbQ;rw[hw];rfl
 unfold zdn at hw
 by_cases h1:(zbm x.Live p).Page = -1
 .rw [zbh.2 h1]at hw;cases hw
 .rw [zbJ.2 h1,cond_false,zbT]at hw;have hp:hasB p (ln x.Live)=true:=by
   cases hp:hasB p (ln x.Live) with
   | true=>rfl
   | false=>exact absurd (by unfold zbm;rw[hp];rfl) h1
  rw[zmC hp] at e h1 hw;rw[e];have hs:=z0d.1 ((zpN.1 X.l).1 _ (zkr hp sZ));refine ⟨hp,rfl,?_,hw.1⟩;rcases hs with hs|hs
  .rw [hs]at h1;exact absurd rfl h1
  .exact zy.2 (by omega)
structure Looked (h r:Host) (m g page need q host:Int):Prop where
 op:Op h r
 inn:(ix (ix r.Mons m mZ).Outer q sZ).Page=host
 ne:host≠-1
 en:enough (zba (ix (ix (ix h.Mons m mZ).Guests g gZ).Live page sZ) (ix r.Mons m mZ).Outer).Rights need=true
 cp:(zba (ix (ix (ix h.Mons m mZ).Guests g gZ).Live page sZ) (ix r.Mons m mZ).Outer).Page=host
 dk:∀k,hasB k 8=true->k≠q->ix (ix r.Mons m mZ).Dirty k false=ix (ix h.Mons m mZ).Dirty k false
 dq:need=2->ix (ix r.Mons m mZ).Dirty q false=true
 d1:need=1->(ix r.Mons m mZ).Dirty=(ix h.Mons m mZ).Dirty
 dm:∀i,hasB i (ln h.Mons)=true->i≠m->(ix r.Mons i mZ).Dirty=(ix h.Mons i mZ).Dirty
theorem zN3 {h:Host}(S:Safe h){m g page need q:Int}(hm:hasB m (ln h.Mons)=true)(hg:hasB g (ln (ix h.Mons m mZ).Guests)=true)(hn:need=1\/need=2)(W:Walked (ix (ix h.Mons m mZ).Guests g gZ).Live page need q)(io:Bool)(ha:zdk (zbK h m g) page=zba (ix (ix (ix h.Mons m mZ).Guests g gZ).Live page sZ) (ix h.Mons m mZ).Outer)(he:enough (zdk (zbK h m g) page).Rights need=true) :
 Op h (zd0 h m g page io).1/\(zd0 h m g page io).2=((ix (ix h.Mons m mZ).Outer q sZ).Page,true)/\(ix (ix h.Mons m mZ).Outer q sZ).Page≠-1/\(zd0 h m g page io).1.Mons=h.Mons:=by
 rw[ha]at he;have hc:=zoc hn he;rw[W.pg,zmC ((S.ok.mon hm).hasO W.q8)]at hc;refine ⟨z6J S.ok io fun R=>?_,?_,hc.2.1,?_⟩
 .obtain ⟨t1,t2⟩:=S.ok.tag hm hg;obtain ⟨b1,b2,_⟩:=zTa t1 t2;rw[ze2]
  show hasB (zcC (zdq m g)) _=true/\hasB (zc8 (zdq m g)) (ln (ix h.Mons (zcC (zdq m g)) mZ).Guests)=true/\below' ⟨(zdk (zbK h m g) page).Page,(zdk (zbK h m g) page).Rights⟩ (zba (zbm (ix (ix h.Mons (zcC (zdq m g)) mZ).Guests (zc8 (zdq m g)) gZ).Live page) (ix h.Mons (zcC (zdq m g)) mZ).Outer)=true
  rw[b1,b2,zmC W.hp,ha];exact ⟨hm,hg,zpR.2 (.inr ⟨rfl,zTS (zWs _ _)⟩)⟩
 .show ((zdk (zbK h m g) page).Page,true)=_
  rw[ha,hc.2.2]
 .show (zt0 h m g page io).Mons=_
  unfold zt0;cases io<;>rfl
theorem zSd {h:Host}(S:Safe h){m g page need q:Int}(hm:hasB m (ln h.Mons)=true)(hg:hasB g (ln (ix h.Mons m mZ).Guests)=true)(hn:need=1\/need=2)(W:Walked (ix (ix h.Mons m mZ).Guests g gZ).Live page need q)(io:Bool){b:List Entry}(hb:∀e∈b,zcc h e=true)(hd:need=2->ix (ix h.Mons m mZ).Dirty q false=true) :
 Looked h (zfp h b m g page need q io).1 m g page need q (zfp h b m g page need q io).2.1/\(zfp h b m g page need q io).2.2=true:=by
 have X:=S.ok.mon hm;have hq8:=W.q8;have hsl:=zmC (X.hasO W.q8);unfold zfp;cases hf:zgQ b m g page need with
 | true =>
  rw[cond_true];unfold zgQ at hf;cases hfb:zpW b m g page with
  | none=>rw[hfb]at hf;cases hf
  | some e =>
   rw[hfb]at hf;have hf':enough e.Rights need=true:=hf;obtain ⟨f1,f2,f3⟩:=z1s hfb;obtain ⟨t1,t2⟩:=S.ok.tag hm hg;obtain ⟨b1,b2,_⟩:=zTa t1 t2;obtain ⟨_,_,h3⟩:=ze2.1 (hb e f1);rw[f2,b1,b2,f3,zmC W.hp]at h3;have hne:(⟨e.Host,e.Rights⟩:Slot)≠noSlot:=fun hc=>by
    have:e.Rights=0:=congrArg Slot.Rights hc;rw[this,zo7 hn]at hf';cases hf'
   rcases zpR.1 h3 with h3|⟨h3,h4⟩
   .exact absurd h3 hne
   .have h5:=zQW h4 hf';have hc:=zoc hn h5;rw[W.pg,hsl]at hc;have h3':e.Host=_:=h3;refine ⟨⟨Op.refl S.ok,hc.2.2.symm.trans h3.symm,?_,h5,h3.symm,fun _ _ _=>rfl,hd,fun _=>rfl,fun _ _ _=>rfl⟩,rfl⟩
    show e.Host≠-1
    rw[h3',hc.2.2];exact hc.2.1
 | false =>
  rw[cond_false];have hKO:=S.rt.t m hm g hg;cases hs:zdT h m g page need with
  | false =>
   rw[cond_false];have hs':ix (zbK h m g).Known page false=true/\enough (zdk (zbK h m g) page).Rights need=true:=by
    unfold zdT at hs;cases hk:zhN (zbK h m g) page with
    | false=>rw[hk]at hs;cases hs
    | true =>
     rw[hk,cond_true]at hs;refine ⟨?_,?_⟩
     .unfold zhN at hk;cases hh:zcY (zbK h m g) page with
      | false=>rw[hh]at hk;cases hk
      | true=>rw[hh]at hk;exact hk
     .cases hz:ieq (zdk (zbK h m g) page).Page (-1) with
      | true=>rw[hz]at hs;cases hs
      | false=>rw[hz]at hs;simpa using hs
   have ha:zdk (zbK h m g) page=zba (ix (ix (ix h.Mons m mZ).Guests g gZ).Live page sZ) (ix h.Mons m mZ).Outer:=by
    have h0:=zYe hKO W.hp;have h1:ix (ix (ix h.Mons m mZ).Tables g kZ).Known page false=true:=hs'.1;rw[h1]at h0;exact h0
   obtain ⟨o1,o2,o3,o4⟩:=zN3 S hm hg hn W io ha hs'.2;rw[o2];have he:=hs'.2;rw[ha]at he;have hc:=zoc hn he;rw[W.pg,hsl]at hc;exact ⟨⟨o1,by rw[o4],o3,by rw[o4];exact he,by rw[o4];exact hc.2.2,fun _ _ _=>by rw[o4],fun e=>by rw[o4];exact hd e,fun _=>by rw[o4],fun _ _ _=>by rw[o4]⟩,rfl⟩
  | true =>
   rw[cond_true];have M:=zOa S.ok (m:=m) (p:=q) need hm hq8;have hm1:hasB m (ln (mended h m q need).Mons)=true:=by rw[M.op.like.has];exact hm
   have hgs:(ix (mended h m q need).Mons m mZ).Guests=(ix h.Mons m mZ).Guests:=M.op.like.g m hm;have hg1:hasB g (ln (ix (mended h m q need).Mons m mZ).Guests)=true:=by rw[hgs];exact hg
   have S1:Safe (mended h m q need):=M.op.safe S;have F:=z5y S1.ok hm1 hg1 page;have S2:Safe (zb7 (mended h m q need) m g page):=F.safe S1;have hm2:hasB m (ln (zb7 (mended h m q need) m g page).Mons)=true:=by rw[F.like.has];exact hm1
   have e2:ix (zb7 (mended h m q need) m g page).Mons m mZ={ ix (mended h m q need).Mons m mZ with Tables:=up (ix (mended h m q need).Mons m mZ).Tables g (filled (zbK (mended h m q need) m g) (zb4 (mended h m q need) m g) (ix (mended h m q need).Mons m mZ).Outer page) }:=zW hm1 _ _;have hg2:hasB g (ln (ix (zb7 (mended h m q need) m g page).Mons m mZ).Guests)=true:=by rw[e2];exact hg1
   have hgs2:(ix (zb7 (mended h m q need) m g page).Mons m mZ).Guests=(ix h.Mons m mZ).Guests:=by rw[e2];exact hgs
   have W2:Walked (ix (ix (zb7 (mended h m q need) m g page).Mons m mZ).Guests g gZ).Live page need q:=by rw[hgs2];exact W
   have ha:zdk (zbK (zb7 (mended h m q need) m g page) m g) page=zba (ix (ix (ix (zb7 (mended h m q need) m g page).Mons m mZ).Guests g gZ).Live page sZ) (ix (zb7 (mended h m q need) m g page).Mons m mZ).Outer:=by
    have:zbK (zb7 (mended h m q need) m g page) m g=filled (zbK (mended h m q need) m g) (zb4 (mended h m q need) m g) (ix (mended h m q need).Mons m mZ).Outer page:=by
     unfold zbK;rw[e2];exact zW (by unfold ln;rw[(S1.ok.mon hm1).gt];exact hg1) _ _
    rw[this];refine (zWj (p:=page) (S1.rt.t m hm1 g hg1) (by rw[hgs];exact W.hp)).trans ?_
    rw[e2]
   have hOu:(ix (zb7 (mended h m q need) m g page).Mons m mZ).Outer=(ix (mended h m q need).Mons m mZ).Outer:=by rw[e2]
   have hsl1:=zmC ((S1.ok.mon hm1).hasO hq8);have hfull:=zQF (s:=ix (ix (ix h.Mons m mZ).Guests g gZ).Live page sZ) (o:=(ix (mended h m q need).Mons m mZ).Outer) hn (by rw[W.pg];have:=zy.1 hq8;omega) (by rw[W.pg,hsl1];exact M.inn) W.en (by
    rw[W.pg,hsl1];rcases hn with rfl|rfl
    .rcases (S1.ok.mon hm1).enough1 hq8 M.inn with e|e<;>rw [e]<;>decide
    .rw [M.ri (by decide)];decide)
   have he:enough (zdk (zbK (zb7 (mended h m q need) m g page) m g) page).Rights need=true:=by
    rw[ha,hgs2,hOu];exact hfull.2
   obtain ⟨o1,o2,o3,o4⟩:=zN3 S2 hm2 hg2 hn W2 io ha he;rw[o2];have hcp:=hfull.1;rw[W.pg,hsl1]at hcp;refine ⟨⟨(M.op.trans F).trans o1,by rw[o4],o3,by rw[o4,hOu];exact hfull.2,by rw[o4,hOu];exact hcp,fun k hk hc=>?_,fun e=>?_,fun e=>?_,fun i hi hc=>?_⟩,rfl⟩
   .rw [o4,e2];exact M.dk k hk hc
   .rw [o4,e2];exact M.dt (by rw[e];decide)
   .rw [o4,e2];exact M.d0 (by rw[e];decide)
   .rw [o4]
    show (ix (up (mended h m q need).Mons m _) i mZ).Dirty=_
    rw[zbl (zy.1 hm).1 (zy.1 hi).1 (Ne.symm hc)];exact M.dm i hi hc
theorem zvb {n:Int}:zfb n=true↔n=1\/n=2:=by
 unfold zfb
 by_cases h:n=1
 .rw [zbh.2 h];simp[h]
 .rw [zbJ.2 h,cond_false,zbh];simp[h]
theorem zlh {h:Host}{m g page need:Int}:zby h m g page need=true↔zbH h m g=true/\(need=1\/need=2)/\zdn (zb4 h m g) page need=true:=by
 unfold zby;rw[zbT,zbT,zvb]
theorem ztY {h:Host}(S:Safe h){m g page need:Int}(io:Bool)(hl:zby h m g page need=true){b:List Entry}(hb:∀e∈b,zcc h e=true) :
 Looked h (lookOf h b m g page need io).1 m g page need (zbQ (zb4 h m g) page need) (lookOf h b m g page need io).2.1/\(lookOf h b m g page need io).2.2=true:=by
 obtain ⟨h1,hn,hw⟩:=zlh.1 hl;obtain ⟨_,hm,hg⟩:=zgR.1 h1;have W:=walked (S.ok.guest hm hg) hw;unfold lookOf;rw[hl,cond_true];rcases hn with rfl|rfl
 .rw [show ieq 1 2=false by decide,cond_false]
  exact zSd S hm hg (.inl rfl) W io hb (fun e=>absurd e (by decide))
 .rw [show ieq 2 2=true by decide,cond_true]
  obtain ⟨k1,k2⟩:=zJS S.ok hm (zbQ (zb4 h m g) page 2);have hm1:hasB m (ln (zbs h m (zbQ (zb4 h m g) page 2)).Mons)=true:=by rw[k1.like.has];exact hm
  have e1:ix (zbs h m (zbQ (zb4 h m g) page 2)).Mons m mZ={ ix h.Mons m mZ with Dirty:=up (ix h.Mons m mZ).Dirty (zbQ (zb4 h m g) page 2) true }:=zW hm _ _;have hD:=(S.ok.mon hm).hasD W.q8;obtain ⟨L,hL⟩:=zSd (k1.safe S) hm1 (g:=g) (page:=page) (need:=2) (q:=zbQ (zb4 h m g) page 2) (by rw[e1];exact hg) (.inr rfl) (by rw[e1];exact W) io (b:=b) (fun e he=>by
   obtain ⟨a1,a2,a3⟩:=ze2.1 (hb e he);rw[ze2];have hi:hasB (zcC e.Tag) (ln (zbs h m (zbQ (zb4 h m g) page 2)).Mons)=true:=by rw[k1.like.has];exact a1
   refine ⟨hi,by rw[k1.like.g _ a1];exact a2,?_⟩
   rw[k1.like.g _ a1];have:(ix (zbs h m (zbQ (zb4 h m g) page 2)).Mons (zcC e.Tag) mZ).Outer=(ix h.Mons (zcC e.Tag) mZ).Outer:=by
    show (ix (up h.Mons m _) _ mZ).Outer=_
    by_cases hc:m=zcC e.Tag
    .rw [<- hc,zW hm]
    .rw [zbl (zy.1 hm).1 (zy.1 a1).1 hc]
   rw[this];exact a3) (fun _=>by rw[e1];exact zW hD _ _)
  refine ⟨⟨k1.trans L.op,L.inn,L.ne,?_,?_,fun k hk hc=>?_,L.dq,fun e=>absurd e (by decide),fun i hi hc=>?_⟩,hL⟩
  .have:=L.en;rw[e1] at this;exact this
  .have:=L.cp;rw[e1] at this;exact this
  .rw [L.dk k hk hc,e1];exact zbl (zy.1 W.q8).1 (zy.1 hk).1 (Ne.symm hc) _ _
  .rw [L.dm i (by rw[k1.like.has];exact hi) hc]
   show (ix (up h.Mons m _) i mZ).Dirty=_
   rw[zbl (zy.1 hm).1 (zy.1 hi).1 (Ne.symm hc)]
theorem zNc {x y:Int}(h1 : -9223372036854775808<=x+y)(h2:x+y<=9223372036854775807):zG .i64 x y=x+y:=by
 unfold zG;simp only[IntKind.wrap,IntKind.signed,IntKind.bits];simp;omega
theorem zIl {n:Nat}{P:Int->Prop}(h:∀i:Fin n,P ((i.val:Nat):Int)){x:Int}(h0:0<=x)(h1:x<n):P x:=by
 have:=h ⟨x.toNat,by omega⟩
 simpa [show ((x.toNat:Nat):Int)=x by omega] using this
theorem zSD {p:Int}:zcN p=true↔0<=p/\p<=255:=by unfold zcN;exact zcq
theorem zOi {p:Int}(h:zcN p=true):zcN (zi0 p)=true:=by
 have h':=zSD.1 h;exact zIl (n:=256) (P:=fun x=>zcN (zi0 x)=true) (by decide +kernel) h'.1 (by omega)
theorem zOh {p:Int}(h:zcN p=true)(n:Int):zcN (zrm p n)=true:=by
 unfold zrm zfI;rw[h,cond_true];cases hn:win n 0 7 with
 | false=>exact h
 | true =>
  rw[cond_true];have h':=zSD.1 h;have hn':=zcq.1 hn;exact zIl (n:=256) (P:=fun x=>∀k,0<=k->k<(8:Int)->zcN (wor .i64 x (zn2 .i64 1 k))=true) (fun i k h0 h1=>zIl (n:=8) (P:=fun k=>zcN (wor .i64 ((i.val:Nat):Int) (zn2 .i64 1 k))=true) (by revert i;decide +kernel) h0 h1) h'.1 (by omega) n hn'.1 (by omega)
structure GKeep (x y:Guest):Prop where
 ok:GOk y
 live:y.Live=x.Live
theorem zWW {x:Guest}(X:GOk x){c:Int}(hc:win c 0 12=true):GOk { x with Pc:=c }:=⟨X.prog,X.a,hc,X.w,X.l,X.ctl,X.pend,X.ex,X.seen⟩
theorem zWV {x:Guest}(X:GOk x){c:Int}(hc:win c 0 99=true):GOk { x with A:=c }:=⟨X.prog,hc,X.pc,X.w,X.l,X.ctl,X.pend,X.ex,X.seen⟩
theorem zii {x:Guest}(X:GOk x):GKeep x (zbW x):=by
 unfold zbW;have hp:=zcq.1 X.pc;cases h:ige x.Pc 12 with
 | true=>exact ⟨zWW X (by decide),rfl⟩
 | false =>
  have:¬ x.Pc≥12:=jT h;refine ⟨zWW X ?_,rfl⟩;rw[zNc (by omega) (by omega)]
  exact zcq.2 (by omega)
theorem zQ2 {x:Guest}(X:GOk x)(n:Int):GKeep x (saw x n):=by
 unfold saw;cases h:ilt (ln x.Seen) 40 with
 | false=>exact ⟨X,rfl⟩
 | true =>
  have:ln x.Seen<40:=qE h;refine ⟨⟨X.prog,X.a,X.pc,X.w,X.l,X.ctl,X.pend,X.ex,qI ?_⟩,rfl⟩;unfold ln ap at *;simp;omega
theorem zij {x:Guest}(X:GOk x){e:GExit}(he:zgC e=true):GKeep x (stopped x e):=⟨⟨X.prog,X.a,X.pc,X.w,X.l,X.ctl,X.pend,he,X.seen⟩,rfl⟩
theorem zVs {x:Guest}(X:GOk x){p:Int}(hp:zcN p=true):GKeep x { x with Pending:=p }:=⟨⟨X.prog,X.a,X.pc,X.w,X.l,X.ctl,hp,X.ex,X.seen⟩,rfl⟩
theorem zVp {x:Guest}(X:GOk x)(b:Bool):GKeep x { x with Halted:=b }:=⟨⟨X.prog,X.a,X.pc,X.w,X.l,X.ctl,X.pend,X.ex,X.seen⟩,rfl⟩
theorem zVq {x:Guest}(X:GOk x):GKeep x (held x):=⟨(zii (zVp X true).ok).ok,(zii (zVp X true).ok).live⟩
theorem zY9 {x:Guest}(X:GOk x){v:Int}(hv:win v 0 99=true):GKeep x (loaded x v):=by
 have h1:=zQ2 (zWV X hv) v;have h2:=zii h1.ok;exact ⟨h2.ok,h2.live.trans h1.live⟩
theorem zKX {x:Guest}(X:GOk x):GKeep x (interrupted x):=by
 unfold interrupted;cases zhD x with
 | false=>exact ⟨X,rfl⟩
 | true =>
  have h1:=zVs X (zOi X.pend);rw[cond_true];exact ⟨(zQ2 h1.ok _).ok,(zQ2 h1.ok _).live⟩
theorem zGX {p:List Ins}(h:zcT p=true)(i:Int):zdC (zce p i)=true:=by
 unfold zce;cases hi:hasB i (ln p) with
 | false=>rfl
 | true =>
  unfold zcT at h;rw[zbT,qL]at h;exact h.1 _ (zkr hi _)
theorem z6D {i:Ins}(h:zdC i=true)(h3:i.Op=3\/i.Op=4):0<=i.X/\i.X<=15:=by
 unfold zdC at h;rcases h3 with e|e<;>rw [e]at h<;>exact zcq.1 h
theorem zZg {i:Ins}(h:zdC i=true)(h3:i.Op=5\/i.Op=6):0<=i.X/\i.X<=99:=by
 unfold zdC at h;rcases h3 with e|e<;>rw [e]at h<;>exact zcq.1 h
theorem z7k {i:Ins}(h:zdC i=true)(h3:i.Op=8):0<=i.X/\i.X<=11:=by
 unfold zdC at h;rw[h3]at h;exact zcq.1 h
theorem z7j {i:Ins}(h:zdC i=true)(h3:i.Op=1):0<=i.X/\i.X<=99:=by
 unfold zdC at h;rw[h3]at h;exact zcq.1 h
theorem zWX {x:Guest}(X:GOk x):GKeep x (plainly x):=by
 have M:=zii X;have hi:=zGX X.prog x.Pc;unfold plainly;cases ine (zQ x) 2 with
 | true=>exact ⟨X,rfl⟩
 | false =>
  rw[cond_false];cases win x.A 0 99 with
  | false=>exact M
  | true =>
   rw[cond_true];cases win (zce x.Prog x.Pc).X 0 99 with
   | false=>exact M
   | true =>
    rw[cond_true]
    by_cases e1:(zce x.Prog x.Pc).Op=1
    .rw [zbh.2 e1,cond_true];exact ⟨zWV M.ok (zcq.2 (z7j hi e1)),M.live⟩
    .rw [zbJ.2 e1,cond_false]
     by_cases e2:(zce x.Prog x.Pc).Op=2
     .rw [zbh.2 e2,cond_true];refine ⟨zWV M.ok ?_,M.live⟩;have h1:=zcq.1 X.a;have hx:0<=(zce x.Prog x.Pc).X/\(zce x.Prog x.Pc).X<=99:=by
       unfold zdC at hi;rw[e2]at hi;exact zcq.1 hi
      rw[zcq];unfold zfM;rw[zNc (by omega) (by omega)]
      have h5:=Int.tmod_nonneg (a:=x.A+(zce x.Prog x.Pc).X) 100 (by omega)
      have h6:=Int.tmod_lt_of_pos (x.A+(zce x.Prog x.Pc).X) (show (0:Int)<100 by omega)
      omega
     .rw [zbJ.2 e2,cond_false]
      by_cases e8:(zce x.Prog x.Pc).Op=8
      .rw [zbh.2 e8,cond_true];cases ieq x.A 0 with
       | true =>
        have:=z7k hi e8;exact ⟨zWW M.ok (zcq.2 (by omega)),M.live⟩
       | false=>exact M
      .rw [zbJ.2 e8];exact M
theorem zrk {c:List Int}:zb5 c=true↔(∀x∈c,win x 0 99=true)/\ln c=4:=by
 unfold zb5;rw[zbT,qL,zbh]
theorem zlm (h:Host)(m:Int):∀(n i:Nat),(zco h m n i).length=n
 | 0,_=>rfl
 | n+1,i=>by rw[zco,qV,zlm h m n]
theorem zJZ (h:Host)(m:Int):∀(n i k:Nat) (hk:k<(zco h m n i).length),(zco h m n i)[k]=zcM h m ((i+k:Nat):Int)
 | 0,i,k,hk=>by simp[zco]at hk
 | n+1,i,k,hk=>by
  cases k with
  | zero=>rfl
  | succ k =>
   have:=zJZ h m n (i+1) k (by simpa [zco] using hk)
   simp only[zco,List.getElem_cons_succ];rw[this]
   congr 1
   omega
theorem zot {h:Host}{m q:Int}(hq:hasB q 8=true)(d:List Int):ix (zco h m 8 0) q d=zcM h m q:=by
 have hq':=zy.1 hq;have hk:q.toNat<(zco h m 8 0).length:=by rw[zlm];omega
 have:=zjF hk d;rw[show ((q.toNat:Nat):Int)=q by omega] at this
 rw[this,zJZ]
 congr 1
 omega
theorem zsB (h:Host)(m:Int):ln (zco h m 8 0)=8:=by unfold ln;rw[zlm];rfl
theorem zx1 {h:Host}(H:HOk h){m p:Int}(hm:hasB m (ln h.Mons)=true)(hp:hasB p 8=true):zb5 (zcM h m p)=true:=by
 have X:=H.mon hm;rw[<- zjN H hm hp]
 by_cases e:(ix (ix h.Mons m mZ).Outer p sZ).Page = -1
 .rw [zbh.2 e];exact ((zog (X.slot hp)).1 (X.fit p hp)).1 e
 .rw [zbJ.2 e];exact zOf H.pgs _
theorem zw3 {h:Host}(H:HOk h){m:Int}(hm:hasB m (ln h.Mons)=true):zbU (zB h m)=true:=by
 have X:=H.mon hm;unfold zB;rw[hm,cond_true];unfold zbU zgM;rw[zbT,qL];refine ⟨X.gs,?_⟩;simp only[qD,zbT,qL,zbh,zcq];refine ⟨⟨fun c hc=>?_,zsB h m⟩,⟨?_,?_⟩,?_,X.pend⟩
 .obtain ⟨i,hi,rfl⟩:=zJJ hc [];rw[zsB]at hi;rw[zot hi];exact zx1 H hm hi
 .unfold ln;have:=X.g1;omega
 .unfold ln;have:=X.g2;omega
 .unfold ile ln;have:=X.outs;exact qI (by omega)
structure SimT (h r:Host) (m:Int) (f:Bare->Bare):Prop where
 safe:Safe r
 seen:∀i,zB r i=bif ieq i m then f (zB h i) else zB h i
 len:r.Mons.length=h.Mons.length
theorem SimT.trans {a b c:Host}{m:Int}{f g:Bare->Bare}(x:SimT a b m f)(y:SimT b c m g):SimT a c m (fun t=>g (f t)):=by
 refine ⟨y.safe,fun i=>?_,y.len.trans x.len⟩;rw[y.seen i,x.seen i];cases ieq i m<;>rfl
theorem Op.sim {h r:Host}(k:Op h r)(S:Safe h)(m:Int):SimT h r m id:=⟨k.safe S,fun i=>by rw[k.like.seen i];cases ieq i m<;>rfl,k.like.len⟩
theorem SimT.congr {h r:Host}{m:Int}{f g:Bare->Bare}(x:SimT h r m f)(e:f (zB h m)=g (zB h m)):SimT h r m g:=by
 refine ⟨x.safe,fun i=>?_,x.len⟩;rw[x.seen i]
 by_cases hi:i=m
 .subst hi;rw[zbh.2 rfl,cond_true,cond_true,e]
 .rw [zbJ.2 hi];rfl
theorem SimT.has {h r:Host}{m:Int}{f:Bare->Bare}(x:SimT h r m f)(i:Int):hasB i (ln r.Mons)=hasB i (ln h.Mons):=by unfold ln;rw[x.len]
theorem SimT.refl {h:Host}(S:Safe h)(m:Int):SimT h h m id:=⟨S,fun i=>by cases ieq i m<;>rfl,rfl⟩
theorem zuS {h:Host}(S:Safe h){m q host:Int}(hm:hasB m (ln h.Mons)=true)(hq:hasB q 8=true)(hs:(ix (ix h.Mons m mZ).Outer q sZ).Page=host)(hne:host≠-1)(c v:Int) :
 SimT h { h with Memory:=zbz h.Memory host c v } m (fun b=>{ b with Memory:=zbz b.Memory q c v })/\cellAt h.Memory host c=cellAt (zB h m).Memory q c:=by
 have H:=S.ok;have X:=H.mon hm;have hsl:=X.slot hq;have hM:=z7J H hsl (by rw[hs];exact hne)
 rw[hs]at hM;have hpg:ix h.Memory host []=zcM h m q:=by
  have:=zjN H hm hq;rw[hs,zbJ.2 hne,cond_false,zjM hM] at this;exact this
 have hlen:ln (zcM h m q)=4:=(zrk.1 (zx1 H hm hq)).2;have hmem:(zB h m).Memory=zco h m 8 0:=by unfold zB;rw[hm];rfl
 have h1:zg9 h.Memory host c=hasB c 4:=by unfold zg9;rw[hM,cond_true,hpg,hlen]
 have h2:zg9 (zco h m 8 0) q c=hasB c 4:=by unfold zg9;rw[zsB,hq,cond_true,zot hq,hlen]
 have hcell:cellAt h.Memory host c=cellAt (zB h m).Memory q c:=by
  rw[hmem];unfold cellAt;rw[h1,h2,hpg,zot hq]
 refine ⟨?_,hcell⟩;cases hc:hasB c 4 with
 | false =>
  have e1:zbz h.Memory host c v=h.Memory:=by unfold zbz;rw[h1,hc];rfl
  rw[e1];refine (SimT.refl S m).congr ?_
  show zB h m={ zB h m with Memory:=zbz (zB h m).Memory q c v }
  rw[hmem];have e2:zbz (zco h m 8 0) q c v=zco h m 8 0:=by unfold zbz;rw[h2,hc];rfl
  rw[e2,<- hmem]
 | true =>
  cases hv:win v 0 99 with
  | false =>
   have e1:zbz h.Memory host c v=h.Memory:=by unfold zbz;rw[h1,hc,hv];rfl
   rw[e1];refine (SimT.refl S m).congr ?_
   show zB h m={ zB h m with Memory:=zbz (zB h m).Memory q c v }
   rw[hmem];have e2:zbz (zco h m 8 0) q c v=zco h m 8 0:=by unfold zbz;rw[h2,hc,hv];rfl
   rw[e2,<- hmem]
  | true =>
   have e1:zbz h.Memory host c v=up h.Memory host (up (zcM h m q) c v):=by unfold zbz;rw[h1,hc,hv,hpg];rfl
   have e2:zbz (zco h m 8 0) q c v=up (zco h m 8 0) q (up (zcM h m q) c v):=by unfold zbz;rw[h2,hc,hv,zot hq];rfl
   have hnew:zb5 (up (zcM h m q) c v)=true:=by
    have:=zrk.1 (zx1 H hm hq);rw[zrk,zdr];refine ⟨fun x hx=>?_,this.2⟩;rcases qZ hx with h|h
    .exact this.1 x h
    .rw [h];exact hv
   have h0:=(zy.1 hM).1;have hH:HOk { h with Memory:=zbz h.Memory host c v }:=by
    rw[e1];refine ⟨by show (up _ _ _).length=12;rw[zbB];exact H.m12,fun x hx=>?_,H.n1,H.n3,H.b1,H.b2,H.mons,H.uq⟩
    rcases qZ hx with h|h
    .exact H.pgs x h
    .rw [h];exact hnew
   refine ⟨⟨hH,⟨S.rt.t,S.rt.e1,S.rt.e2⟩⟩,fun i=>?_,rfl⟩;have hne':∀i k,hasB i (ln h.Mons)=true->hasB k 8=true->¬ (i=m/\k=q)->zcM { h with Memory:=zbz h.Memory host c v } i k=zcM h i k:=by
    intro i k hi hk hnot;rw[<- zjN hH (m:=i) (p:=k) hi hk,<- zjN H hi hk]
    show (cond (ieq (ix (ix h.Mons i mZ).Outer k sZ).Page (-1)) _ (zb8 (zbz h.Memory host c v) _))=_
    by_cases e:(ix (ix h.Mons i mZ).Outer k sZ).Page = -1
    .rw [zbh.2 e];rfl
    .rw [zbJ.2 e,cond_false,cond_false,e1];exact zBf h0 (fun e=>hnot (H.uniq hi hk hm hq e hs h0))
   have heq':zcM { h with Memory:=zbz h.Memory host c v } m q=up (zcM h m q) c v:=by
    rw[<- zjN hH (m:=m) (p:=q) hm hq]
    show (cond (ieq (ix (ix h.Mons m mZ).Outer q sZ).Page (-1)) _ (zb8 (zbz h.Memory host c v) (ix (ix h.Mons m mZ).Outer q sZ).Page))=_
    rw[hs,zbJ.2 hne,cond_false,e1];exact zBe hM
   by_cases hi:i=m
   .subst hi;rw[zbh.2 rfl,cond_true];unfold zB
    show (cond (hasB i (ln h.Mons)) _ _)=_
    rw[hm,cond_true,cond_true]
    show Bare.mk (zco { h with Memory:=zbz h.Memory host c v } i 8 0) _ _ _=Bare.mk (zbz (zco h i 8 0) q c v) _ _ _
    congr 1
    rw[e2];refine zMx [] (by rw[zbB,zlm,zlm]) fun k hk=>?_
    rw[zsB]at hk;rw[zot hk]
    by_cases e:q=k
    .subst e;rw[zW (by rw[zsB];exact hq),heq']
    .rw [zbl (zy.1 hq).1 (zy.1 hk).1 e,zot hk];exact hne' i k hm hk (fun h=>e h.2.symm)
   .rw [zbJ.2 hi,cond_false];unfold zB
    show (cond (hasB i (ln h.Mons)) _ _)=_
    cases hi2:hasB i (ln h.Mons) with
    | false=>rfl
    | true =>
     rw[cond_true,cond_true]
     show Bare.mk (zco { h with Memory:=zbz h.Memory host c v } i 8 0) _ _ _=_
     rw[zpk 8 0 (fun j h1 h2=>hne' i (j:Int) hi2 (zy.2 (by omega)) (fun h=>hi h.1))]
theorem zoV {h:Host}(S:Safe h){m g:Int}(hm:hasB m (ln h.Mons)=true)(hg:hasB g (ln (ix h.Mons m mZ).Guests)=true){y:Guest}(k:GKeep (gOf h m g) y):SimT h (zjO h m g y) m (fun b=>zd3 b g y):=by
 have X:=S.ok.mon hm;have kp:KeepP (ix h.Mons m mZ) { ix h.Mons m mZ with Guests:=up (ix h.Mons m mZ).Guests g y }:=⟨rfl,rfl⟩;refine ⟨zuR S hm kp (zjI X kp (zbB _ _ _) rfl rfl X.outs X.pend X.tr X.own fun z hz=>?_) (zbB _ _ _) (fun j hj=>?_) rfl,fun i=>?_,zbB _ _ _⟩
 .rcases qZ hz with h|h
  .exact X.gs z h
  .rw [h];exact zrK.2 k.ok
 .show (ix (up (ix h.Mons m mZ).Guests g y) j gZ).Live=_
  by_cases e:g=j
  .subst e;rw[zW hg];exact k.live
  .rw [zbl (zy.1 hg).1 (zy.1 hj).1 e]
 .refine (ztc (h:=h) (r:=zjO h m g y) hm rfl rfl kp i).trans ?_
  by_cases e:i=m
  .subst e;rw[zbh.2 rfl,cond_true,cond_true];unfold zd3 zB;rw[hm];rfl
  .rw [zbJ.2 e];rfl
theorem zST {h:Host}(S:Safe h){m:Int}(hm:hasB m (ln h.Mons)=true){y:Mon}(kp:KeepP (ix h.Mons m mZ) y)(hy:MOk y)(hg:y.Guests=(ix h.Mons m mZ).Guests)(ht:y.Tables=(ix h.Mons m mZ).Tables) :
 SimT h { h with Mons:=up h.Mons m y } m (fun b=>{ b with Outs:=y.Outs,Pending:=y.Pending }):=by
 refine ⟨zuR S hm kp hy (by rw[hg]) (fun j _=>by rw[hg]) ht,fun i=>?_,zbB _ _ _⟩
 refine (ztc (h:=h) (r:={ h with Mons:=up h.Mons m y }) hm rfl rfl kp i).trans ?_
 by_cases e:i=m
 .subst e;rw[zbh.2 rfl,cond_true,cond_true];unfold zB;rw[hm,hg];rfl
 .rw [zbJ.2 e];rfl
theorem zeG {h:Host}{m:Int}(hm:hasB m (ln h.Mons)=true):zB h m=⟨zco h m 8 0,(ix h.Mons m mZ).Guests,(ix h.Mons m mZ).Outs,(ix h.Mons m mZ).Pending⟩:=by
 unfold zB;rw[hm];rfl
theorem z0a {h:Host}(S:Safe h){m:Int}(hm:hasB m (ln h.Mons)=true):SimT h (owned h m) m id:=by
 unfold owned;cases hc:ilt (ix h.Mons m mZ).Own 1000000000 with
 | false=>exact SimT.refl S m
 | true =>
  rw[cond_true];have X:=S.ok.mon hm;have ho:=zcq.1 X.own;have hlt:(ix h.Mons m mZ).Own<1000000000:=qE hc;have kp:KeepP (ix h.Mons m mZ) { ix h.Mons m mZ with Own:=zG .i64 (ix h.Mons m mZ).Own 1 }:=⟨rfl,rfl⟩;refine (zST S hm kp (zjI X kp rfl rfl rfl X.outs X.pend X.tr ?_ X.gs) rfl rfl).congr ?_
  .show win (zG .i64 (ix h.Mons m mZ).Own 1) 0 1000000000=true
   rw[zNc (by omega) (by omega),zcq];omega
  .rw [zeG hm];rfl
theorem zXT {h:Host}(S:Safe h){m:Int}(hm:hasB m (ln h.Mons)=true)(n:Int):SimT h (znf h m n) m (fun b=>znj b n):=by
 unfold znf;have X:=S.ok.mon hm;cases hc:ilt (ln (ix h.Mons m mZ).Outs) 40 with
 | false =>
  refine (SimT.refl S m).congr ?_;rw[zeG hm];unfold znj;rw[hc];rfl
 | true =>
  rw[cond_true];have hlt:ln (ix h.Mons m mZ).Outs<40:=qE hc;have kp:KeepP (ix h.Mons m mZ) { ix h.Mons m mZ with Outs:=ap (ix h.Mons m mZ).Outs [n] }:=⟨rfl,rfl⟩;refine (zST S hm kp (zjI X kp rfl rfl rfl ?_ X.pend X.tr X.own X.gs) rfl rfl).congr ?_
  .show (ap (ix h.Mons m mZ).Outs [n]).length<=40
   unfold ln ap at *;simp;omega
  .rw [zeG hm];unfold znj;rw[hc];rfl
theorem zsd {h:Host}{m g:Int}(hm:hasB m (ln h.Mons)=true)(hg:hasB g (ln (ix h.Mons m mZ).Guests)=true):gAt (zB h m) g=gOf h m g:=by
 rw[zeG hm];unfold gAt
 show (cond (hasB g (ln (ix h.Mons m mZ).Guests)) _ _)=_
 rw[hg];rfl
theorem zNd {x:Guest}(h:zQ x=3\/zQ x=4\/zQ x=5\/zQ x=6):(zce x.Prog x.Pc).Op=zQ x:=by
 unfold zQ at h ⊢;cases hc:canRun x with
 | false=>simp[hc]at h
 | true =>
  simp only[hc,cond_true]at h ⊢;cases ht:zhD x with
  | true=>simp[ht]at h
  | false =>
   simp only[ht,cond_false]at h ⊢;unfold zwj at h ⊢
   by_cases e3:(zce x.Prog x.Pc).Op=3
   .rw [e3];rfl
   .rw [zbJ.2 e3,cond_false]at h ⊢
    by_cases e4:(zce x.Prog x.Pc).Op=4
    .rw [e4];rfl
    .rw [zbJ.2 e4,cond_false]at h ⊢
     by_cases e5:(zce x.Prog x.Pc).Op=5
     .rw [e5];rfl
     .rw [zbJ.2 e5,cond_false]at h ⊢
      by_cases e6:(zce x.Prog x.Pc).Op=6
      .rw [e6];rfl
      .rw [zbJ.2 e6,cond_false]at h ⊢;cases h7:ieq (zce x.Prog x.Pc).Op 7<;>simp [h7]at h
theorem z4l {x:Guest}(X:GOk x){w:Int}(hw:zQ x=w)(h:w=3\/w=4):0<=address x/\address x<=15:=by
 have e:address x=(zce x.Prog x.Pc).X:=by
  unfold address;rcases h with e|e
  .rw [hw,e];rfl
  .rw [hw,e];rfl
 rw[e];exact z6D (zGX X.prog _) (by rw[zNd (by omega),hw];exact h)
theorem z4m {a:Int}(h0:0<=a)(h1:a<=15):win (zbb a) 0 3=true/\hasB (zcU a) 4=true :=
 zIl (n:=16) (P:=fun a=>win (zbb a) 0 3=true/\hasB (zcU a) 4=true) (by decide) h0 (by omega)
theorem zWM {p:Int}(h:win p 0 3=true)(w:Bool):zgC (zpV p w)=true:=by
 unfold zgC zpV;simp[ieq,h]
theorem zY0 {n:Int}(h:win n 0 99=true):zgC (zxf n)=true:=by
 unfold zgC zxf;simp[ieq,h]
theorem z1r {n:Int}(h:win n 0 99=true):zgC (zwk n)=true:=by
 unfold zgC zwk;simp[ieq,h]
theorem z1x {x:Guest}(X:GOk x)(t:Int){w:Int}(hw:zQ x=w):GKeep x (ziD x t w):=by
 have hi:=zGX X.prog x.Pc;unfold ziD
 by_cases e6:w=6
 .rw [zbh.2 e6];exact zij X (zY0 (zcq.2 (zZg hi (by rw[zNd (by omega),hw];omega))))
 .rw [zbJ.2 e6,cond_false]
  by_cases e5:w=5
  .rw [zbh.2 e5];cases zgo t 1 with
   | true=>exact zij X (z1r (zcq.2 (zZg hi (by rw[zNd (by omega),hw];omega))))
   | false=>rw[e5];exact zii X
  .rw [zbJ.2 e5];rw[Bool.false_and,cond_false];cases hc:(ieq w 7&&zgo t 2) with
   | true=>exact zij X rfl
   | false =>
    rw[cond_false];cases ieq w 7
    .exact zii X
    .exact zVq X
theorem zVE {α:Type}(g:Int):hasB g (ln ([]:List α))=false:=by
 cases h:hasB g (ln ([]:List α)) with
 | false=>rfl
 | true=>have:=zy.1 h;simp[ln] at this;omega
theorem z0N {m:List (List Int)}(h:∀c∈m,zb5 c=true)(p c:Int):win (cellAt m p c) 0 99=true:=by
 unfold cellAt zg9;cases hp:hasB p (ln m) with
 | false=>rfl
 | true =>
  rw[cond_true];cases hc:hasB c (ln (ix m p [])) with
  | false=>rfl
  | true =>
   rw[cond_true];exact (zrk.1 (h _ (zkr hp []))).1 _ (zkr hc 0)
theorem HOk.seenG {h:Host}(H:HOk h){m g:Int}(hm:hasB m (ln h.Mons)=true)(hg:hasB g (ln (ix h.Mons m mZ).Guests)=true):GOk (gOf h m g):=H.guest hm hg
theorem zS7 {h:Host}(S:Safe h){m g:Int}(hm:hasB m (ln h.Mons)=true)(hg:hasB g (ln (ix h.Mons m mZ).Guests)=true)(w:Bool)(hw:zQ (gOf h m g)=bif w then 4 else 3) :
 SimT h (ziC (zlJ h m g (gOf h m g) w) m g (gOf h m g) w) m (fun b=>zmD b g (gOf h m g) w):=by
 have X:=S.ok.seenG hm hg;have ha:=z4l X hw (by cases w<;>simp)
 have hap:=z4m ha.1 ha.2;have hn:zbX w=1\/zbX w=2:=by cases w<;>simp [zbX]
 unfold ziC zlJ;cases hl:zby h m g (zbb (address (gOf h m g))) (zbX w) with
 | false =>
  have e:lookOf h h.Buffer m g (zbb (address (gOf h m g))) (zbX w) false=(h,-1,false):=by unfold lookOf;rw[hl];rfl
  have hw2:zdn (gOf h m g).Live (zbb (address (gOf h m g))) (zbX w)=false:=by
   cases hc:zdn (gOf h m g).Live (zbb (address (gOf h m g))) (zbX w) with
   | false=>rfl
   | true=>exact Bool.noConfusion (hl.symm.trans (zlh.2 ⟨zgR.2 ⟨S.ok,hm,hg⟩,hn,hc⟩))
  rw[e];refine (zoV S hm hg (zij X (zWM hap.1 w))).congr ?_;unfold zmD;rw[hw2];rfl
 | true =>
  obtain ⟨L,hL⟩:=ztY S false hl S.rt.e1;obtain ⟨_,_,hwk⟩:=zlh.1 hl;have hwk':zdn (gOf h m g).Live (zbb (address (gOf h m g))) (zbX w)=true:=hwk;have W:=walked X hwk;rw[hL,cond_true];have S1:=L.op.safe S;have hm1:hasB m (ln (lookOf h h.Buffer m g (zbb (address (gOf h m g))) (zbX w) false).1.Mons)=true:=by rw[L.op.like.has];exact hm
  have hgs:=L.op.like.g m hm;have q8:hasB (zbQ (zb4 h m g) (zbb (address (gOf h m g))) (zbX w)) 8=true:=W.q8;obtain ⟨k1,k2⟩:=zuS S1 hm1 q8 L.inn L.ne (zcU (address (gOf h m g))) (gOf h m g).A;rw[L.op.like.seen m] at k2;cases w with
  | true =>
   rw[cond_true];have k0:=L.op.sim S m;have hmm:hasB m (ln ({ (lookOf h h.Buffer m g (zbb (address (gOf h m g))) (zbX true) false).1 with Memory:=zbz (lookOf h h.Buffer m g (zbb (address (gOf h m g))) (zbX true) false).1.Memory (lookOf h h.Buffer m g (zbb (address (gOf h m g))) (zbX true) false).2.1 (zcU (address (gOf h m g))) (gOf h m g).A }:Host).Mons)=true:=hm1;have hgg:hasB g (ln (ix ({ (lookOf h h.Buffer m g (zbb (address (gOf h m g))) (zbX true) false).1 with Memory:=zbz (lookOf h h.Buffer m g (zbb (address (gOf h m g))) (zbX true) false).1.Memory (lookOf h h.Buffer m g (zbb (address (gOf h m g))) (zbX true) false).2.1 (zcU (address (gOf h m g))) (gOf h m g).A }:Host).Mons m mZ).Guests)=true:=by
    show hasB g (ln (ix (lookOf h h.Buffer m g (zbb (address (gOf h m g))) (zbX true) false).1.Mons m mZ).Guests)=true
    rw[hgs];exact hg
   have kk:GKeep (gOf { (lookOf h h.Buffer m g (zbb (address (gOf h m g))) (zbX true) false).1 with Memory:=zbz (lookOf h h.Buffer m g (zbb (address (gOf h m g))) (zbX true) false).1.Memory (lookOf h h.Buffer m g (zbb (address (gOf h m g))) (zbX true) false).2.1 (zcU (address (gOf h m g))) (gOf h m g).A } m g) (zbW (gOf h m g)):=by
    have:gOf { (lookOf h h.Buffer m g (zbb (address (gOf h m g))) (zbX true) false).1 with Memory:=zbz (lookOf h h.Buffer m g (zbb (address (gOf h m g))) (zbX true) false).1.Memory (lookOf h h.Buffer m g (zbb (address (gOf h m g))) (zbX true) false).2.1 (zcU (address (gOf h m g))) (gOf h m g).A } m g=gOf h m g:=by
     show ix (ix (lookOf h h.Buffer m g (zbb (address (gOf h m g))) (zbX true) false).1.Mons m mZ).Guests g gZ=_
     rw[hgs];rfl
    rw[this];exact zii X
   refine ((k0.trans k1).trans (zoV k1.safe hmm hgg kk)).congr ?_;unfold zmD;rw[hwk'];rfl
  | false =>
   rw[cond_false];have k0:=L.op.sim S m;have hgg:hasB g (ln (ix (lookOf h h.Buffer m g (zbb (address (gOf h m g))) (zbX false) false).1.Mons m mZ).Guests)=true:=by rw[hgs];exact hg
   have kk:GKeep (gOf (lookOf h h.Buffer m g (zbb (address (gOf h m g))) (zbX false) false).1 m g) (loaded (gOf h m g) (cellAt (lookOf h h.Buffer m g (zbb (address (gOf h m g))) (zbX false) false).1.Memory (lookOf h h.Buffer m g (zbb (address (gOf h m g))) (zbX false) false).2.1 (zcU (address (gOf h m g))))):=by
    have:gOf (lookOf h h.Buffer m g (zbb (address (gOf h m g))) (zbX false) false).1 m g=gOf h m g:=by
     show ix (ix (lookOf h h.Buffer m g (zbb (address (gOf h m g))) (zbX false) false).1.Mons m mZ).Guests g gZ=_
     rw[hgs];rfl
    rw[this];exact zY9 X (z0N S1.ok.pgs _ _)
   refine (k0.trans (zoV S1 hm1 hgg kk)).congr ?_;unfold zmD;rw[hwk',k2];rfl
theorem z1w {h r:Host}{m g:Int}(e:(ix r.Mons m mZ).Guests=(ix h.Mons m mZ).Guests):gOf r m g=gOf h m g:=by unfold gOf;rw[e]
theorem z5z (h:Host)(m:Int)(hm:hasB m (ln h.Mons)=true):(ix (owned h m).Mons m mZ).Guests=(ix h.Mons m mZ).Guests:=by
 unfold owned;cases ilt (ix h.Mons m mZ).Own 1000000000 with
 | false=>rfl
 | true=>show (ix (up h.Mons m _) m mZ).Guests=_;rw[zW hm]
theorem z1P (h:Host)(m n:Int)(hm:hasB m (ln h.Mons)=true):(ix (znf h m n).Mons m mZ).Guests=(ix h.Mons m mZ).Guests:=by
 unfold znf;cases ilt (ln (ix h.Mons m mZ).Outs) 40 with
 | false=>rfl
 | true=>show (ix (up h.Mons m _) m mZ).Guests=_;rw[zW hm]
theorem z0c {h:Host}(S:Safe h){m:Int}(hm:hasB m (ln h.Mons)=true)(x:Guest)(w:Int):SimT h (zfS h m x w) m id/\(ix (zfS h m x w).Mons m mZ).Guests=(ix h.Mons m mZ).Guests:=by
 unfold zfS;cases (cond (ine w 6) (ieq (zx0 (ix h.Mons m mZ).Traps x.Ctl.Traps (zw7 w)) 2) false) with
 | false=>exact ⟨SimT.refl S m,rfl⟩
 | true=>exact ⟨z0a S hm,z5z h m hm⟩
theorem z0b {h:Host}(S:Safe h){m:Int}(hm:hasB m (ln h.Mons)=true)(x:Guest)(w:Int):SimT h (zfR h m x w) m (fun b=>bif (cond (zjl x.Ctl.Traps w) (ieq w 5) false) then znj b (zce x.Prog x.Pc).X else b)/\(ix (zfR h m x w).Mons m mZ).Guests=(ix h.Mons m mZ).Guests:=by
 unfold zfR;cases (cond (zjl x.Ctl.Traps w) (ieq w 5) false) with
 | false=>exact ⟨SimT.refl S m,rfl⟩
 | true=>exact ⟨zXT S hm _,z1P h m _ hm⟩
theorem zCg {h:Host}(S:Safe h){m g:Int}(hm:hasB m (ln h.Mons)=true)(hg:hasB g (ln (ix h.Mons m mZ).Guests)=true){w:Int}(hw:zQ (gOf h m g)=w) :
 SimT h (zuW h m g (gOf h m g) w) m (fun b=>zCW b g (gOf h m g) w):=by
 have X:=S.ok.seenG hm hg;obtain ⟨k0,e0⟩:=z0c S hm (gOf h m g) w;have hm0:hasB m (ln (zfS h m (gOf h m g) w).Mons)=true:=by rw[k0.has];exact hm
 obtain ⟨k1,e1⟩:=z0b k0.safe hm0 (gOf h m g) w;have hm1:hasB m (ln (zfR (zfS h m (gOf h m g) w) m (gOf h m g) w).Mons)=true:=by rw[k1.has];exact hm0
 have hg1:hasB g (ln (ix (zfR (zfS h m (gOf h m g) w) m (gOf h m g) w).Mons m mZ).Guests)=true:=by rw[e1,e0];exact hg
 have kk:GKeep (gOf (zfR (zfS h m (gOf h m g) w) m (gOf h m g) w) m g) (ziD (gOf h m g) (gOf h m g).Ctl.Traps w):=by
  rw[z1w (e1.trans e0)];exact z1x X _ hw
 exact ((k0.trans k1).trans (zoV k1.safe hm1 hg1 kk)).congr rfl
theorem zX6 (x:Guest):zQ x=0\/zQ x=1\/zQ x=2\/zQ x=3\/zQ x=4\/zQ x=5\/zQ x=6\/zQ x=7:=by
 unfold zQ zwj;cases canRun x<;>cases zhD x<;>cases ieq (zce x.Prog x.Pc).Op 3<;>cases ieq (zce x.Prog x.Pc).Op 4<;>cases ieq (zce x.Prog x.Pc).Op 5<;>cases ieq (zce x.Prog x.Pc).Op 6<;>cases ieq (zce x.Prog x.Pc).Op 7<;>simp
theorem zQC {h:Host}(H:HOk h)(m g:Int):zkg (zB h m) g=bif zbH h m g then !ieq (zQ (gOf h m g)) 0 else false:=by
 unfold zkg zbH;rw[zhL.2 H,cond_true];cases hm:hasB m (ln h.Mons) with
 | false =>
  have:(zB h m).Guests=[]:=by unfold zB;rw[hm];rfl
  rw[this,zVE];rfl
 | true =>
  rw[cond_true,zw3 H hm,cond_true];have:(zB h m).Guests=(ix h.Mons m mZ).Guests:=by rw[zeG hm]
  rw[this];cases hg:hasB g (ln (ix h.Mons m mZ).Guests) with
  | false=>rfl
  | true=>rw[cond_true,cond_true,zsd hm hg]
theorem step_ok {h:Host}(S:Safe h)(m g:Int):SimT h (zbt h m g).1 m (fun b=>zhm b g)/\(zbt h m g).2=zkg (zB h m) g:=by
 have hc:=zQC S.ok m g;unfold zbt;cases hh:zbH h m g with
 | false =>
  rw[hh,cond_false]at hc;refine ⟨(SimT.refl S m).congr ?_,hc.symm⟩;unfold zhm;rw[hc];rfl
 | true =>
  rw[hh,cond_true]at hc;rw[cond_true];obtain ⟨_,hm,hg⟩:=zgR.1 hh;have X:=S.ok.seenG hm hg;have hgs:=zsd hm hg;have hf:∀w,zQ (gOf h m g)=w->w≠0->zhm (zB h m) g=stepped (zB h m) g (gOf h m g) w:=by
   intro w hw h0;unfold zhm;rw[hc,hw,zbJ.2 h0,hgs,hw];rfl
  rcases zX6 (gOf h m g) with e|e|e|e|e|e|e|e
  .rw [e];rw[e]at hc;refine ⟨(SimT.refl S m).congr ?_,hc.symm⟩;unfold zhm;rw[hc];rfl
  .rw [e]at hc ⊢;exact ⟨(zoV S hm hg (zKX X)).congr (hf 1 e (by decide)).symm,hc.symm⟩
  .rw [e]at hc ⊢;exact ⟨(zoV S hm hg (zWX X)).congr (hf 2 e (by decide)).symm,hc.symm⟩
  .rw [e]at hc ⊢;exact ⟨(zS7 S hm hg false e).congr (hf 3 e (by decide)).symm,hc.symm⟩
  .rw [e]at hc ⊢;exact ⟨(zS7 S hm hg true e).congr (hf 4 e (by decide)).symm,hc.symm⟩
  .rw [e]at hc ⊢;exact ⟨(zCg S hm hg e).congr (hf 5 e (by decide)).symm,hc.symm⟩
  .rw [e]at hc ⊢;exact ⟨(zCg S hm hg e).congr (hf 6 e (by decide)).symm,hc.symm⟩
  .rw [e]at hc ⊢;exact ⟨(zCg S hm hg e).congr (hf 7 e (by decide)).symm,hc.symm⟩
structure BackOk (b c:Bare):Prop where
 m:c.Memory=b.Memory
 o:c.Outs=b.Outs
 n:c.Guests.length=b.Guests.length
 g:∀j,hasB j (ln b.Guests)=true->GKeep (ix b.Guests j gZ) (ix c.Guests j gZ)
 p:zcN b.Pending=true->zcN c.Pending=true
theorem z2e {h:Host}(S:Safe h){m:Int}(hm:hasB m (ln h.Mons)=true){c:Bare}(k:BackOk (zB h m) c):SimT h (zcQ h m c) m (fun _=>c):=by
 have X:=S.ok.mon hm;have hf:=zeG hm;have hG:(zB h m).Guests=(ix h.Mons m mZ).Guests:=by rw[hf]
 have hn:c.Guests.length=(ix h.Mons m mZ).Guests.length:=by rw[k.n,hG]
 have hg:∀j,hasB j (ln (ix h.Mons m mZ).Guests)=true->GKeep (ix (ix h.Mons m mZ).Guests j gZ) (ix c.Guests j gZ):=fun j hj=>by
  have:=k.g j (by rw[hG];exact hj)
  rwa [hG] at this
 have kp:KeepP (ix h.Mons m mZ) (ztz (ix h.Mons m mZ) c):=⟨rfl,rfl⟩;have hp:zcN c.Pending=true:=k.p (by rw[hf];exact X.pend)
 refine ⟨zuR S hm kp (zjI X kp hn rfl rfl X.outs hp X.tr X.own fun z hz=>?_) hn (fun j hj=>(hg j hj).live) rfl,fun i=>?_,zbB _ _ _⟩
 .obtain ⟨j,hj,rfl⟩:=zJJ hz gZ;exact zrK.2 (hg j (by unfold ln at hj ⊢;rw[<- hn];exact hj)).ok
 .refine (ztc (h:=h) (r:=zcQ h m c) hm rfl rfl kp i).trans ?_
  by_cases e:i=m
  .subst e;rw[zbh.2 rfl,cond_true,cond_true]
   show Bare.mk (zB h i).Memory c.Guests (ix h.Mons i mZ).Outs c.Pending=c
   have h1:=k.m;have h2:=k.o;rw[hf]at h2;cases c
   simp_all
  .rw [zbJ.2 e];rfl
theorem seen_none {h:Host}{m:Int}(hm:hasB m (ln h.Mons)=false):zB h m=⟨[],[],[],0⟩:=by unfold zB;rw[hm];rfl
theorem zrS:zbU ⟨[],[],[],0⟩=false:=by decide
theorem zr1 {b:Bare}(h:zbU b=false)(g:Int):zbY b g=false:=by unfold zbY;rw[h];rfl
theorem zg2 {b:Bare}(h:zbU b=true):BackOk b b:=⟨rfl,rfl,rfl,fun j hj=>⟨zrK.1 (by
 unfold zbU at h;rw[zbT,qL]at h;exact h.1 _ (zkr hj _)),rfl⟩,id⟩
theorem zYh {b:Bare}(h:zbU b=true){g:Int}(hg:hasB g (ln b.Guests)=true){y:Guest}(k:GKeep (gAt b g) y):BackOk b (zd3 b g y):=by
 have e:gAt b g=ix b.Guests g gZ:=by unfold gAt;rw[hg];rfl
 refine ⟨rfl,rfl,zbB _ _ _,fun j hj=>?_,id⟩
 show GKeep _ (ix (up b.Guests g y) j gZ)
 by_cases hc:g=j
 .subst hc;rw[zW hg,<- e];exact k
 .rw [zbl (zy.1 hg).1 (zy.1 hj).1 hc];exact (zg2 h).g j hj
theorem zpQ {b:Bare}(h:zbU b=true){g:Int}{c:Bool}{y:Guest}(k:hasB g (ln b.Guests)=true->c=true->GOk (gAt b g)->GKeep (gAt b g) y):BackOk b (chg b g c y):=by
 unfold chg zbY;rw[h,cond_true];cases hg:hasB g (ln b.Guests) with
 | false=>exact zg2 h
 | true =>
  rw[cond_true];cases c with
  | false=>exact zg2 h
  | true =>
   refine zYh h hg (k hg rfl ?_);have:=(zg2 h).g g hg;unfold gAt;rw[hg];exact this.ok
theorem zoB {h:Host}(S:Safe h)(m:Int){F:Bare->Bare}(hF:∀b,zbU b=true->BackOk b (F b))(h0:F ⟨[],[],[],0⟩=⟨[],[],[],0⟩):SimT h (zeq h m (F (zB h m))) m F:=by
 unfold zeq zct;rw[zhL.2 S.ok,cond_true];cases hm:hasB m (ln h.Mons) with
 | false =>
  refine (SimT.refl S m).congr ?_;rw[seen_none hm];exact h0.symm
 | true=>exact (z2e S hm (hF _ (zw3 S.ok hm))).congr rfl
theorem zjQ {h:Host}(S:Safe h)(m:Int){t:Bare->Bool}(h0:t ⟨[],[],[],0⟩=false):zdM h m (t (zB h m))=t (zB h m):=by
 unfold zdM zct;rw[zhL.2 S.ok,cond_true];cases hm:hasB m (ln h.Mons) with
 | false=>rw[cond_false,seen_none hm,h0]
 | true=>rfl
theorem zob (g:Int)(c:Bool)(y:Guest):chg ⟨[],[],[],0⟩ g c y=⟨[],[],[],0⟩:=by unfold chg;rw[zr1 zrS];rfl
theorem zie (g:Int)(c:Bool):zbM ⟨[],[],[],0⟩ g c=false:=by unfold zbM;rw[zr1 zrS];rfl
theorem zS9 {t:List Slot}{n q:Int}(h:zcn t n q=true){p:Int}{s:Slot}(hs:zdd s q=true):zcn (zdU t p s) n q=true:=by
 unfold zdU;cases hasB p (ln t) with
 | false=>exact h
 | true =>
  rw[cond_true];rw[zpN]at h ⊢;rw[zdr];refine ⟨fun x hx=>?_,h.2⟩;rcases qZ hx with h1|h1
  .exact h.1 x h1
  .rw [h1];exact hs
theorem z5e {x:Guest}(X:GOk x){p:Int}{s:Slot}(h:zqU p s=true):GKeep x (zyo x p s):=by
 unfold zqU at h;rw[zbT]at h;exact ⟨⟨X.prog,X.a,X.pc,zS9 X.w h.2,X.l,X.ctl,X.pend,X.ex,X.seen⟩,rfl⟩
theorem z5b {x:Guest}(X:GOk x){v:Int}(h:zqr x v=true):GKeep x (zu3 x v):=by
 unfold zqr at h;rw[zbT]at h;unfold zu3;cases ieq x.Exit.Kind 2 with
 | true =>
  rw[cond_true];have h1:=zij (zWV X h.1) (e:=zjK) rfl;have h2:=zii h1.ok;exact ⟨h2.ok,h2.live⟩
 | false =>
  rw[cond_false];have h1:=zij X (e:=zjK) rfl;have h2:=zii h1.ok;exact ⟨h2.ok,h2.live.trans h1.live⟩
theorem z5d {x:Guest}(X:GOk x):GKeep x (zvg x):=by
 unfold zvg;have h1:=zij X (e:=zjK) rfl;cases ieq x.Exit.Kind 1 with
 | true=>exact h1
 | false =>
  have h2:=zVq h1.ok;exact ⟨h2.ok,h2.live.trans h1.live⟩
theorem zVr {x:Guest}(X:GOk x)(n:Int):GKeep x (zl2 x n):=zVs X (zOh X.pend n)
theorem z5c {x:Guest}(X:GOk x){c:Ctl}(h:zgL c=true):GKeep x (zFy x c):=⟨⟨X.prog,X.a,X.pc,X.w,X.l,h,X.pend,X.ex,X.seen⟩,rfl⟩
theorem zAq (n:Int):∀(ks:List Int) (b:Bare) (l:List Guest),(∀k∈ks,hasB k (ln b.Guests)=true)->BackOk b { b with Guests:=l }->BackOk b { b with Guests:=zky n ks l }
 | [],b,l,_,h=>h
 | k :: ks,b,l,hk,h=>by
  show BackOk b { b with Guests:=zky n ks (zCO n l k) }
  refine zAq n ks b _ (fun j hj=>hk j (qY _ hj)) ⟨h.m,h.o,by show (up l k _).length=_;rw[zbB];exact h.n,fun j hj=>?_,h.p⟩
  show GKeep _ (ix (up l k _) j gZ)
  have hl:l.length=b.Guests.length:=h.n;have hkl:hasB k (ln l)=true:=by unfold ln;rw[hl];exact hk k jI
  by_cases e:k=j
  .subst e;rw[zW hkl];have h1:=h.g k hj;have h2:=zVr h1.ok n;exact ⟨h2.ok,h2.live.trans h1.live⟩
  .rw [zbl (zy.1 hkl).1 (zy.1 hj).1 e];exact h.g j hj
theorem zWl {b:Bare}(h:zbU b=true)(n:Int):BackOk b (zis b n):=by
 unfold zis zey zCP;rw[h,cond_true];cases hasB n 8 with
 | false=>exact zg2 h
 | true =>
  rw[cond_true];cases ieq (ln (zdQ b.Guests n)) 0 with
  | true =>
   have:=zg2 h;exact ⟨rfl,rfl,rfl,this.g,fun hp=>zOh hp n⟩
  | false =>
   rw[cond_false];refine zAq n _ b b.Guests (fun k hk=>?_) (zg2 h);unfold zdQ at hk;obtain ⟨j,hj,rfl,_⟩:=(zGv (d:=gZ)).1 hk;exact zy.2 ⟨by omega,by unfold ln;omega⟩
theorem zYg {b:Bare}(h:zbU b=true):BackOk b (zkW b):=by
 unfold zkW;rw[h,cond_true];exact ⟨rfl,rfl,rfl,(zg2 h).g,fun hp=>zOi hp⟩
theorem z1X {h:Host}(S:Safe h)(m p c v:Int):SimT h (zlZ h m p c v) m (fun b=>zQa b p c v)/\zeJ h m p c v=zwl (zB h m) p c v:=by
 have e:zeJ h m p c v=zwl (zB h m) p c v:=by
  unfold zeJ zwl zcf z3Z;rw[zhL.2 S.ok,cond_true];cases hm:hasB m (ln h.Mons) with
  | false=>rw[seen_none hm,zrS];rfl
  | true=>rw[zw3 S.ok hm,cond_true];rfl
 refine ⟨?_,e⟩;unfold zlZ;cases hc:zeJ h m p c v with
 | false =>
  refine (SimT.refl S m).congr ?_;unfold zQa;rw[<- e,hc];rfl
 | true =>
  rw[cond_true];have hc':=hc;unfold zeJ at hc';rw[zbT,zbT]at hc';obtain ⟨h1,_,_⟩:=hc';obtain ⟨_,hm,hp⟩:=zng.1 h1;have M:=zOa S.ok (m:=m) (p:=p) 2 hm hp;have k0:=M.op.sim S m;have hm1:hasB m (ln (mended h m p 2).Mons)=true:=by rw[k0.has];exact hm
  obtain ⟨k1,_⟩:=zuS k0.safe hm1 hp rfl M.inn c v;refine (k0.trans k1).congr ?_;unfold zQa;rw[<- e,hc];rfl
theorem zZv {h:Host}(S:Safe h)(m g page need:Int):zby h m g page need=(cond (zbY (zB h m) g) (cond (zfb need) (zdn (gAt (zB h m) g).Live page need) false) false):=by
 have e:zbH h m g=zbY (zB h m) g:=by
  unfold zbH zbY;rw[zhL.2 S.ok,cond_true];cases hm:hasB m (ln h.Mons) with
  | false=>rw[seen_none hm,zrS,cond_false,cond_false]
  | true =>
   rw[cond_true,zw3 S.ok hm,cond_true];have:(zB h m).Guests=(ix h.Mons m mZ).Guests:=by rw[zeG hm]
   rw[this]
 unfold zby;rw[<- e];cases hg:zbH h m g with
 | false=>rw[cond_false,cond_false]
 | true =>
  obtain ⟨_,hm,hg⟩:=zgR.1 hg;have:(gAt (zB h m) g).Live=zb4 h m g:=by rw[zsd hm hg];rfl
  rw[this]
theorem zFJ {h:Host}(S:Safe h)(m g a n:Int)(hn:n=1\/n=2):zmS (zB h m) g a n=bif win a 0 15 then zby h m g (zbb a) n else false:=by
 rw[zZv S];unfold zmS;rw[zvb.2 hn,cond_true];cases zbY (zB h m) g<;>cases win a 0 15<;>rfl
theorem zQU {h:Host}(S:Safe h){m g a n:Int}(hn:n=1\/n=2)(hd:zmS (zB h m) g a n=true) :
 Looked h (zA7 h m g a n).1 m g (zbb a) n (zCz (zB h m) g a n) (zA7 h m g a n).2.1/\hasB m (ln h.Mons)=true/\hasB (zCz (zB h m) g a n) 8=true:=by
 rw[zFJ S m g a n hn,zbT]at hd;obtain ⟨L,_⟩:=ztY S true hd.2 S.rt.e2;obtain ⟨h1,_,hw⟩:=zlh.1 hd.2;obtain ⟨_,hm,hg⟩:=zgR.1 h1;have e:zCz (zB h m) g a n=zbQ (zb4 h m g) (zbb a) n:=by
  unfold zCz;rw[zsd hm hg];rfl
 rw[e];exact ⟨L,hm,(walked (S.ok.guest hm hg) hw).q8⟩
theorem z6y {h:Host}(S:Safe h)(m g a v:Int):SimT h (zoi h m g a v) m (fun b=>zWJ b g a v)/\zgb h m g a v=zxn (zB h m) g a v:=by
 have e:zgb h m g a v=zxn (zB h m) g a v:=by
  unfold zgb zxn;rw[zFJ S m g a 2 (.inr rfl)];cases win a 0 15<;>cases win v 0 99<;>cases zby h m g (zbb a) 2<;>rfl
 refine ⟨?_,e⟩;unfold zoi;cases hc:zgb h m g a v with
 | false =>
  refine (SimT.refl S m).congr ?_;unfold zWJ;rw[<- e,hc];rfl
 | true =>
  rw[cond_true];have hd:zmS (zB h m) g a 2=true:=by
   have:=e.symm.trans hc;unfold zxn at this;exact (zbT.1 this).1
  obtain ⟨L,hm,hq⟩:=zQU S (.inr rfl) hd;have k0:=L.op.sim S m;obtain ⟨k1,_⟩:=zuS k0.safe (by rw[k0.has];exact hm) hq L.inn L.ne (zcU a) v
  refine (k0.trans k1).congr ?_;unfold zWJ;rw[<- e,hc];rfl
theorem z5C {h:Host}(S:Safe h)(m g a:Int):SimT h (zl0 h m g a) m id/\zfn h m g a=zmS (zB h m) g a 1/\zp2 h m g a=zQe (zB h m) g a:=by
 have e:zfn h m g a=zmS (zB h m) g a 1:=by
  unfold zfn;rw[zFJ S m g a 1 (.inl rfl)]
 unfold zl0 zp2 zQe;rw[e];cases hd:zmS (zB h m) g a 1 with
 | false=>exact ⟨SimT.refl S m,rfl,rfl⟩
 | true =>
  obtain ⟨L,hm,hq⟩:=zQU S (.inl rfl) hd;have k0:=L.op.sim S m;obtain ⟨_,k2⟩:=zuS k0.safe (by rw[k0.has];exact hm) hq L.inn L.ne (zcU a) 0
  rw[L.op.like.seen m] at k2;exact ⟨k0,rfl,k2⟩
theorem zZi {k:Kept}{inner outer:List Slot}(h:KOk k inner outer)(p:Int)(s:Slot):KOk (zbG k p) (zdU inner p s) outer:=by
 have hl:=zjy k p;have hw:(zdU inner p s).length=inner.length:=by unfold zdU;cases hasB p (ln inner)<;>simp [zbB]
 refine ⟨by rw[hl.1,hw,h.l1],by rw[hl.2,hw,h.l2],fun i hi=>?_⟩
 have hi1:hasB i (ln inner)=true:=by unfold ln at hi ⊢;rwa [<- hw]
 have hi':hasB i (ln k.Known)=true:=by unfold ln at hi1 ⊢;rwa [h.l1]
 have ha:=zu8 (q:=p) (by rw[h.l1,h.l2]) hi'
 rw[ha.1,ha.2]
 by_cases e:p=i
 .subst e;rw[zbh.2 rfl];rfl
 .rw [zbJ.2 e,cond_false,cond_false,h.at' i hi1];have:ix (zdU inner p s) i sZ=ix inner i sZ:=by
   unfold zdU;cases hp:hasB p (ln inner) with
   | false=>rfl
   | true=>exact zbl (zy.1 hp).1 (zy.1 hi1).1 e _ _
  rw[this]
theorem z6R {t m g:Int}(h1:zcC t=m)(h2:zc8 t=g)(hm:0<=m):t=zdq m g:=by
 subst h1;subst h2
 by_cases h:1<=t/\t<=6
 .have e:t=1\/t=2\/t=3\/t=4\/t=5\/t=6:=by omega
  rcases e with rfl|rfl|rfl|rfl|rfl|rfl<;>decide
 .exfalso;have:zcC t = -1:=by
   unfold zcC ige ile;rw[show (decide (t≥1)&&decide (t<=6))=false by simp;omega];rfl
  omega
theorem zUX {t:List Slot}{p q:Int}{s:Slot}(h:q≠p):zbm (zdU t p s) q=zbm t q:=by
 unfold zdU;cases hp:hasB p (ln t) with
 | false=>rfl
 | true=>exact zOt (zy.1 hp).1 h
theorem z2f {t:List Slot}(h:zcn t 4 8=true)(p:Int):zdd (zbm t p) 8=true:=by
 unfold zbm;cases hp:hasB p (ln t) with
 | false=>rfl
 | true=>exact (zpN.1 h).1 _ (zkr hp _)
theorem zY8 {x:Guest}(X:GOk x)(p:Int):GOk (zdz x p):=⟨X.prog,X.a,X.pc,X.w,zS9 X.l (z2f X.w p),X.ctl,X.pend,X.ex,X.seen⟩
theorem z1u {h:Host}(S:Safe h)(m g p:Int):SimT h (zjA h m g p) m (fun b=>chg b g (hasB p 4) (zdz (gAt b g) p))/\zdM h m (zbM (zB h m) g (hasB p 4))=zbM (zB h m) g (hasB p 4):=by
 refine ⟨?_,zjQ S m (t:=fun b=>zbM b g (hasB p 4)) (zie g _)⟩;unfold zjA zct;rw[zhL.2 S.ok,cond_true];cases hm:hasB m (ln h.Mons) with
 | false =>
  refine (SimT.refl S m).congr ?_;rw[seen_none hm,zob];rfl
 | true =>
  rw[cond_true];cases hc:zbM (zB h m) g (hasB p 4) with
  | false =>
   refine (SimT.refl S m).congr ?_
   show zB h m=chg (zB h m) g (hasB p 4) (zdz (gAt (zB h m) g) p)
   have hc':=hc;unfold zbM at hc';unfold chg;rw[hc'];rfl
  | true =>
   rw[cond_true];have hc':=hc;unfold zbM zbY at hc';rw[zw3 S.ok hm,cond_true,zbT,zeG hm]at hc';have hg:hasB g (ln (ix h.Mons m mZ).Guests)=true:=hc'.1;have X:=S.ok.mon hm;have G:=S.ok.seenG hm hg;have e1:chg (zB h m) g (hasB p 4) (zdz (gAt (zB h m) g) p)=zd3 (zB h m) g (zdz (gOf h m g) p):=by
    have h1:=hc;unfold zbM at h1;unfold chg;rw[h1,zsd hm hg];rfl
   rw[e1];have htg:hasB g (ln (ix h.Mons m mZ).Tables)=true:=by unfold ln;rw[X.gt];exact hg
   have hM:(zAE (zcQ h m (zd3 (zB h m) g (zdz (gOf h m g) p))) m g p).Mons=up h.Mons m { ix h.Mons m mZ with Guests:=up (ix h.Mons m mZ).Guests g (zdz (gOf h m g) p),Tables:=up (ix h.Mons m mZ).Tables g (zbG (ix (ix h.Mons m mZ).Tables g kZ) p) }:=by
    show up (up h.Mons m _) m _=_
    rw[z0x];have e2:ix (zcQ h m (zd3 (zB h m) g (zdz (gOf h m g) p))).Mons m mZ=ztz (ix h.Mons m mZ) (zd3 (zB h m) g (zdz (gOf h m g) p)):=zW hm _ _;rw[e2];unfold ztz zd3;rw[zeG hm]
   have kp:KeepP (ix h.Mons m mZ) { ix h.Mons m mZ with Guests:=up (ix h.Mons m mZ).Guests g (zdz (gOf h m g) p),Tables:=up (ix h.Mons m mZ).Tables g (zbG (ix (ix h.Mons m mZ).Tables g kZ) p) }:=⟨rfl,rfl⟩;have hy:MOk { ix h.Mons m mZ with Guests:=up (ix h.Mons m mZ).Guests g (zdz (gOf h m g) p),Tables:=up (ix h.Mons m mZ).Tables g (zbG (ix (ix h.Mons m mZ).Tables g kZ) p) }:=zjI X kp (zbB _ _ _) (zbB _ _ _) rfl X.outs X.pend X.tr X.own fun z hz=>by
    rcases qZ hz with h|h
    .exact X.gs z h
    .rw [h];exact zrK.2 (zY8 G p)
   have hH:HOk (zAE (zcQ h m (zd3 (zB h m) g (zdz (gOf h m g) p))) m g p):=S.ok.up hm hy hM S.ok.m12 S.ok.pgs (zxe S.ok.b1 _) (zxe S.ok.b2 _) fun q _=>.inl (qX _);have key:∀b:List Entry,(∀e∈b,zcc h e=true)->∀e∈zcl b (zdq m g) p,zcc (zAE (zcQ h m (zd3 (zB h m) g (zdz (gOf h m g) p))) m g p) e=true:=by
    intro b hb e he;obtain ⟨he1,he2⟩:=zxq.1 he;obtain ⟨h1,h2,h3⟩:=ze2.1 (hb e he1);rw[ze2,hM,zdr];refine ⟨h1,?_⟩
    by_cases hcm:m=zcC e.Tag
    .rw [<- hcm]at h1 h2 h3 ⊢;rw[zW hm]
     show hasB (zc8 e.Tag) (ln (up _ _ _))=true/\below' _ (zba (zbm (ix (up (ix h.Mons m mZ).Guests g _) (zc8 e.Tag) gZ).Live e.Page) (ix h.Mons m mZ).Outer)=true
     rw[zdr];refine ⟨h2,?_⟩
     by_cases hcg:g=zc8 e.Tag
     .rw [<- hcg]at h2 h3 ⊢;rw[zW hg];have hne:e.Page≠p:=fun hp=>he2 ⟨z6R hcm.symm hcg.symm (zy.1 hm).1,hp⟩
      show below' _ (zba (zbm (zdU (gOf h m g).Live p _) e.Page) _)=true
      rw[zUX hne];exact h3
     .rw [zbl (zy.1 hg).1 (zy.1 h2).1 hcg];exact h3
    .rw [zbl (zy.1 hm).1 (zy.1 h1).1 hcm];exact ⟨h2,h3⟩
   refine ⟨⟨hH,⟨fun i hi=>?_,key _ S.rt.e1,key _ S.rt.e2⟩⟩,fun i=>?_,by rw[hM,zbB]⟩
   .rw [hM]at hi ⊢;rw[zdr]at hi
    by_cases hcm:m=i
    .subst hcm;rw[zW hm];intro j hj
     show KOk (ix (up (ix h.Mons m mZ).Tables g _) j kZ) (ix (up (ix h.Mons m mZ).Guests g _) j gZ).Live (ix h.Mons m mZ).Outer
     have hj':hasB j (ln (ix h.Mons m mZ).Guests)=true:=by
      have:hasB j (ln (up (ix h.Mons m mZ).Guests g (zdz (gOf h m g) p)))=true:=hj
      rwa [zdr] at this
     by_cases e:g=j
     .subst e;rw[zW htg,zW hg];exact zZi (S.rt.t m hm g hg) p _
     .rw [zbl (zy.1 hg).1 (zy.1 hj').1 e,zbl (zy.1 hg).1 (zy.1 hj').1 e];exact S.rt.t m hm j hj'
    .rw [zbl (zy.1 hm).1 (zy.1 hi).1 hcm];exact S.rt.t i hi
   .refine (ztc (h:=h) hm hM rfl kp i).trans ?_
    by_cases e:i=m
    .subst e;rw[zbh.2 rfl,cond_true,cond_true,e1,zeG hm];rfl
    .rw [zbJ.2 e];rfl
theorem zOB (g:Int):zhm ⟨[],[],[],0⟩ g=⟨[],[],[],0⟩/\zkg ⟨[],[],[],0⟩ g=false:=by
 have:zkg ⟨[],[],[],0⟩ g=false:=by unfold zkg;rw[zVE];rfl
 refine ⟨?_,this⟩;unfold zhm;rw[this];rfl
theorem z1A {h:Host}(S:Safe h)(a:GAct):SimT h (zsv h a) a.M (fun b=>zH3 b a)/\zA5 h a=zH4 (zB h a.M) a:=by
 have hn:=zrS;unfold zsv zA5 zH3 zH4;cases ieq a.Kind 1 with
 | true =>
  obtain ⟨k,e⟩:=step_ok S a.M a.G;exact ⟨k,by rw[cond_true,cond_true,e]⟩
 | false =>
  simp only[cond_false];cases ieq a.Kind 2 with
  | true =>
   exact ⟨zoB S a.M (F:=fun b=>chg b a.G (zqU a.X ⟨a.Y,a.Z⟩) (zyo (gAt b a.G) a.X ⟨a.Y,a.Z⟩)) (fun b hb=>zpQ hb fun _ hc G=>z5e G hc) (zob _ _ _),
    congrArg (fun t=>Told.mk t 0) (zjQ S a.M (t:=fun b=>zbM b a.G (zqU a.X ⟨a.Y,a.Z⟩)) (zie _ _))⟩
  | false =>
   simp only[cond_false];cases ieq a.Kind 3 with
   | true =>
    obtain ⟨k,e⟩:=z1u S a.M a.G a.X;exact ⟨k,congrArg (fun t=>Told.mk t 0) e⟩
   | false =>
    simp only[cond_false];cases ieq a.Kind 4 with
    | true =>
     exact ⟨zoB S a.M (F:=fun b=>chg b a.G (zqr (gAt b a.G) a.X) (zu3 (gAt b a.G) a.X)) (fun b hb=>zpQ hb fun _ hc G=>z5b G hc) (zob _ _ _),
      congrArg (fun t=>Told.mk t 0) (zjQ S a.M (t:=fun b=>zbM b a.G (zqr (gAt b a.G) a.X)) (zie _ _))⟩
    | false =>
     simp only[cond_false];cases ieq a.Kind 5 with
     | true =>
      exact ⟨zoB S a.M (F:=fun b=>chg b a.G (zvf (gAt b a.G)) (zvg (gAt b a.G))) (fun b hb=>zpQ hb fun _ _ G=>z5d G) (zob _ _ _),
       congrArg (fun t=>Told.mk t 0) (zjQ S a.M (t:=fun b=>zbM b a.G (zvf (gAt b a.G))) (zie _ _))⟩
     | false =>
      simp only[cond_false];cases ieq a.Kind 6 with
      | true =>
       exact ⟨zoB S a.M (F:=fun b=>chg b a.G (zfI (gAt b a.G).Pending a.X) (zl2 (gAt b a.G) a.X)) (fun b hb=>zpQ hb fun _ _ G=>zVr G _) (zob _ _ _),
        congrArg (fun t=>Told.mk t 0) (zjQ S a.M (t:=fun b=>zbM b a.G (zfI (gAt b a.G).Pending a.X)) (zie _ _))⟩
      | false =>
       simp only[cond_false];cases ieq a.Kind 7 with
       | true =>
        exact ⟨zoB S a.M (F:=fun b=>chg b a.G (zgL ⟨a.X,a.Y,ieq a.Z 1⟩) (zFy (gAt b a.G) ⟨a.X,a.Y,ieq a.Z 1⟩)) (fun b hb=>zpQ hb fun _ hc G=>z5c G hc) (zob _ _ _),
         congrArg (fun t=>Told.mk t 0) (zjQ S a.M (t:=fun b=>zbM b a.G (zgL ⟨a.X,a.Y,ieq a.Z 1⟩)) (zie _ _))⟩
       | false =>
        simp only[cond_false];cases ieq a.Kind 8 with
        | true =>
         obtain ⟨k,e⟩:=z1X S a.M a.X a.Y a.Z;exact ⟨k,congrArg (fun t=>Told.mk t 0) e⟩
        | false =>
         simp only[cond_false];cases ieq a.Kind 9 with
         | true =>
          exact ⟨zoB S a.M (F:=fun b=>zis b a.X) (fun b hb=>zWl hb _) (by unfold zis zey;rw[hn];rfl),
           congrArg (fun t=>Told.mk t 0) (zjQ S a.M (t:=fun b=>zey b a.X) (by unfold zey;rw[hn];rfl))⟩
         | false =>
          simp only[cond_false];cases ieq a.Kind 10 with
          | true =>
           refine ⟨zoB S a.M (F:=zkW) (fun b hb=>zYg hb) (by unfold zkW;rw[hn];rfl),?_⟩
           have e:=zjQ S a.M (t:=zkd) (by unfold zkd;rw[hn];rfl)
           show Told.mk (zdM h a.M (zkd (zB h a.M))) (cond (zct h a.M) (zqq (zB h a.M)) (-1))=⟨zkd (zB h a.M),zqq (zB h a.M)⟩
           rw[e]
           congr 1
           unfold zct;rw[zhL.2 S.ok,cond_true];cases hm:hasB a.M (ln h.Mons) with
           | true=>rfl
           | false=>rw[seen_none hm];unfold zqq;rw[hn];rfl
          | false =>
           simp only[cond_false];cases ieq a.Kind 11 with
           | true =>
            obtain ⟨k,e⟩:=z6y S a.M a.G a.X a.Y;exact ⟨k,congrArg (fun t=>Told.mk t 0) e⟩
           | false =>
            obtain ⟨k,e1,e2⟩:=z5C S a.M a.G a.X;exact ⟨k,by simp only[cond_false];rw[e1,e2]⟩
theorem z1Q {h:Host}(S:Safe h)(a:GAct):Safe (zll h a)/\(∀i,zB (zll h a) i=zB h i)/\(zll h a).Mons.length=h.Mons.length:=by
 unfold zll;have k:∀r,Op h r->Safe r/\(∀i,zB r i=zB h i)/\r.Mons.length=h.Mons.length:=fun r k=>⟨k.safe S,fun i=>k.like.seen i,k.like.len⟩;cases ieq a.Kind 13 with
 | true=>exact k _ (zXm S.ok _ _)
 | false =>
  simp only[cond_false];cases ieq a.Kind 14 with
  | true=>exact k _ (zZK S.ok _ _)
  | false =>
   simp only[cond_false];cases ieq a.Kind 15 with
   | true=>exact k _ (zZJ S.ok _ _)
   | false =>
    simp only[cond_false];cases ieq a.Kind 16 with
    | true =>
     obtain ⟨h1,h2⟩:=zPO S a.M a.X;refine ⟨h1,h2,?_⟩;simp only[cond_true];unfold ziy;cases zbI h<;>cases hasB a.M (ln h.Mons)<;>cases win a.X 0 3<;>first|rfl|exact zbB _ _ _
    | false=>exact k _ (z5x S.ok)
def zji (a:GAct):Bool:=bif win a.Kind 1 17 then !win a.Kind 13 17 else false
theorem zYa {h:Host}(S:Safe h)(a:GAct):Safe (zeb h a)/\(zeb h a).Mons.length=h.Mons.length /\
 (∀i,zB (zeb h a) i=bif (cond (zji a) (ieq i a.M) false) then zH3 (zB h i) a else zB h i)/\(zji a=true->zik h a=zH4 (zB h a.M) a):=by
 unfold zeb zik zji;cases win a.Kind 1 17 with
 | false=>exact ⟨S,rfl,fun _=>rfl,fun e=>by cases e⟩
 | true =>
  simp only[cond_true];cases win a.Kind 13 17 with
  | true =>
   obtain ⟨h1,h2,h3⟩:=z1Q S a;exact ⟨h1,h3,fun i=>by simp only[cond_true,jR,cond_false];exact h2 i,fun e=>by cases e⟩
  | false =>
   obtain ⟨k,e⟩:=z1A S a;exact ⟨k.safe,k.len,fun i=>by simp only[cond_false,jV,cond_true];exact k.seen i,fun _=>e⟩
def zdj (h:Host):List Bare:=(List.range h.Mons.length).map fun (i:Nat)=>zB h (i:Int)
theorem ziV (h:Host):(zdj h).length=h.Mons.length:=by simp[zdj]
theorem zla (h:Host)(m:Int):hasB m (ln (zdj h))=hasB m (ln h.Mons):=by unfold ln;rw[ziV]
theorem zke {h:Host}{m:Int}(hm:hasB m (ln h.Mons)=true)(d:Bare):ix (zdj h) m d=zB h m:=by
 have hm':=zy.1 hm;unfold ln at hm';have hk:m.toNat<(zdj h).length:=by rw[ziV];omega
 have:=zjF hk d;rw[show ((m.toNat:Nat):Int)=m by omega] at this
 rw[this];simp[zdj,show max m 0=m by omega]
theorem zWh {h r:Host}(hl:r.Mons.length=h.Mons.length)(e:∀i,zB r i=zB h i):zdj r=zdj h:=by
 unfold zdj;rw[hl];exact List.map_congr_left fun i _=>e _
theorem zTJ {h:Host}(S:Safe h)(a:GAct):zdj (zeb h a)=zH5 (zdj h) a/\(zji a=true->zik h a=zWk (zdj h) a):=by
 obtain ⟨_,hl,hs,ht⟩:=zYa S a;have key:zji a=true->zdj (zeb h a)=(cond (hasB a.M (ln h.Mons)) (up (zdj h) a.M (zH3 (zB h a.M) a)) (zdj h)):=by
  intro hi;rw[hi]at hs;cases hm:hasB a.M (ln h.Mons) with
  | false =>
   rw[cond_false];refine zMx ⟨[],[],[],0⟩ (by rw[ziV,ziV,hl]) fun i hi'=>?_
   rw[zla]at hi';rw[zke hi'];have hi2:hasB i (ln h.Mons)=true:=by unfold ln at hi' ⊢;rwa [<- hl]
   rw[zke hi2,hs i];have:ieq i a.M=false:=zbJ.2 fun e=>by rw[e,hm]at hi2;cases hi2
   rw[this];rfl
  | true =>
   rw[cond_true];refine zMx ⟨[],[],[],0⟩ (by rw[zbB,ziV,ziV,hl]) fun i hi'=>?_
   rw[zla]at hi';rw[zke hi',hs i];have hi2:hasB i (ln h.Mons)=true:=by unfold ln at hi' ⊢;rwa [<- hl]
   by_cases e:i=a.M
   .rw [e,zbh.2 rfl,zW (by rw[zla];exact hm)];rfl
   .rw [zbJ.2 e,zbl (zy.1 hm).1 (zy.1 hi2).1 (Ne.symm e),zke hi2];rfl
 have e2:zji a=false->zdj (zeb h a)=zdj h:=fun hi=>zWh hl fun i=>by rw[hs i,hi];rfl
 have ke:zji a=true->win a.Kind 1 17=true/\win a.Kind 13 17=false:=by
  intro hi;unfold zji at hi;cases h1:win a.Kind 1 17<;>cases h2:win a.Kind 13 17<;>rw [h1,h2]at hi<;>first|exact ⟨rfl,rfl⟩|cases hi
 constructor
 .unfold zH5;cases hi:zji a with
  | true =>
   obtain ⟨h1,h2⟩:=ke hi;rw[h1,h2,cond_true,cond_false,zla,key hi];cases hm:hasB a.M (ln h.Mons) with
   | true=>rw[cond_true,cond_true,zke hm]
   | false=>rfl
  | false =>
   rw[e2 hi];unfold zji at hi;cases h1:win a.Kind 1 17 with
   | false=>rfl
   | true =>
    cases h2:win a.Kind 13 17 with
    | true=>rfl
    | false=>rw[h1,h2]at hi;cases hi
 .intro hi;rw[ht hi];obtain ⟨h1,h2⟩:=ke hi;unfold zWk;rw[h1,h2,cond_true,cond_false,zla];cases hm:hasB a.M (ln h.Mons) with
  | true=>rw[cond_true,zke hm]
  | false =>
   rw[cond_false,seen_none hm];have hs1:=(zOB a.G).2;have hn:=zrS;unfold zH4;simp only[hs1,zie];unfold zwl zey zkd zqq zxn zQe zmS;simp only[hn,zr1 hn,cond_false];cases h10:ieq a.Kind 10 with
   | true =>
    have:a.Kind=10:=zbh.1 h10;rw[this];rfl
   | false =>
    cases ieq a.Kind 1<;>cases ieq a.Kind 2<;>cases ieq a.Kind 3<;>cases ieq a.Kind 4<;>cases ieq a.Kind 5<;>cases ieq a.Kind 6<;>cases ieq a.Kind 7<;>cases ieq a.Kind 8<;>cases ieq a.Kind 9<;>cases ieq a.Kind 11<;>rfl
def zJf:List GAct->List Told->List Told
 | a :: l,t :: ts=>bif zji a then t :: zJf l ts else zJf l ts
 | _,_=>[]
structure Live (u:Host×List Told) (v:List Bare×List Told):Prop where
 safe:Safe u.1
 seen:zdj u.1=v.1
def zCn:List GAct->Host->List Told
 | [],_=>[]
 | a :: l,h=>zik h a :: zCn l (zeb h a)
def z0v:List GAct->List Bare->List Told
 | [],_=>[]
 | a :: l,b=>zWk b a :: z0v l (zH5 b a)
def ztG:List GAct->Host->Host
 | [],h=>h
 | a :: l,h=>ztG l (zeb h a)
def z1q:List GAct->List Bare->List Bare
 | [],b=>b
 | a :: l,b=>z1q l (zH5 b a)
theorem zVN:∀(l:List GAct) (u:Host×List Told),zBk l u=(ztG l u.1,u.2++zCn l u.1)
 | [],u=>by simp[zBk,ztG,zCn]
 | a :: l,u=>by rw[zBk,zVN l];simp[ztG,zCn,ap]
theorem zYZ:∀(l:List GAct) {h:Host},Safe h->Safe (ztG l h)/\zdj (ztG l h)=z1q l (zdj h)/\zJf l (zCn l h)=zJf l (z0v l (zdj h))/\(ztG l h).Mons.length=h.Mons.length
 | [],h,S=>⟨S,rfl,rfl,rfl⟩
 | a :: l,h,S=>by
  have h1:=zYa S a;have h2:=zTJ S a;obtain ⟨e1,e2,e3,e4⟩:=zYZ l h1.1;refine ⟨e1,by show zdj (ztG l (zeb h a))=z1q l (zH5 (zdj h) a);rw[e2,h2.1],?_,e4.trans h1.2.1⟩
  show (cond (zji a) _ _)=(cond (zji a) _ _)
  cases hi:zji a with
  | false=>rw[cond_false,cond_false,e3,h2.1]
  | true=>rw[cond_true,cond_true,e3,h2.1,h2.2 hi]
theorem cz8 (q:Int)(hq:0<=q):ztf.countP (fun s=>ieq s.Page q)=0:=by
 rw[uW];intro s hs;have:=(uK.1 hs).2;rw[this]
 show ¬ ieq (-1) q=true
 rw[zbh];omega
theorem zTX {p:List Ins}(h:zcT p=true):GOk (zet p):=⟨h,rfl,rfl,rfl,rfl,rfl,rfl,rfl,rfl⟩
theorem zZC {ps:List (List Ins)}(h1:1<=ps.length)(h:∀p∈ps,zcT p=true):MOk (zf1 ps):=by
 have e8:∀s∈ztf,s=noSlot:=fun s hs=>(uK.1 hs).2;refine ⟨?_,?_,?_,rfl,fun s hs=>.inl (e8 s hs),rfl,rfl,jU _,rfl,rfl,rfl,fun g hg=>?_,fun p hp=>?_⟩
 .show 1<=((ps.take 2).map zet).length
  simp;omega
 .show ((ps.take 2).map zet).length<=2
  simp;omega
 .show ((ps.take 2).map (fun _=>zi1)).length=((ps.take 2).map zet).length
  simp
 .obtain ⟨p,hp,rfl⟩:=jA.1 hg;exact zrK.2 (zTX (h p (j3 hp)))
 .have hp':=zy.1 hp;have e:p=0\/p=1\/p=2\/p=3\/p=4\/p=5\/p=6\/p=7:=by omega
  rcases e with rfl|rfl|rfl|rfl|rfl|rfl|rfl|rfl<;>rfl
def z4k (ps:List (List (List Ins))):Prop:=1<=ps.length/\∀p∈ps,1<=p.length/\∀x∈p,zcT x=true
theorem zW0 {ps:List (List (List Ins))}(h:z4k ps):Safe (zeY ps):=by
 have hmem:∀x∈(zeY ps).Mons,∃p∈ps,x=zf1 p:=fun x hx=>by
  obtain ⟨p,hp,rfl⟩:=jA.1 hx;exact ⟨p,j3 hp,rfl⟩
 have hO:∀x∈(zeY ps).Mons,x.Outer=ztf:=fun x hx=>by
  obtain ⟨p,_,rfl⟩:=hmem x hx;rfl
 have H:HOk (zeY ps):=by
  refine ⟨rfl,fun c hc=>?_,?_,?_,rfl,rfl,fun x hx=>?_,fun q hq=>?_⟩
  .have:c=[0,0,0,0]:=(uK.1 hc).2;rw[this];rfl
  .show 1<=((ps.take 3).map zf1).length
   have:=h.1;simp;omega
  .show ((ps.take 3).map zf1).length<=3
   simp;omega
  .obtain ⟨p,hp,rfl⟩:=hmem x hx;exact zZC (h.2 p hp).1 (h.2 p hp).2
  .have:zd6 (zeY ps).Mons q=0:=by
    unfold zd6;have:(zeY ps).Mons.map (fun x=>cPg x q)=(zeY ps).Mons.map (fun _=>0):=List.map_congr_left fun x hx=>by
     unfold cPg;rw[hO x hx];exact cz8 q hq
    rw[this];generalize (zeY ps).Mons=l
    induction l with
    | nil=>rfl
    | cons x l ih=>rw[jB,uE,ih]
   omega
 refine ⟨H,fun m hm g hg=>?_,fun e he=>(by cases he),fun e he=>(by cases he)⟩
 obtain ⟨p,hp,e⟩:=hmem _ (zkr hm mZ);rw[e]at hg ⊢;have hg1:hasB g (ln ((p.take 2).map zet))=true:=hg;have ht:ix (zf1 p).Tables g kZ=zi1:=by
  have:hasB g (ln ((p.take 2).map (fun _=>zi1)))=true:=by
   unfold ln at hg1 ⊢;simpa using hg1
  obtain ⟨k,hk,_,e2⟩:=zxT this kZ
  show ix ((p.take 2).map (fun _=>zi1)) g kZ=_
  rw[e2];simp
 have hl:(ix (zf1 p).Guests g gZ).Live=zj7:=by
  obtain ⟨k,hk,_,e2⟩:=zxT hg1 gZ
  show (ix ((p.take 2).map zet) g gZ).Live=_
  rw[e2];simp[zet]
 rw[ht,hl]
 show KOk zi1 zj7 ztf
 refine ⟨rfl,rfl,fun i hi=>?_⟩;have hi':=zy.1 hi;have:ln zj7=4:=rfl;rw[this]at hi';have e4:i=0\/i=1\/i=2\/i=3:=by omega
 rcases e4 with rfl|rfl|rfl|rfl<;>rfl
theorem zFk (outer:List Slot)(ts:List Kept):∀(l:List Guest) (i:Nat),(∀k (hk:k<l.length),((i+k:Nat):Int)<ln ts->zjG (ix ts ((i+k:Nat):Int) kZ) l[k].Live outer=true)->zoY outer ts l i=true
 | [],_,_=>rfl
 | g :: l,i,h=>by
  unfold zoY;cases hi:ilt (i:Int) (ln ts) with
  | false=>rfl
  | true =>
   have h0:=h 0 (by simp) (by simpa using qE hi)
   rw[cond_true,show zjG (ix ts (i:Int) zcK) g.Live outer=true from h0,cond_true]
   exact zFk outer ts l (i+1) fun k hk hlt=>by
    have:=h (k+1) (by simpa using hk) (by rw[show i+(k+1)=i+1+k by omega];exact hlt)
    rw[show i+(k+1)=i+1+k by omega] at this
    exact this
theorem z0q {h:Host}(S:Safe h):zlC h=true:=by
 unfold zlC;rw[qL];intro x hx;obtain ⟨m,hm,e⟩:=zJJ hx mZ;have T:=S.rt.t m hm;rw[e] at T;refine zFk _ _ _ 0 fun k hk hlt=>z5k.2 ?_;have hg:hasB ((0+k:Nat):Int) (ln x.Guests)=true:=zy.2 ⟨by omega,by unfold ln;omega⟩
 have:=T _ hg;rw[show ix x.Guests ((0+k:Nat):Int) gZ=x.Guests[k] by rw[show ((0+k:Nat):Int)=(k:Int) by omega];exact zjF hk gZ] at this
 exact this
def cU (u:List Int)(q:Int):Nat:=u.countP fun z=>ieq z q
theorem zS3:∀(l:List Slot) (u:List Int),(∀s∈l,SOk s)->(∀q,0<=q->(l.countP fun s=>ieq s.Page q)+cU u q<=1)->∃v,spS l u=some v/\∀q,0<=q->cU v q=(l.countP fun s=>ieq s.Page q)+cU u q
 | [],u,_,_=>⟨u,rfl,fun q _=>by simp⟩
 | s :: l,u,hs,hc=>by
  have hl:∀x∈l,SOk x:=fun x hx=>hs x (qY _ hx);unfold spS
  by_cases e:s.Page = -1
  .rw [zbh.2 e,cond_true];obtain ⟨v,h1,h2⟩:=zS3 l u hl fun q hq=>by
    have:=hc q hq;rw[zid,if_neg (by omega)] at this
    exact this
   exact ⟨v,h1,fun q hq=>by rw[h2 q hq,zid,if_neg (by omega)];rfl⟩
  .have hp:=(hs s jI).pos e;rw[zbJ.2 e,cond_false];have h0:=hc s.Page hp.1;rw[zid,if_pos rfl]at h0;have hu:u.any (fun z=>ieq z s.Page)=false:=by
    rw[<- vE,kO]
    rintro ⟨z,hz,hzs⟩
    have:0<cU u s.Page:=uX.2 ⟨z,hz,hzs⟩;omega
   rw[hu,cond_false];have hcu:∀q,cU (ap u [s.Page]) q=cU u q+if s.Page=q then 1 else 0:=fun q=>by
    unfold cU ap;rw[List.countP_append,uR,List.countP_nil]
    by_cases eq:s.Page=q
    .rw [if_pos eq,if_pos (zbh.2 eq)]
    .rw [if_neg eq,if_neg (by rw[zbh];exact eq)]
   obtain ⟨v,h1,h2⟩:=zS3 l (ap u [s.Page]) hl fun q hq=>by
    have:=hc q hq;rw[zid] at this;rw[hcu];omega
   exact ⟨v,h1,fun q hq=>by rw[h2 q hq,hcu,zid];omega⟩
theorem z0o:∀(l:List Mon) (u:List Int),(∀x∈l,∀s∈x.Outer,SOk s)->(∀q,0<=q->zd6 l q+cU u q<=1)->spM l u=true
 | [],_,_,_=>rfl
 | x :: l,u,hs,hc=>by
  have hcc:∀q,zd6 (x :: l) q=(x.Outer.countP fun s=>ieq s.Page q)+zd6 l q:=fun q=>rfl;obtain ⟨v,h1,h2⟩:=zS3 x.Outer u (hs x jI) fun q hq=>by
   have:=hc q hq;rw[hcc] at this;omega
  unfold spM;rw[h1];exact z0o l v (fun y hy=>hs y (qY _ hy)) fun q hq=>by
   have:=hc q hq;rw[hcc] at this;rw[h2 q hq];omega
theorem z0G {h:Host}(H:HOk h):zrl h=true:=by
 rw[z0H];refine z0o _ _ (fun x hx=>(H.mons x hx).sl) fun q hq=>?_;have:=H.uq q hq;simpa [cU] using this
theorem zZ4 {h:Host}(S:Safe h):zoU h=true:=by
 unfold zoU;rw[zhL.2 S.ok,cond_true,z0G S.ok,cond_true,z0q S,cond_true,show zjw h h.Buffer=true from qL.2 S.rt.e1,cond_true]
 exact qL.2 S.rt.e2
structure Clear (h:Host) (m p:Int):Prop where
 d:ix (ix h.Mons m mZ).Dirty p false=false
 s:(ix (ix h.Mons m mZ).Outer p sZ).Page≠-1->(ix (ix h.Mons m mZ).Outer p sZ).Rights=1/\(∀e∈h.Buffer,e.Host≠(ix (ix h.Mons m mZ).Outer p sZ).Page)/\(∀e∈h.IoBuffer,e.Host≠(ix (ix h.Mons m mZ).Outer p sZ).Page) /\
  ∀g i,hasB g (ln (ix h.Mons m mZ).Guests)=true->hasB i (ln (ix (ix h.Mons m mZ).Guests g gZ).Live)=true->(ix (ix (ix h.Mons m mZ).Guests g gZ).Live i sZ).Page=p->ix (ix (ix h.Mons m mZ).Tables g kZ).Known i false=false
def Bl (b:List Entry):Prop:=∀e∈b,e.Host≠-1
structure Bf (h:Host):Prop where
 b:Bl h.Buffer
 io:Bl h.IoBuffer
def zfF (x y:List Int):Bool:=pc (x=y)
def zf7 (_ _:List Int):Bool:=true
def zwA:Run:=rF2 (dS .int) (dS .int) fun b c=>(zfF b c,[aB (zf7 b c)])
def zzZ (N:Nat)(a0 a1:List Int):OA:=
 (cond (ine (ln a0) (ln a1)) oF (iter (σ:=(Int×((List Int)×((List Int)×Unit)))) N (fun r3 s4=>(cond (ilt s4.1 (ln s4.2.1)) (oN (inb s4.1 (ln s4.2.1)) (oN (inb s4.1 (ln s4.2.2.1)) (cond (ine (ix s4.2.1 s4.1 0) (ix s4.2.2.1 s4.1 0)) oF (r3 ((zG .i64 s4.1 1),(s4.2.1,(s4.2.2.1,()))))))) oT)) (0,(a0,(a1,())))))
def zMZ:FuncId->Nat->Option Tmpl:=zo [(67,0,{ n:=26,tm:=[(0,.sl 0 []),(1,.sl 1 []),(5,ti)],lo:=[],ro:=[(0,.int,false),(1,.int,false)] })]
theorem zL5 (a0 a1:List Int)(hb:zbE big [aS .int a0,aS .int a1])(hc:zfF a0 a1=true):∃N,zzZ N a0 a1=some [aB (zf7 a0 a1)]:=by
 have:=zD.1 hc;subst this;have hl:=(len0 hb);refine ⟨a0.length+1,?_⟩;unfold zzZ oN;rw[zcL];refine zkl a0 z7D _ _ hl (fun i hi rec=>?_) (fun rec=>?_) (jX _)
 .simp only [zbo hi,zS hi,zbc hi,zou,zcL,zd7,zdO,cT,cF,jR,jV]
 .simp only [zbg,cF,zf7]
theorem zF1:vF 67 zwA:=hF2 zdJ zbe zn zu zMZ zL5
def zgU (x y:List Bool):Bool:=pc (x=y)
def zhr (_ _:List Bool):Bool:=true
def zt9:Run:=rF2 (dS .bool) (dS .bool) fun b c=>(zgU b c,[aB (zhr b c)])
def zyE (N:Nat)(a0 a1:lB):OA:=
 (cond (ine (ln a0) (ln a1)) oF (iter (σ:=(Int×(lB×(lB×Unit)))) N (fun r3 s4=>(cond (ilt s4.1 (ln s4.2.1)) (oN (inb s4.1 (ln s4.2.1)) (oN (inb s4.1 (ln s4.2.2.1)) (cond (nB (zje (ix s4.2.1 s4.1 false) (ix s4.2.2.1 s4.1 false))) oF (r3 ((zG .i64 s4.1 1),(s4.2.1,(s4.2.2.1,()))))))) oT)) (0,(a0,(a1,())))))
def zKB:FuncId->Nat->Option Tmpl:=zo [(163,0,{ n:=26,tm:=[(0,.sl 0 []),(1,.sl 1 []),(5,ti)],lo:=[],ro:=[(0,.bool,false),(1,.bool,false)] })]
theorem zJt (a0 a1:List Bool)(hb:zbE big [aS .bool a0,aS .bool a1])(hc:zgU a0 a1=true):∃N,zyE N a0 a1=some [aB (zhr a0 a1)]:=by
 have:=zD.1 hc;subst this;have hl:=(len0 hb);refine ⟨a0.length+1,?_⟩;unfold zyE oN nB;rw[zcL];refine zkl a0 z6V _ _ hl (fun i hi rec=>?_) (fun rec=>?_) (jX _)
 .simp only [zbo hi,zS hi,zbc hi,zou,zcL,zd7,zdO,cT,cF,jR,jV]
 .simp only [zbg,cF,zhr]
theorem zC7:vF 163 zt9:=hF2 zdJ zbe zn zu zKB zJt
def zeo (x y:List Slot):Bool:=pc (x=y)
def zeC (_ _:List Slot):Bool:=true
def zug:Run:=rF2 (dS .slot) (dS .slot) fun b c=>(zeo b c,[aB (zeC b c)])
def zyI (N:Nat)(a0 a1:lS):OA:=
 (cond (ine (ln a0) (ln a1)) oF (iter (σ:=(Int×(lS×(lS×Unit)))) N (fun r3 s4=>let y1:=(ix s4.2.1 s4.1 zK);let y0:=(ix s4.2.2.1 s4.1 zK); (cond (ilt s4.1 (ln s4.2.1)) (oN (inb s4.1 (ln s4.2.1)) (oN (inb s4.1 (ln s4.2.2.1)) (cond (nB (cond (ieq y1.Page y0.Page) (ieq y1.Rights y0.Rights) false)) oF (r3 ((zG .i64 s4.1 1),(s4.2.1,(s4.2.2.1,()))))))) oT)) (0,(a0,(a1,())))))
def zKE:FuncId->Nat->Option Tmpl:=zo [(162,0,{ n:=26,tm:=[(0,.sl 0 []),(1,.sl 1 []),(5,ti)],lo:=[],ro:=[(0,.slot,false),(1,.slot,false)] })]
theorem zJx (a0 a1:List Slot)(hb:zbE big [aS .slot a0,aS .slot a1])(hc:zeo a0 a1=true):∃N,zyI N a0 a1=some [aB (zeC a0 a1)]:=by
 have:=zD.1 hc;subst this;have hl:=(len0 hb);refine ⟨a0.length+1,?_⟩;unfold zyI oN nB
 conv=>zeta
 rw[zcL];refine zkl a0 zK _ _ hl (fun i hi rec=>?_) (fun rec=>?_) (jX _)
 .simp only [zbo hi,zS hi,zbc hi,zou,zcL,zd7,zdO,cT,cF,jR,jV]
 .simp only [zbg,cF,zeC]
theorem zDb:vF 162 zug:=hF2 zdJ zbe zn zu zKE zJx
def zhP (x y:List Entry):Bool:=pc (x=y)
def zhO (_ _:List Entry):Bool:=true
def zsH:Run:=rF2 (dS .entry) (dS .entry) fun b c=>(zhP b c,[aB (zhO b c)])
def zvG (N:Nat)(a0 a1:lE):OA:=
 (cond (ine (ln a0) (ln a1)) oF (iter (σ:=(Int×(lE×(lE×Unit)))) N (fun r3 s4=>let y1:=(ix s4.2.1 s4.1 zdL);let y0:=(ix s4.2.2.1 s4.1 zdL); (cond (ilt s4.1 (ln s4.2.1)) (oN (inb s4.1 (ln s4.2.1)) (oN (inb s4.1 (ln s4.2.2.1)) (cond (nB (cond (ieq y1.Tag y0.Tag) (cond (ieq y1.Page y0.Page) (cond (ieq y1.Host y0.Host) (ieq y1.Rights y0.Rights) false) false) false)) oF (r3 ((zG .i64 s4.1 1),(s4.2.1,(s4.2.2.1,()))))))) oT)) (0,(a0,(a1,())))))
def zG9:FuncId->Nat->Option Tmpl:=zo [(39,0,{ n:=26,tm:=[(0,.sl 0 []),(1,.sl 1 []),(5,ti)],lo:=[],ro:=[(0,.entry,false),(1,.entry,false)] })]
theorem zGC (a0 a1:List Entry)(hb:zbE big [aS .entry a0,aS .entry a1])(hc:zhP a0 a1=true):∃N,zvG N a0 a1=some [aB (zhO a0 a1)]:=by
 have:=zD.1 hc;subst this;have hl:=(len0 hb);refine ⟨a0.length+1,?_⟩;unfold zvG oN nB
 conv=>zeta
 rw[zcL];refine zkl a0 zdL _ _ hl (fun i hi rec=>?_) (fun rec=>?_) (jX _)
 .simp only [zbo hi,zS hi,zbc hi,zou,zcL,zd7,zdO,cT,cF,jR,jV]
 .simp only [zbg,cF,zhO]
theorem zAO:vF 39 zsH:=hF2 zdJ zbe zn zu zG9 zGC
def zm8 (x y:List Ins):Bool:=pc (x=y)
def zm7 (_ _:List Ins):Bool:=true
def zwz:Run:=rF2 (dS .ins) (dS .ins) fun b c=>(zm8 b c,[aB (zm7 b c)])
def zzY (N:Nat)(a0 a1:lI):OA:=
 (cond (ine (ln a0) (ln a1)) oF (iter (σ:=(Int×(lI×(lI×Unit)))) N (fun r3 s4=>let y1:=(ix s4.2.1 s4.1 zuY);let y0:=(ix s4.2.2.1 s4.1 zuY); (cond (ilt s4.1 (ln s4.2.1)) (oN (inb s4.1 (ln s4.2.1)) (oN (inb s4.1 (ln s4.2.2.1)) (cond (nB (cond (ieq y1.Op y0.Op) (ieq y1.X y0.X) false)) oF (r3 ((zG .i64 s4.1 1),(s4.2.1,(s4.2.2.1,()))))))) oT)) (0,(a0,(a1,())))))
def zMY:FuncId->Nat->Option Tmpl:=zo [(177,0,{ n:=26,tm:=[(0,.sl 0 []),(1,.sl 1 []),(5,ti)],lo:=[],ro:=[(0,.ins,false),(1,.ins,false)] })]
theorem zL4 (a0 a1:List Ins)(hb:zbE big [aS .ins a0,aS .ins a1])(hc:zm8 a0 a1=true):∃N,zzY N a0 a1=some [aB (zm7 a0 a1)]:=by
 have:=zD.1 hc;subst this;have hl:=(len0 hb);refine ⟨a0.length+1,?_⟩;unfold zzY oN nB
 conv=>zeta
 rw[zcL];refine zkl a0 zuY _ _ hl (fun i hi rec=>?_) (fun rec=>?_) (jX _)
 .simp only [zbo hi,zS hi,zbc hi,zou,zcL,zd7,zdO,cT,cF,jR,jV]
 .simp only [zbg,cF,zm7]
theorem zF0:vF 177 zwz:=hF2 zdJ zbe zn zu zMY zL4
def zYQ:zO:=[(67,zwA),(163,zt9),(162,zug),(39,zsH),(177,zwz)]++zlU
theorem ztD:zF zYQ:=zh zF1 (zh zC7 (zh zDb (zh zAO (zh zF0 zdJ))))
def zgV (x y:List (List Int)):Bool:=pc (x=y)
def zhs (_ _:List (List Int)):Bool:=true
def zuf:Run:=rF2 (dS (.sl .int)) (dS (.sl .int)) fun b c=>(zgV b c,[aB (zhs b c)])
def zyH (N:Nat)(a0:lM)(a1:lM):OA:=
 (cond (ine (ln a0) (ln a1)) oF (iter (σ:=(Int×(lM×(lM×Unit)))) N (fun r3 s4=>(cond (ilt s4.1 (ln s4.2.1)) (oN (inb s4.1 (ln s4.2.1)) (oN (inb s4.1 (ln s4.2.2.1)) (oN (zfF (ix s4.2.1 s4.1 []) (ix s4.2.2.1 s4.1 [])) (cond (nB (zf7 (ix s4.2.1 s4.1 []) (ix s4.2.2.1 s4.1 []))) oF (r3 ((zG .i64 s4.1 1),(s4.2.1,(s4.2.2.1,())))))))) oT)) (0,(a0,(a1,())))))
def zKD:FuncId->Nat->Option Tmpl:=zo [(37,0,{ n:=27,tm:=[(0,.sl 0 []),(1,.sl 1 []),(5,ti)],lo:=[],ro:=[(0,(.sl .int),false),(1,(.sl .int),false)] })]
theorem zJw (a0:List (List Int))(a1:List (List Int))(hb:zbE big [aS (.sl .int) a0,aS (.sl .int) a1])(hc:zgV a0 a1=true):∃N,zyH N a0 a1=some [aB (zhs a0 a1)]:=by
 have:=zD.1 hc;subst this;have hl:=(len0 hb);refine ⟨a0.length+1,?_⟩;unfold zyH oN nB;rw[zcL];refine zkl a0 (Ty.dflt (.sl .int)) _ _ hl (fun i hi rec=>?_) (fun rec=>?_) (jX _)
 .simp only [zbo hi,zS hi,zbc hi,zfF,zf7,zou,zcL,zd7,zdO,cT,cF,jR,jV]
 .simp only [zbg,cF,zhs]
theorem zDa:vF 37 zuf:=hF2 ztD zbe zn zu zKD zJw
def zna (x y:Kept):Bool:=pc (x=y)
def zm9 (_ _:Kept):Bool:=true
def zwB:Run:=rF2 (dT .kept) (dT .kept) fun b c=>(zna b c,[aB (zm9 b c)])
def zz0 (N:Nat)(a0 a1:Kept):OA:=
 (oN (zgU a0.Known a1.Known) (cond (zhr a0.Known a1.Known) (oN (zeo a0.Slots a1.Slots) (some [(aB (zeC a0.Slots a1.Slots))])) oF))
theorem zL6 (a0 a1:Kept)(hc:zna a0 a1=true):∃N,zz0 N a0 a1=some [aB (zm9 a0 a1)]:=by
 have:=zD.1 hc;subst this;refine ⟨0,?_⟩;simp only[zz0,zgU,zhr,zeo,zeC,zou,zcL,zd7,zdO,cT,cF,jR,jV,zm9]
theorem zF2:vF 222 zwB:=kF2 ztD zbe zn zu (zo []) zL6
def zlF (x y:Guest):Bool:=pc (x=y)
def zlf (_ _:Guest):Bool:=true
def zua:Run:=rF2 (dT .guest) (dT .guest) fun b c=>(zlF b c,[aB (zlf b c)])
def zyF (N:Nat)(a0 a1:Guest):OA:=
 (oN (zm8 a0.Prog a1.Prog) (cond (zm7 a0.Prog a1.Prog) (cond (ieq a0.A a1.A) (cond (ieq a0.Pc a1.Pc) (oN (zeo a0.Written a1.Written) (cond (zeC a0.Written a1.Written) (oN (zeo a0.Live a1.Live) (cond (zeC a0.Live a1.Live) (cond (cond (ieq a0.Ctl.Traps a1.Ctl.Traps) (cond (ieq a0.Ctl.Post a1.Ctl.Post) (zje a0.Ctl.Open a1.Ctl.Open) false) false) (cond (ieq a0.Pending a1.Pending) (cond (cond (ieq a0.Exit.Kind a1.Exit.Kind) (cond (ieq a0.Exit.Page a1.Exit.Page) (cond (zje a0.Exit.Write a1.Exit.Write) (ieq a0.Exit.N a1.Exit.N) false) false) false) (cond (zje a0.Halted a1.Halted) (oN (zfF a0.Seen a1.Seen) (some [(aB (zf7 a0.Seen a1.Seen))])) oF) oF) oF) oF) oF)) oF)) oF) oF) oF))
theorem zJu (a0 a1:Guest)(hc:zlF a0 a1=true):∃N,zyF N a0 a1=some [aB (zlf a0 a1)]:=by
 have:=zD.1 hc;subst this;refine ⟨0,?_⟩;simp only[zyF,zm8,zm7,zeo,zeC,zfF,zf7,zou,zcL,zd7,zdO,cT,cF,jR,jV,zlf]
theorem zC8:vF 135 zua:=kF2 ztD zbe zn zu (zo []) zJu
def zYR:zO:=[(37,zuf),(222,zwB),(135,zua)]++zYQ
theorem zAA:zF zYR:=zh zDa (zh zF2 (zh zC8 ztD))
def zlG (x y:List Kept):Bool:=pc (x=y)
def zlg (_ _:List Kept):Bool:=true
def zue:Run:=rF2 (dS .kept) (dS .kept) fun b c=>(zlG b c,[aB (zlg b c)])
def zyG (N:Nat)(a0 a1:lK):OA:=
 (cond (ine (ln a0) (ln a1)) oF (iter (σ:=(Int×(lK×(lK×Unit)))) N (fun r3 s4=>let y1:=(ix s4.2.1 s4.1 zcK);let y0:=(ix s4.2.2.1 s4.1 zcK); (cond (ilt s4.1 (ln s4.2.1)) (oN (inb s4.1 (ln s4.2.1)) (oN (inb s4.1 (ln s4.2.2.1)) (oN (zna y1 y0) (cond (nB (zm9 y1 y0)) oF (r3 ((zG .i64 s4.1 1),(s4.2.1,(s4.2.2.1,())))))))) oT)) (0,(a0,(a1,())))))
def zKC:FuncId->Nat->Option Tmpl:=zo [(164,0,{ n:=27,tm:=[(0,.sl 0 []),(1,.sl 1 []),(5,ti)],lo:=[],ro:=[(0,.kept,false),(1,.kept,false)] })]
theorem zJv (a0 a1:List Kept)(hb:zbE big [aS .kept a0,aS .kept a1])(hc:zlG a0 a1=true):∃N,zyG N a0 a1=some [aB (zlg a0 a1)]:=by
 have:=zD.1 hc;subst this;have hl:=(len0 hb);refine ⟨a0.length+1,?_⟩;unfold zyG oN nB
 conv=>zeta
 rw[zcL];refine zkl a0 zcK _ _ hl (fun i hi rec=>?_) (fun rec=>?_) (jX _)
 .simp only [zbo hi,zS hi,zbc hi,zna,zm9,zou,zcL,zd7,zdO,cT,cF,jR,jV]
 .simp only [zbg,cF,zlg]
theorem zC9:vF 164 zue:=hF2 zAA zbe zn zu zKC zJv
def zkt (x y:List Guest):Bool:=pc (x=y)
def zjH (_ _:List Guest):Bool:=true
def zsI:Run:=rF2 (dS .guest) (dS .guest) fun b c=>(zkt b c,[aB (zjH b c)])
def zvH (N:Nat)(a0 a1:lG):OA:=
 (cond (ine (ln a0) (ln a1)) oF (iter (σ:=(Int×(lG×(lG×Unit)))) N (fun r3 s4=>let y1:=(ix s4.2.1 s4.1 zx);let y0:=(ix s4.2.2.1 s4.1 zx); (cond (ilt s4.1 (ln s4.2.1)) (oN (inb s4.1 (ln s4.2.1)) (oN (inb s4.1 (ln s4.2.2.1)) (oN (zlF y1 y0) (cond (nB (zlf y1 y0)) oF (r3 ((zG .i64 s4.1 1),(s4.2.1,(s4.2.2.1,())))))))) oT)) (0,(a0,(a1,())))))
def zHa:FuncId->Nat->Option Tmpl:=zo [(66,0,{ n:=27,tm:=[(0,.sl 0 []),(1,.sl 1 []),(5,ti)],lo:=[],ro:=[(0,.guest,false),(1,.guest,false)] })]
theorem zGD (a0 a1:List Guest)(hb:zbE big [aS .guest a0,aS .guest a1])(hc:zkt a0 a1=true):∃N,zvH N a0 a1=some [aB (zjH a0 a1)]:=by
 have:=zD.1 hc;subst this;have hl:=(len0 hb);refine ⟨a0.length+1,?_⟩;unfold zvH oN nB
 conv=>zeta
 rw[zcL];refine zkl a0 zx _ _ hl (fun i hi rec=>?_) (fun rec=>?_) (jX _)
 .simp only [zbo hi,zS hi,zbc hi,zlF,zlf,zou,zcL,zd7,zdO,cT,cF,jR,jV]
 .simp only [zbg,cF,zjH]
theorem zAP:vF 66 zsI:=hF2 zAA zbe zn zu zHa zGD
def zYS:zO:=[(164,zue),(66,zsI)]++zYR
theorem zNT:zF zYS:=zh zC9 (zh zAP zAA)
def zpd (x y:Mon):Bool:=pc (x=y)
def zp5 (_ _:Mon):Bool:=true
def zy0:Run:=rF2 (dT .mon) (dT .mon) fun b c=>(zpd b c,[aB (zp5 b c)])
def zDV (N:Nat)(a0 a1:Mon):OA:=
 (oN (zeo a0.Outer a1.Outer) (cond (zeC a0.Outer a1.Outer) (oN (zgV a0.Out a1.Out) (cond (zhs a0.Out a1.Out) (oN (zgU a0.Dirty a1.Dirty) (cond (zhr a0.Dirty a1.Dirty) (oN (zkt a0.Guests a1.Guests) (cond (zjH a0.Guests a1.Guests) (oN (zfF a0.Outs a1.Outs) (cond (zf7 a0.Outs a1.Outs) (cond (ieq a0.Pending a1.Pending) (cond (ieq a0.Traps a1.Traps) (oN (zlG a0.Tables a1.Tables) (cond (zlg a0.Tables a1.Tables) (some [(aB (ieq a0.Own a1.Own))]) oF)) oF) oF) oF)) oF)) oF)) oF)) oF))
theorem zO7 (a0 a1:Mon)(hc:zpd a0 a1=true):∃N,zDV N a0 a1=some [aB (zp5 a0 a1)]:=by
 have:=zD.1 hc;subst this;refine ⟨0,?_⟩;simp only[zDV,zeo,zeC,zgV,zhs,zgU,zhr,zkt,zjH,zfF,zf7,zlG,zlg,zou,zcL,zd7,zdO,cT,cF,jR,jV,zp5]
theorem zIF:vF 105 zy0:=kF2 zNT zbe zn zu (zo []) zO7
def zYT:zO:=[(105,zy0)]++zYS
theorem zNU:zF zYT:=zh zIF zNT
def znc (x y:List Mon):Bool:=pc (x=y)
def znb (_ _:List Mon):Bool:=true
def zwC:Run:=rF2 (dS .mon) (dS .mon) fun b c=>(znc b c,[aB (znb b c)])
def zz1 (N:Nat)(a0 a1:lN):OA:=
 (cond (ine (ln a0) (ln a1)) oF (iter (σ:=(Int×(lN×(lN×Unit)))) N (fun r3 s4=>let y1:=(ix s4.2.1 s4.1 zf);let y0:=(ix s4.2.2.1 s4.1 zf); (cond (ilt s4.1 (ln s4.2.1)) (oN (inb s4.1 (ln s4.2.1)) (oN (inb s4.1 (ln s4.2.2.1)) (oN (zpd y1 y0) (cond (nB (zp5 y1 y0)) oF (r3 ((zG .i64 s4.1 1),(s4.2.1,(s4.2.2.1,())))))))) oT)) (0,(a0,(a1,())))))
def zM0:FuncId->Nat->Option Tmpl:=zo [(38,0,{ n:=27,tm:=[(0,.sl 0 []),(1,.sl 1 []),(5,ti)],lo:=[],ro:=[(0,.mon,false),(1,.mon,false)] })]
theorem zL7 (a0 a1:List Mon)(hb:zbE big [aS .mon a0,aS .mon a1])(hc:znc a0 a1=true):∃N,zz1 N a0 a1=some [aB (znb a0 a1)]:=by
 have:=zD.1 hc;subst this;have hl:=(len0 hb);refine ⟨a0.length+1,?_⟩;unfold zz1 oN nB
 conv=>zeta
 rw[zcL];refine zkl a0 zf _ _ hl (fun i hi rec=>?_) (fun rec=>?_) (jX _)
 .simp only [zbo hi,zS hi,zbc hi,zpd,zp5,zou,zcL,zd7,zdO,cT,cF,jR,jV]
 .simp only [zbg,cF,znb]
theorem zF3:vF 38 zwC:=hF2 zNU zbe zn zu zM0 zL7
def z6p:zO:=[(38,zwC)]++zYT
theorem zYU:zF z6p:=zh zF3 zNU
def zsx (x y:Host):Bool:=pc (x=y)
def zrh (_ _:Host):Bool:=true
def zwy:Run:=rF2 dH dH fun b c=>(zsx b c,[aB (zrh b c)])
def zzX (N:Nat)(a0 a1:Host):OA:=
 (oN (zgV a0.Memory a1.Memory) (cond (zhs a0.Memory a1.Memory) (oN (znc a0.Mons a1.Mons) (cond (znb a0.Mons a1.Mons) (oN (zhP a0.Buffer a1.Buffer) (cond (zhO a0.Buffer a1.Buffer) (oN (zhP a0.IoBuffer a1.IoBuffer) (some [(aB (zhO a0.IoBuffer a1.IoBuffer))])) oF)) oF)) oF))
theorem zL3 (a0 a1:Host)(hc:zsx a0 a1=true):∃N,zzX N a0 a1=some [aB (zrh a0 a1)]:=by
 have:=zD.1 hc;subst this;refine ⟨0,?_⟩;simp only[zzX,zgV,zhs,znc,znb,zhP,zhO,zou,zcL,zd7,zdO,cT,cF,jR,jV,zrh]
theorem zFZ:vF 12 zwy:=kF2 zYU zbe zn zu (zo []) zL3
def Ends {ρ:Type}(G:ρ->Prop)(o:Option ρ):Prop:=∃a,o=some a/\G a
section
variable {ρ:Type} {G:ρ->Prop}
theorem zbn {c:Bool}{a b:Option ρ}(h:c=true)(k:Ends G a):Ends G (cond c a b):=by rw[h];exact k
theorem zvW {c:Bool}{a b:Option ρ}(h:c=false)(k:Ends G b):Ends G (cond c a b):=by rw[h];exact k
theorem zde {c:Bool}{a b:Option ρ}(h1:c=true->Ends G a)(h2:c=false->Ends G b):Ends G (cond c a b):=by
 cases c
 .exact h2 rfl
 .exact h1 rfl
theorem zlX {x:Option ρ}{f:Option ρ->Option ρ}(h:Ends G x)(k:∀t,Ends G t->Ends G (f t)):Ends G (share x f):=k x h
theorem zAC {a:ρ}(h:G a):Ends G (some a):=⟨a,rfl,h⟩
theorem zvV {σ:Type}{F:(σ->Option ρ)->σ->Option ρ}(I:Nat->σ->Prop)(h:∀n s rec,I n s->(∀k s',k<n->I k s'->Ends G (rec s'))->Ends G (F rec s)):∀(N n:Nat) (s:σ),I n s->n<N->Ends G (iter N F s)
 | 0,n,s,_,hn=>absurd hn (Nat.not_lt_zero n)
 | N+1,n,s,hI,hn=>h n s (iter N F) hI fun k s' hk hs=>zvV I h N k s' hs (by omega)
theorem z4Y {G:Ans->Prop}{o:OA}{r:Ans}(h:Ends (fun a=>a=r) o):o=some r:=by
 obtain ⟨a,h1,h2⟩:=h;rw[h1,h2]
end
instance:Inhabited Cur:=⟨⟨[],0,0⟩⟩
instance:Inhabited Ins:=⟨⟨0,0⟩⟩
instance:Inhabited GAct:=⟨⟨0,0,0,0,0,0⟩⟩
instance:Inhabited Ctl:=⟨⟨0,0,false⟩⟩
instance:Inhabited Host:=⟨⟨[],[],[],[]⟩⟩
def zdv (c:Cur):Prop:=0<=c.i/\c.b.length<=big
theorem zkk {T:Type}(av:T->AV){good:T->Prop}{b:List Int}{x y:Int}{v:T}(h:0<=x)(g:good v):Ends (fun a=>∃s v0,a=(AV.agg (zbF s) :: [av v0])/\(s.b=b/\0<=s.i)/\good v0) (some (AV.agg [.s .u8 b,.i .i64 x,.i .i64 y] :: [av v])) :=
 ⟨_,rfl,⟨b,x,y⟩,v,rfl,⟨rfl,h⟩,g⟩
def zk5 (N:Nat)(c:Cur)  : OA :=
 let y0:=(zG .i64 (zk4 .i64 c.h 6364136223846793005) 1442695040888963407);let y1:=(wand .i64 (z2C .i64 (zCs .i64 y0 33) (zCs .i64 y0 45)) 255); (oN (ile 0 33) (oN (ile 0 45) (cond (ilt c.i (ln c.b)) (oN (inb c.i (ln c.b)) (some [(.agg [(.s .u8 c.b),(.i .i64 (zG .i64 c.i 1)),(.i .i64 y0)]),(aI (wand .i64 (zG .i64 y1 (wcv .i64 (ix c.b c.i 0))) 255))])) (some [(.agg [(.s .u8 c.b),(.i .i64 c.i),(.i .i64 y0)]),(aI y1)]))))
theorem zSl (N:Nat)(c:Cur)  : zf5 (cQ zlU zl4 zMK zka) (zo []) N 12 88 [false,true,true] (zbF c) []=zk5 N c:=by kernel_rfl
def zjY (c:Cur)(s:Cur)(v0:Int):Prop:=(∃N,zk5 N c=some (AV.agg (zbF s) :: [aI v0]))/\(s.b=c.b/\0<=s.i)/\(0<=v0/\v0<=255)
def zc5 (c:Cur)  : Bool:=pc (∃s v0,zjY c s v0)
def zpG (c:Cur)  : Cur×Int:=Classical.epsilon fun r=>zjY c r.1 r.2
def zci (c:Cur)  : Cur:=bif zc5 c then (zpG c).1 else ⟨[],0,0⟩
def ze6 (c:Cur)  : Int:=(zpG c).2
theorem zjc {c:Cur}(h:zc5 c=true):zjY c (zci c) (ze6 c):=by
 obtain ⟨s,v0,h2⟩:=zD.1 h;have h3:zjY c (zpG c).1 (zpG c).2:=Classical.epsilon_spec (p:=fun r=>zjY c r.1 r.2) ⟨(s,v0),h2⟩;unfold zci;rw[h,cT];exact h3
theorem zlw (c:Cur)  : 0<=(zci c).i:=by
 unfold zci;cases h:zc5 c with
 | false=>exact jY 0
 | true =>
  have:=(zjc h).2.1.2;unfold zci at this
  rwa [h] at this
theorem zUJ (c:Cur)(h:∃N,Ends (fun a=>∃s v0,a=(AV.agg (zbF s) :: [aI v0])/\(s.b=c.b/\0<=s.i)/\(0<=v0/\v0<=255)) (zk5 N c)):zc5 c=true:=by
 obtain ⟨N,a,e,s,v0,rfl,h⟩:=h;exact zbi ⟨s,v0,⟨N,e⟩,h⟩
def zov:List CV->List AV->Option (Bool×List CV×List AV)
 | [.s .u8 b,.i .i64 c,.i .i64 d],[]=>some ((zc5 (⟨b,c,d⟩:Cur)),zbF (zci (⟨b,c,d⟩:Cur)),[aI (ze6 (⟨b,c,d⟩:Cur))])
 | _,_=>none
theorem zPv (c:Cur)(hb:zbE big (.agg (zbF c) :: []))(hc:zc5 c=true):∃N,zk5 N c=some (.agg (zbF (zci c)) :: [aI (ze6 c)]):=by
 exact (zjc hc).1
theorem zIZ:zdy Tryz.prog 88 [false,true,true] zov:=by
 refine zb2 (zcW zdJ zbe zn zu) (zd9 (by kernel_rfl)) ?_
 intro cs avs cs' rs hl hr h;have hb:=zcs hr;unfold zov at h;split at h
 .obtain ⟨hc,rfl,rfl⟩:=zcJ h;obtain ⟨N,hN⟩:=zPv _ (by exact hb) hc
  exact ⟨rfl,_,N,12,(zSl N _ ).trans hN⟩
 .cases h
theorem zOx {x m:Int}(h0:0<=m)(h1:m<9223372036854775808):0<=wand .i64 x m/\wand .i64 x m<=m:=by
 have hm:(BitVec.ofInt 64 m).toNat=m.toNat:=by
  rw[BitVec.toNat_ofInt];omega
 have hle:(BitVec.ofInt 64 x &&& BitVec.ofInt 64 m).toNat<=m.toNat:=by
  rw[BitVec.toNat_and,hm];exact Nat.and_le_right
 unfold wand
 show 0<=IntKind.wrap .i64 ((BitVec.ofInt 64 x &&& BitVec.ofInt 64 m).toNat:Int)/\IntKind.wrap .i64 ((BitVec.ofInt 64 x &&& BitVec.ofInt 64 m).toNat:Int)<=m
 rw[zrX (by omega) (by omega)]
 omega
@[simp] theorem zIa {c:Cur}(h:zdv c):zc5 c=true:=by
 refine zUJ c ⟨0,?_⟩;unfold zk5 oN
 conv=>zeta
 refine zbn rfl (zbn rfl (zde (fun h0=>zbn (qI ⟨h.1,qE h0⟩) (zkk aI ?_ (zOx (by omega) (by omega)))) (fun _=>zkk aI h.1 (zOx (by omega) (by omega)))))
 have h1:c.i<ln c.b:=qE h0;have h2:=h.2;have h3:=h.1;rw[zrG]at h2;unfold ln at h1;rw[zmH (by omega) (by omega)]
 omega
def zXr:zdi:=[(88,([false,true,true],zov))]++zMK
theorem zSv:zcr zXr:=zd8 zn (by
 intro x hx;simp only[qG,qW,or_false]at hx;rcases hx with rfl
 .exact zIZ)
theorem zFH {b:List Int}{i h:Int}(h0:0<=i)(hb:b.length<=big):zdv ⟨b,i,h⟩:=⟨h0,hb⟩
theorem zrY {x n:Int}(h0:0<=x)(hn:0<n):0<=zfM x n/\zfM x n<n:=by
 unfold zfM;exact ⟨Int.tmod_nonneg _ h0,Int.tmod_lt_of_pos _ hn⟩
def zjm (N:Nat)(c:Cur)(a0:Int):OA:=
 let y2:=({ (zci c) with b:=c.b }:Cur);let y0:=({ (zci y2) with b:=c.b }:Cur);let y1:=({ (zci y0) with b:=c.b }:Cur); (cond (ile a0 0) (some [(.agg [(.s .u8 c.b),(.i .i64 c.i),(.i .i64 c.h)]),(aI 0)]) (cond (ile a0 256) (oN (zc5 c) (oN (ine a0 0) (some [(.agg [(.s .u8 c.b),(.i .i64 (zci c).i),(.i .i64 (zci c).h)]),(aI (zfM (ze6 c) a0))]))) (oN (zc5 c) (oN (zc5 y2) (oN (zc5 y0) (oN (zc5 y1) (oN (ine a0 0) (some [(.agg [(.s .u8 c.b),(.i .i64 (zci y1).i),(.i .i64 (zci y1).h)]),(aI (zfM (zG .i64 (zG .i64 (zG .i64 (zk4 .i64 (ze6 c) 16777216) (zk4 .i64 (ze6 y2) 65536)) (zk4 .i64 (ze6 y0) 256)) (ze6 y1)) a0))]))))))))
theorem zPM (N:Nat)(c:Cur)(a0:Int):zf5 (cQ zlU zl4 zXr zka) (zo []) N 12 33 [false,true,true] (zbF c) [aI a0]=zjm N c a0:=by kernel_rfl
def ziQ (c:Cur)(a0:Int)(s:Cur)(v0:Int):Prop:=(∃N,zjm N c a0=some (AV.agg (zbF s) :: [aI v0]))/\(s.b=c.b/\0<=s.i)/\((0<a0->0<=v0/\v0<a0))
def zX (c:Cur)(a0:Int):Bool:=pc (∃s v0,ziQ c a0 s v0)
def znU (c:Cur)(a0:Int):Cur×Int:=Classical.epsilon fun r=>ziQ c a0 r.1 r.2
def zC (c:Cur)(a0:Int):Cur:=bif zX c a0 then (znU c a0).1 else ⟨[],0,0⟩
def zY (c:Cur)(a0:Int):Int:=(znU c a0).2
theorem znT {c:Cur}{a0:Int}(h:zX c a0=true):ziQ c a0 (zC c a0) (zY c a0):=by
 obtain ⟨s,v0,h2⟩:=zD.1 h;have h3:ziQ c a0 (znU c a0).1 (znU c a0).2:=Classical.epsilon_spec (p:=fun r=>ziQ c a0 r.1 r.2) ⟨(s,v0),h2⟩;unfold zC;rw[h,cT];exact h3
theorem zcv (c:Cur)(a0:Int):0<=(zC c a0).i:=by
 unfold zC;cases h:zX c a0 with
 | false=>exact jY 0
 | true =>
  have:=(znT h).2.1.2;unfold zC at this
  rwa [h] at this
theorem zSO (c:Cur)(a0:Int)(h:∃N,Ends (fun a=>∃s v0,a=(AV.agg (zbF s) :: [aI v0])/\(s.b=c.b/\0<=s.i)/\((0<a0->0<=v0/\v0<a0))) (zjm N c a0)):zX c a0=true:=by
 obtain ⟨N,a,e,s,v0,rfl,h⟩:=h;exact zbi ⟨s,v0,⟨N,e⟩,h⟩
def znh:List CV->List AV->Option (Bool×List CV×List AV)
 | [.s .u8 b,.i .i64 c,.i .i64 d],[.one (.i .i64 e)]=>some ((zX (⟨b,c,d⟩:Cur) e),zbF (zC (⟨b,c,d⟩:Cur) e),[aI (zY (⟨b,c,d⟩:Cur) e)])
 | _,_=>none
theorem zMs (c:Cur)(a0:Int)(hb:zbE big (.agg (zbF c) :: [aI a0]))(hc:zX c a0=true):∃N,zjm N c a0=some (.agg (zbF (zC c a0)) :: [aI (zY c a0)]):=by
 exact (znT hc).1
theorem zGm:zdy Tryz.prog 33 [false,true,true] znh:=by
 refine zb2 (zcW zdJ zbe zSv zu) (zd9 (by kernel_rfl)) ?_
 intro cs avs cs' rs hl hr h;have hb:=zcs hr;unfold znh at h;split at h
 .obtain ⟨hc,rfl,rfl⟩:=zcJ h;obtain ⟨N,hN⟩:=zMs _ _ (by exact hb) hc
  exact ⟨rfl,_,N,12,(zPM N _ _ ).trans hN⟩
 .cases h
theorem zhH {c:Cur}(h:zdv c)(n:Int):zX c n=true:=by
 refine zSO c n ⟨0,?_⟩;have k1:=zIa h;have k2:zc5 { zci c with b:=c.b }=true:=zIa (zFH (zlw _) h.2);have k3:zc5 { zci { zci c with b:=c.b } with b:=c.b }=true:=zIa (zFH (zlw _) h.2);have k4:zc5 { zci { zci { zci c with b:=c.b } with b:=c.b } with b:=c.b }=true:=zIa (zFH (zlw _) h.2);have b1:=(zjc k1).2.2;have b2:=(zjc k2).2.2;have b3:=(zjc k3).2.2;have b4:=(zjc k4).2.2;unfold zjm oN
 conv=>zeta
 refine zde (fun h0=>zkk aI h.1 (fun hn=>absurd (qE h0) (by omega))) (fun h0=>?_)
 have hn:¬ n<=0:=jT h0;have hz:ine n 0=true:=by simp[ine];omega
 refine zde (fun h1=>zbn k1 (zbn hz (zkk aI (zlw _) (fun hp=>zrY b1.1 hp)))) (fun h1=>?_);refine zbn k1 (zbn k2 (zbn k3 (zbn k4 (zbn hz (zkk aI (zlw _) (fun hp=>zrY ?_ hp))))));generalize ze6 c=x1 at b1;generalize ze6 _=x2 at b2;generalize ze6 _=x3 at b3;generalize ze6 _=x4 at b4;have w1:zk4 .i64 x1 16777216=x1*16777216:=zrX (by omega) (by omega)
 have w2:zk4 .i64 x2 65536=x2*65536:=zrX (by omega) (by omega)
 have w3:zk4 .i64 x3 256=x3*256:=zrX (by omega) (by omega)
 rw[w1,w2,w3,zmH (x:=x1*16777216) (by omega) (by omega),zmH (x:=x1*16777216+x2*65536) (by omega) (by omega),zmH (by omega) (by omega)]
 omega
def zP9:zdi:=[(33,([false,true,true],znh))]++zXr
theorem zGV:zcr zP9:=zd8 zSv (by
 intro x hx;simp only[qG,qW,or_false]at hx;rcases hx with rfl
 .exact zGm)
def zk6 (N:Nat)(c:Cur)(a0:Int):OA:=
 (oN (zX c a0) (some [(.agg [(.s .u8 c.b),(.i .i64 (zC c a0).i),(.i .i64 (zC c a0).h)]),(aB (ieq (zY c a0) 0))]))
theorem zSm (N:Nat)(c:Cur)(a0:Int):zf5 (cQ zlU zl4 zP9 zka) (zo []) N 12 147 [false,true,true] (zbF c) [aI a0]=zk6 N c a0:=by kernel_rfl
def zj0 (c:Cur)(a0:Int)(s:Cur)(v0:Bool):Prop:=(∃N,zk6 N c a0=some (AV.agg (zbF s) :: [aB v0]))/\(s.b=c.b/\0<=s.i)/\(True)
def zei (c:Cur)(a0:Int):Bool:=pc (∃s v0,zj0 c a0 s v0)
def zpH (c:Cur)(a0:Int):Cur×Bool:=Classical.epsilon fun r=>zj0 c a0 r.1 r.2
def zcp (c:Cur)(a0:Int):Cur:=bif zei c a0 then (zpH c a0).1 else ⟨[],0,0⟩
def zjZ (c:Cur)(a0:Int):Bool:=(zpH c a0).2
theorem zE9 {c:Cur}{a0:Int}(h:zei c a0=true):zj0 c a0 (zcp c a0) (zjZ c a0):=by
 obtain ⟨s,v0,h2⟩:=zD.1 h;have h3:zj0 c a0 (zpH c a0).1 (zpH c a0).2:=Classical.epsilon_spec (p:=fun r=>zj0 c a0 r.1 r.2) ⟨(s,v0),h2⟩;unfold zcp;rw[h,cT];exact h3
theorem zhy (c:Cur)(a0:Int):0<=(zcp c a0).i:=by
 unfold zcp;cases h:zei c a0 with
 | false=>exact jY 0
 | true =>
  have:=(zE9 h).2.1.2;unfold zcp at this
  rwa [h] at this
theorem zUK (c:Cur)(a0:Int)(h:∃N,Ends (fun a=>∃s v0,a=(AV.agg (zbF s) :: [aB v0])/\(s.b=c.b/\0<=s.i)/\(True)) (zk6 N c a0)):zei c a0=true:=by
 obtain ⟨N,a,e,s,v0,rfl,h⟩:=h;exact zbi ⟨s,v0,⟨N,e⟩,h⟩
def zow:List CV->List AV->Option (Bool×List CV×List AV)
 | [.s .u8 b,.i .i64 c,.i .i64 d],[.one (.i .i64 e)]=>some ((zei (⟨b,c,d⟩:Cur) e),zbF (zcp (⟨b,c,d⟩:Cur) e),[aB (zjZ (⟨b,c,d⟩:Cur) e)])
 | _,_=>none
theorem zPw (c:Cur)(a0:Int)(hb:zbE big (.agg (zbF c) :: [aI a0]))(hc:zei c a0=true):∃N,zk6 N c a0=some (.agg (zbF (zcp c a0)) :: [aB (zjZ c a0)]):=by
 exact (zE9 hc).1
theorem zI0:zdy Tryz.prog 147 [false,true,true] zow:=by
 refine zb2 (zcW zdJ zbe zGV zu) (zd9 (by kernel_rfl)) ?_
 intro cs avs cs' rs hl hr h;have hb:=zcs hr;unfold zow at h;split at h
 .obtain ⟨hc,rfl,rfl⟩:=zcJ h;obtain ⟨N,hN⟩:=zPw _ _ (by exact hb) hc
  exact ⟨rfl,_,N,12,(zSm N _ _ ).trans hN⟩
 .cases h
theorem zSt {c:Cur}(h:zdv c)(n:Int):zei c n=true:=by
 refine zUK c n ⟨0,?_⟩;unfold zk6 oN;exact zbn (zhH h _) (zkk aB (zcv _ _) trivial)
def zhF (N:Nat)(c:Cur)(a0:List Int):OA:=
 (oN (zX c (ln a0)) (oN (inb (zY c (ln a0)) (ln a0)) (some [(.agg [(.s .u8 c.b),(.i .i64 (zC c (ln a0)).i),(.i .i64 (zC c (ln a0)).h)]),(aI (ix a0 (zY c (ln a0)) 0))])))
theorem zJP (N:Nat)(c:Cur)(a0:List Int):zf5 (cQ zlU zl4 zP9 zka) (zo []) N 12 204 [false,true,true] (zbF c) [aS .int a0]=zhF N c a0:=by kernel_rfl
def zhg (c:Cur)(a0:List Int)(s:Cur)(v0:Int):Prop:=(∃N,zhF N c a0=some (AV.agg (zbF s) :: [aI v0]))/\(s.b=c.b/\0<=s.i)/\((0<a0.length->v0∈a0))
def zdm (c:Cur)(a0:List Int):Bool:=pc (∃s v0,zhg c a0 s v0)
def zkS (c:Cur)(a0:List Int):Cur×Int:=Classical.epsilon fun r=>zhg c a0 r.1 r.2
def zbS (c:Cur)(a0:List Int):Cur:=bif zdm c a0 then (zkS c a0).1 else ⟨[],0,0⟩
def zeS (c:Cur)(a0:List Int):Int:=(zkS c a0).2
theorem zoQ {c:Cur}{a0:List Int}(h:zdm c a0=true):zhg c a0 (zbS c a0) (zeS c a0):=by
 obtain ⟨s,v0,h2⟩:=zD.1 h;have h3:zhg c a0 (zkS c a0).1 (zkS c a0).2:=Classical.epsilon_spec (p:=fun r=>zhg c a0 r.1 r.2) ⟨(s,v0),h2⟩;unfold zbS;rw[h,cT];exact h3
theorem zkR (c:Cur)(a0:List Int):0<=(zbS c a0).i:=by
 unfold zbS;cases h:zdm c a0 with
 | false=>exact jY 0
 | true =>
  have:=(zoQ h).2.1.2;unfold zbS at this
  rwa [h] at this
theorem zMQ (c:Cur)(a0:List Int)(h:∃N,Ends (fun a=>∃s v0,a=(AV.agg (zbF s) :: [aI v0])/\(s.b=c.b/\0<=s.i)/\((0<a0.length->v0∈a0))) (zhF N c a0)):zdm c a0=true:=by
 obtain ⟨N,a,e,s,v0,rfl,h⟩:=h;exact zbi ⟨s,v0,⟨N,e⟩,h⟩
def zk1:List CV->List AV->Option (Bool×List CV×List AV)
 | [.s .u8 b,.i .i64 c,.i .i64 d],[.one (.s .int e)]=>some ((zdm (⟨b,c,d⟩:Cur) e),zbF (zbS (⟨b,c,d⟩:Cur) e),[aI (zeS (⟨b,c,d⟩:Cur) e)])
 | _,_=>none
theorem zGN (c:Cur)(a0:List Int)(hb:zbE big (.agg (zbF c) :: [aS .int a0]))(hc:zdm c a0=true):∃N,zhF N c a0=some (.agg (zbF (zbS c a0)) :: [aI (zeS c a0)]):=by
 exact (zoQ hc).1
theorem zAW:zdy Tryz.prog 204 [false,true,true] zk1:=by
 refine zb2 (zcW zdJ zbe zGV zu) (zd9 (by kernel_rfl)) ?_
 intro cs avs cs' rs hl hr h;have hb:=zcs hr;unfold zk1 at h;split at h
 .obtain ⟨hc,rfl,rfl⟩:=zcJ h;obtain ⟨N,hN⟩:=zGN _ _ (by exact hb) hc
  exact ⟨rfl,_,N,12,(zJP N _ _ ).trans hN⟩
 .cases h
theorem zJ0 {c:Cur}(h:zdv c){l:List Int}(hl:l≠[]):zdm c l=true:=by
 refine zMQ c l ⟨0,?_⟩;have hp:0<ln l:=by unfold ln;have:=kN.2 hl;omega
 have g:=(znT (zhH h (ln l))).2.2 hp;have hb:inb (zY c (ln l)) (ln l)=true:=qI ⟨g.1,g.2⟩;unfold zhF oN;exact zbn (zhH h _) (zbn hb (zkk aI (zcv _ _) (fun _=>zbv hb 0)))
def zXs:zdi:=[(147,([false,true,true],zow)),(204,([false,true,true],zk1))]++zP9
theorem zSw:zcr zXs:=zd8 zGV (by
 intro x hx;simp only[qG,qW,or_false]at hx;rcases hx with rfl|rfl
 .exact zI0
 .exact zAW)
theorem zfa {c:Cur}{i k:Int}(h:zdv c)(h0:0<=i):zdv ⟨c.b,i,k⟩:=⟨h0,h.2⟩
theorem z5B {c:Cur}(h:zdv c){l:List Int}(hl:l≠[]):zeS c l∈l:=(zoQ (zJ0 h hl)).2.2 (kN.2 hl)
theorem zlT {c:Cur}(h:zdv c){n:Int}(hn:0<n):0<=zY c n/\zY c n<n:=(znT (zhH h n)).2.2 hn
theorem zJg {o x:Int}(h:(o=1\/o=2\/o=5\/o=6)/\0<=x/\x<=99\/(o=3\/o=4)/\0<=x/\x<=15\/o=8/\0<=x/\x<=11):zdC ⟨o,x⟩=true:=by
 have w:∀{a b:Int},a<=x->x<=b->win x a b=true:=fun h1 h2=>by simp only[win,ige,ile,qD,qU];exact ⟨h1,h2⟩
 rcases h with ⟨h|h|h|h,h1,h2⟩|⟨h|h,h1,h2⟩|⟨h,h1,h2⟩<;>subst h<;>exact w h1 h2
def zmL (N:Nat)(c:Cur)  : OA :=
 let y1:=(zeS c [1,2,3,3,3,4,4,4,5,6,8]);let y0:=({ (zbS c [1,2,3,3,3,4,4,4,5,6,8]) with b:=c.b }:Cur); (share (oN (zX y0 16) (some [(.agg [(.s .u8 c.b),(.i .i64 (zC y0 16).i),(.i .i64 (zC y0 16).h)]),(.agg [(.i .i64 y1),(.i .i64 (zY y0 16))])])) (fun t1=>(share (cond (ieq y1 8) (oN (zX y0 4) (some [(.agg [(.s .u8 c.b),(.i .i64 (zC y0 4).i),(.i .i64 (zC y0 4).h)]),(.agg [(.i .i64 y1),(.i .i64 (zY y0 4))])])) (oN (zX y0 100) (some [(.agg [(.s .u8 c.b),(.i .i64 (zC y0 100).i),(.i .i64 (zC y0 100).h)]),(.agg [(.i .i64 y1),(.i .i64 (zY y0 100))])]))) (fun t0=>(oN (zdm c [1,2,3,3,3,4,4,4,5,6,8]) (cond (ieq y1 3) (cond (ieq y1 3) t1 t0) (cond (ieq y1 4) t1 t0)))))))
theorem zUz (N:Nat)(c:Cur)  : zf5 (cQ zlU zl4 zXs zka) (zo []) N 12 274 [false,true,true] (zbF c) []=zmL N c:=by kernel_rfl
def zlx (c:Cur)(s:Cur)(v0:Ins):Prop:=(∃N,zmL N c=some (AV.agg (zbF s) :: [aT .ins v0]))/\(s.b=c.b/\0<=s.i)/\(zdC v0=true)
def zhh (c:Cur)  : Bool:=pc (∃s v0,zlx c s v0)
def zrA (c:Cur)  : Cur×Ins:=Classical.epsilon fun r=>zlx c r.1 r.2
def zga (c:Cur)  : Cur:=bif zhh c then (zrA c).1 else ⟨[],0,0⟩
def zs9 (c:Cur)  : Ins:=(zrA c).2
theorem zyk {c:Cur}(h:zhh c=true):zlx c (zga c) (zs9 c):=by
 obtain ⟨s,v0,h2⟩:=zD.1 h;have h3:zlx c (zrA c).1 (zrA c).2:=Classical.epsilon_spec (p:=fun r=>zlx c r.1 r.2) ⟨(s,v0),h2⟩;unfold zga;rw[h,cT];exact h3
theorem zXG (c:Cur)  : 0<=(zga c).i:=by
 unfold zga;cases h:zhh c with
 | false=>exact jY 0
 | true =>
  have:=(zyk h).2.1.2;unfold zga at this
  rwa [h] at this
theorem zXF (c:Cur)(h:∃N,Ends (fun a=>∃s v0,a=(AV.agg (zbF s) :: [aT .ins v0])/\(s.b=c.b/\0<=s.i)/\(zdC v0=true)) (zmL N c)):zhh c=true:=by
 obtain ⟨N,a,e,s,v0,rfl,h⟩:=h;exact zbi ⟨s,v0,⟨N,e⟩,h⟩
def zqB:List CV->List AV->Option (Bool×List CV×List AV)
 | [.s .u8 b,.i .i64 c,.i .i64 d],[]=>some ((zhh (⟨b,c,d⟩:Cur)),zbF (zga (⟨b,c,d⟩:Cur)),[aT .ins (zs9 (⟨b,c,d⟩:Cur))])
 | _,_=>none
theorem zR5 (c:Cur)(hb:zbE big (.agg (zbF c) :: []))(hc:zhh c=true):∃N,zmL N c=some (.agg (zbF (zga c)) :: [aT .ins (zs9 c)]):=by
 exact (zyk hc).1
theorem zLH:zdy Tryz.prog 274 [false,true,true] zqB:=by
 refine zb2 (zcW zdJ zbe zSw zu) (zd9 (by kernel_rfl)) ?_
 intro cs avs cs' rs hl hr h;have hb:=zcs hr;unfold zqB at h;split at h
 .obtain ⟨hc,rfl,rfl⟩:=zcJ h;obtain ⟨N,hN⟩:=zR5 _ (by exact hb) hc
  exact ⟨rfl,_,N,12,(zUz N _ ).trans hN⟩
 .cases h
theorem z3P {c:Cur}(h:zdv c):zhh c=true:=by
 refine zXF c ⟨0,?_⟩;have hk:([1,2,3,3,3,4,4,4,5,6,8]:List Int)≠[]:=by simp
 have hm:=z5B h hk;have h1:zdv { zbS c [1,2,3,3,3,4,4,4,5,6,8] with b:=c.b }:=zfa h (zkR _ _);have b16:=zlT h1 (n:=16) (by omega)
 have b4:=zlT h1 (n:=4) (by omega)
 have b100:=zlT h1 (n:=100) (by omega)
 unfold zmL oN
 conv=>zeta
 generalize zeS c [1,2,3,3,3,4,4,4,5,6,8]=o at hm;simp only[qG,qW,or_false]at hm;have no:∀{n:Int},ieq o n=false->o≠n:=fun h e=>by subst e;simp[ieq]at h
 have ye:∀{n:Int},ieq o n=true->o=n:=fun h=>by simpa [ieq] using h
 have L:∀(n:Int),0<n->(zdC ⟨o,zY { zbS c [1,2,3,3,3,4,4,4,5,6,8] with b:=c.b } n⟩=true)->Ends (fun a=>∃s v0,a=(AV.agg (zbF s) :: [aT .ins v0])/\(s.b=c.b/\0<=s.i)/\zdC v0=true)
  (cond (zX { zbS c [1,2,3,3,3,4,4,4,5,6,8] with b:=c.b } n) (some (AV.agg [.s .u8 c.b,.i .i64 (zC { zbS c [1,2,3,3,3,4,4,4,5,6,8] with b:=c.b } n).i,.i .i64 (zC { zbS c [1,2,3,3,3,4,4,4,5,6,8] with b:=c.b } n).h] :: [.agg [.i .i64 o,.i .i64 (zY { zbS c [1,2,3,3,3,4,4,4,5,6,8] with b:=c.b } n)]])) none) :=
  fun n hn hi=>zbn (zhH h1 n) (zkk (aT .ins) (v:=⟨o,zY _ n⟩) (zcv _ _) hi)
 refine zbn (zJ0 h hk) (zde (fun h3=>zde (fun _=>L 16 (by omega) (zJg ?_)) (fun h4=>absurd (ye h3) (no h4))) (fun h3=>zde (fun h4=>L 16 (by omega) (zJg ?_)) (fun h4=>zde (fun h8=>L 4 (by omega) (zJg ?_)) (fun h8=>L 100 (by omega) (zJg ?_)))))
 .have:=ye h3;omega
 .have:=ye h4;omega
 .have:=ye h8;omega
 .have:=no h3;have:=no h4;have:=no h8;omega
def zXt:zdi:=[(274,([false,true,true],zqB))]++zXs
theorem zSx:zcr zXt:=zd8 zSw (by
 intro x hx;simp only[qG,qW,or_false]at hx;rcases hx with rfl
 .exact zLH)
theorem zmI {x y:Int}(h0:0<=x)(h1:x<=1000000)(h2:0<=y)(h3:y<=1000000):zG .i64 x y=x+y:=zmH (by omega) (by omega)
theorem zvX {α:Type}{l:List α}(h:ln l<=1000000):few (ln l)=true:=qI ⟨by unfold ln;omega,by omega⟩
theorem zpe {α:Type}(l:List α)(x:α):ln (ap l [x])=ln l+1:=by simp[ln,ap]
def zk7 (N:Nat)(c:Cur)  : OA :=
 (iter (σ:=(Int×(Int×(Int×(lI×((List Int)×Unit)))))) N (fun r2 s3=>let y3:=s3.2.2.2.1;let y2:=s3.2.2.2.2.1;let y1:=(⟨y2,s3.2.1,s3.2.2.1⟩:Cur);let y0:=({ (zC y1 7) with b:=y2 }:Cur); (oN (zX y1 7) (cond (ilt s3.1 (zG .i64 2 (zY y1 7))) (oN (zhh y0) (oN (few (ln (ap y3 [(zs9 y0)]))) (r2 ((zG .i64 s3.1 1),((zga y0).i,((zga y0).h,((ap y3 [(zs9 y0)]),(y2,())))))))) (oN (zei y0 3) (cond (zjZ y0 3) (oN (few (ln (ap y3 [(⟨7,0⟩:Ins)]))) (some [(.agg [(.s .u8 y2),(.i .i64 (zcp y0 3).i),(.i .i64 (zcp y0 3).h)]),(aS .ins (ap y3 [(⟨7,0⟩:Ins)]))])) (oN (few (ln (ap y3 [(⟨8,0⟩:Ins)]))) (some [(.agg [(.s .u8 y2),(.i .i64 (zcp y0 3).i),(.i .i64 (zcp y0 3).h)]),(aS .ins (ap y3 [(⟨8,0⟩:Ins)]))]))))))) (0,(c.i,(c.h,([],(c.b,()))))))
def zPY:FuncId->Nat->Option Tmpl:=zo [(203,0,{ n:=29,tm:=[(0,.lp 0 0),(3,.sl 0 []),(4,ti)],lo:=[(0,[.sl 1 [],ti,ti])],ro:=[(0,.ins,true),(1,.u8,false)] })]
theorem zSn (N:Nat)(c:Cur)  : zf5 (cQ zlU zl4 zXt zka) zPY N 12 203 [false,true,true] (zbF c) []=zk7 N c:=by kernel_rfl
def zj1 (c:Cur)(s:Cur)(v0:List Ins):Prop:=(∃N,zk7 N c=some (AV.agg (zbF s) :: [aS .ins v0]))/\(s.b=c.b/\0<=s.i)/\(zcT v0=true)
def zfu (c:Cur)  : Bool:=pc (∃s v0,zj1 c s v0)
def zpI (c:Cur)  : Cur×List Ins:=Classical.epsilon fun r=>zj1 c r.1 r.2
def zeD (c:Cur)  : Cur:=bif zfu c then (zpI c).1 else ⟨[],0,0⟩
def zmy (c:Cur)  : List Ins:=(zpI c).2
theorem zvt {c:Cur}(h:zfu c=true):zj1 c (zeD c) (zmy c):=by
 obtain ⟨s,v0,h2⟩:=zD.1 h;have h3:zj1 c (zpI c).1 (zpI c).2:=Classical.epsilon_spec (p:=fun r=>zj1 c r.1 r.2) ⟨(s,v0),h2⟩;unfold zeD;rw[h,cT];exact h3
theorem zUM (c:Cur)  : 0<=(zeD c).i:=by
 unfold zeD;cases h:zfu c with
 | false=>exact jY 0
 | true =>
  have:=(zvt h).2.1.2;unfold zeD at this
  rwa [h] at this
theorem zUL (c:Cur)(h:∃N,Ends (fun a=>∃s v0,a=(AV.agg (zbF s) :: [aS .ins v0])/\(s.b=c.b/\0<=s.i)/\(zcT v0=true)) (zk7 N c)):zfu c=true:=by
 obtain ⟨N,a,e,s,v0,rfl,h⟩:=h;exact zbi ⟨s,v0,⟨N,e⟩,h⟩
def zox:List CV->List AV->Option (Bool×List CV×List AV)
 | [.s .u8 b,.i .i64 c,.i .i64 d],[]=>some ((zfu (⟨b,c,d⟩:Cur)),zbF (zeD (⟨b,c,d⟩:Cur)),[aS .ins (zmy (⟨b,c,d⟩:Cur))])
 | _,_=>none
theorem zPz (c:Cur)(hb:zbE big (.agg (zbF c) :: []))(hc:zfu c=true):∃N,zk7 N c=some (.agg (zbF (zeD c)) :: [aS .ins (zmy c)]):=by
 exact (zvt hc).1
theorem zI3:zdy Tryz.prog 203 [false,true,true] zox:=by
 refine zb2 (zcW zdJ zbe zSx zu) (zd9 (by kernel_rfl)) ?_
 intro cs avs cs' rs hl hr h;have hb:=zcs hr;unfold zox at h;split at h
 .obtain ⟨hc,rfl,rfl⟩:=zcJ h;obtain ⟨N,hN⟩:=zPz _ (by exact hb) hc
  exact ⟨rfl,_,N,12,(zSn N _ ).trans hN⟩
 .cases h
theorem zZU {c:Cur}(h:zdv c):zfu c=true:=by
 refine zUL c ⟨9,?_⟩;unfold zk7 oN
 conv=>zeta
 refine zvV (fun n s=>s.1+(n:Int)=8/\0<=s.1/\0<=s.2.1/\(∀x∈s.2.2.2.1,zdC x=true)/\ln s.2.2.2.1=s.1/\s.2.2.2.2.1=c.b) ?_ 9 8 _ ⟨rfl,jY 0,h.1,by simp,rfl,rfl⟩ (by omega)
 rintro n ⟨t,i,k,l,b,u⟩ rec ⟨h1,h2,h3,h4,h5,h6⟩ hrec
 dsimp only at h1 h2 h3 h4 h5 h6 ⊢
 subst h6;have hcur:zdv ⟨c.b,i,k⟩:=zfa h h3;have hx:=zlT hcur (n:=7) (by omega)
 have hw:=zmI (x:=2) (by omega) (by omega) hx.1 (by omega)
 have h7:zdv { zC ⟨c.b,i,k⟩ 7 with b:=c.b }:=zfa h (zcv _ _);have fin:∀(y:Ins),zdC y=true->2<=t->zcT (ap l [y])=true:=by
  intro y hy ht;unfold zcT;rw[zpe,h5];have:(ap l [y]).all zdC=true:=by
   simp only[ap,List.all_append,uC,List.all_nil,Bool.and_true,qD];exact ⟨qL.2 h4,hy⟩
  rw[this,cT];simp only[win,ige,ile,qD,qU];omega
 refine zbn (zhH hcur 7) (zde (fun hc=>?_) (fun hc=>?_))
 .have hlt:t<zG .i64 2 (zY ⟨c.b,i,k⟩ 7):=qE hc;rw[hw]at hlt;refine zbn (z3P h7) (zbn (zvX (by rw[zpe];omega)) (hrec (n-1) _ (by omega) ⟨?_,?_,zXG _,?_,?_,rfl⟩))
  .show zG .i64 t 1+_=8
   rw[zmI h2 (by omega) (by omega) (by omega)];omega
  .show 0<=zG .i64 t 1
   rw[zmI h2 (by omega) (by omega) (by omega)];omega
  .intro x hx;rcases jK.1 hx with hx|hx
   .exact h4 x hx
   .rw [qF.1 hx];exact (zyk (z3P h7)).2.2
  .show ln (ap l [_])=zG .i64 t 1
   rw[zpe,zmI h2 (by omega) (by omega) (by omega)];omega
 .have hge:¬ t<zG .i64 2 (zY ⟨c.b,i,k⟩ 7):=jT hc;rw[hw]at hge;refine zbn (zSt h7 3) (zde (fun _=>zbn (zvX (by rw[zpe];omega)) (zkk (aS .ins) (zhy _ _) (fin _ rfl (by omega)))) (fun _=>zbn (zvX (by rw[zpe];omega)) (zkk (aS .ins) (zhy _ _) (fin _ rfl (by omega)))))
def zXu:zdi:=[(203,([false,true,true],zox))]++zXt
theorem zSy:zcr zXu:=zd8 zSx (by
 intro x hx;simp only[qG,qW,or_false]at hx;rcases hx with rfl
 .exact zI3)
theorem zTA {α:Type}{c:Cur}(h:zdv c){P:α->Prop}{fc:Cur->Bool}{fs:Cur->Cur}{fv:Cur->α}(hf:∀{c:Cur},zdv c->fc c=true)(hp:∀c,0<=(fs c).i)(hg:∀{c:Cur},zdv c->P (fv c)){G:Ans->Prop}{R:Cur->List α->Ans}(hG:∀s l,s.b=c.b->0<=s.i->1<=l.length->l.length<=2->(∀x∈l,P x)->G (R s l)){F:(Int×Int×Int×List α×List Int×Unit->OA)->Int×Int×Int×List α×List Int×Unit->OA}(hF:∀rec t i k l,F rec (t,i,k,l,c.b,())=bif zX ⟨c.b,i,k⟩ 2 then (bif ilt t (zG .i64 1 (zY ⟨c.b,i,k⟩ 2)) then (bif fc { zC ⟨c.b,i,k⟩ 2 with b:=c.b } then (bif few (ln (ap l [fv { zC ⟨c.b,i,k⟩ 2 with b:=c.b }])) then
        rec (zG .i64 t 1,(fs { zC ⟨c.b,i,k⟩ 2 with b:=c.b }).i,(fs { zC ⟨c.b,i,k⟩ 2 with b:=c.b }).h,ap l [fv { zC ⟨c.b,i,k⟩ 2 with b:=c.b }],c.b,()) else none) else none) else some (R ⟨c.b,(zC ⟨c.b,i,k⟩ 2).i,(zC ⟨c.b,i,k⟩ 2).h⟩ l)) else none) :
 Ends G (iter 3 F (0,c.i,c.h,[],c.b,())):=by
 refine zvV (fun n s=>s.1+(n:Int)=2/\0<=s.1/\0<=s.2.1/\(∀x∈s.2.2.2.1,P x)/\ln s.2.2.2.1=s.1/\s.2.2.2.2.1=c.b) ?_ 3 2 _ ⟨rfl,jY 0,h.1,by simp,rfl,rfl⟩ (by omega)
 rintro n ⟨t,i,k,l,b,u⟩ rec ⟨h1,h2,h3,h4,h5,h6⟩ hrec
 dsimp only at h1 h2 h3 h4 h5 h6
 subst h6;rw[hF];have hcur:zdv ⟨c.b,i,k⟩:=zfa h h3;have hx:=zlT hcur (n:=2) (by omega)
 have hw:=zmI (x:=1) (by omega) (by omega) hx.1 (by omega)
 have h7:zdv { zC ⟨c.b,i,k⟩ 2 with b:=c.b }:=zfa h (zcv _ _);refine zbn (zhH hcur 2) (zde (fun hc=>?_) (fun hc=>?_))
 .have hlt:t<zG .i64 1 (zY ⟨c.b,i,k⟩ 2):=qE hc;rw[hw]at hlt;have ht:=zmI (y:=1) h2 (by omega) (by omega) (by omega)
  refine zbn (hf h7) (zbn (zvX (by rw[zpe];omega)) (hrec (n-1) _ (by omega) ⟨?_,?_,hp _,?_,?_,rfl⟩))
  .show zG .i64 t 1+_=2
   omega
  .show 0<=zG .i64 t 1
   omega
  .intro x hx;rcases jK.1 hx with hx|hx
   .exact h4 x hx
   .rw [qF.1 hx];exact hg h7
  .show ln (ap l [_])=zG .i64 t 1
   rw[zpe];omega
 .have hge:¬ t<zG .i64 1 (zY ⟨c.b,i,k⟩ 2):=jT hc;rw[hw]at hge;unfold ln at h5;exact zAC (hG _ l rfl (zcv _ _) (by omega) (by omega) h4)
def zjn (N:Nat)(c:Cur)  : OA :=
 (iter (σ:=(Int×(Int×(Int×(lP×((List Int)×Unit)))))) N (fun r2 s3=>let y2:=s3.2.2.2.2.1;let y1:=(⟨y2,s3.2.1,s3.2.2.1⟩:Cur);let y0:=({ (zC y1 2) with b:=y2 }:Cur); (oN (zX y1 2) (cond (ilt s3.1 (zG .i64 1 (zY y1 2))) (oN (zfu y0) (oN (few (ln (ap s3.2.2.2.1 [(zmy y0)]))) (r2 ((zG .i64 s3.1 1),((zeD y0).i,((zeD y0).h,((ap s3.2.2.2.1 [(zmy y0)]),(y2,())))))))) (some [(.agg [(.s .u8 y2),(.i .i64 (zC y1 2).i),(.i .i64 (zC y1 2).h)]),(aS (.sl .ins) s3.2.2.2.1)])))) (0,(c.i,(c.h,([],(c.b,()))))))
def zM7:FuncId->Nat->Option Tmpl:=zo [(146,0,{ n:=19,tm:=[(0,.lp 0 0),(3,.sl 0 []),(4,ti)],lo:=[(0,[.sl 1 [],ti,ti])],ro:=[(0,(.sl .ins),true),(1,.u8,false)] })]
theorem zPN (N:Nat)(c:Cur)  : zf5 (cQ zlU zl4 zXu zka) zM7 N 12 146 [false,true,true] (zbF c) []=zjn N c:=by kernel_rfl
def ziR (c:Cur)(s:Cur)(v0:List (List Ins)):Prop:=(∃N,zjn N c=some (AV.agg (zbF s) :: [aS (.sl .ins) v0]))/\(s.b=c.b/\0<=s.i)/\(1<=v0.length/\v0.length<=2/\∀x∈v0,zcT x=true)
def zeU (c:Cur)  : Bool:=pc (∃s v0,ziR c s v0)
def znW (c:Cur)  : Cur×List (List Ins):=Classical.epsilon fun r=>ziR c r.1 r.2
def zej (c:Cur)  : Cur:=bif zeU c then (znW c).1 else ⟨[],0,0⟩
def zkT (c:Cur)  : List (List Ins):=(znW c).2
theorem zta {c:Cur}(h:zeU c=true):ziR c (zej c) (zkT c):=by
 obtain ⟨s,v0,h2⟩:=zD.1 h;have h3:ziR c (znW c).1 (znW c).2:=Classical.epsilon_spec (p:=fun r=>ziR c r.1 r.2) ⟨(s,v0),h2⟩;unfold zej;rw[h,cT];exact h3
theorem zSQ (c:Cur)  : 0<=(zej c).i:=by
 unfold zej;cases h:zeU c with
 | false=>exact jY 0
 | true =>
  have:=(zta h).2.1.2;unfold zej at this
  rwa [h] at this
theorem zSP (c:Cur)(h:∃N,Ends (fun a=>∃s v0,a=(AV.agg (zbF s) :: [aS (.sl .ins) v0])/\(s.b=c.b/\0<=s.i)/\(1<=v0.length/\v0.length<=2/\∀x∈v0,zcT x=true)) (zjn N c)):zeU c=true:=by
 obtain ⟨N,a,e,s,v0,rfl,h⟩:=h;exact zbi ⟨s,v0,⟨N,e⟩,h⟩
def zni:List CV->List AV->Option (Bool×List CV×List AV)
 | [.s .u8 b,.i .i64 c,.i .i64 d],[]=>some ((zeU (⟨b,c,d⟩:Cur)),zbF (zej (⟨b,c,d⟩:Cur)),[aS (.sl .ins) (zkT (⟨b,c,d⟩:Cur))])
 | _,_=>none
theorem zMt (c:Cur)(hb:zbE big (.agg (zbF c) :: []))(hc:zeU c=true):∃N,zjn N c=some (.agg (zbF (zej c)) :: [aS (.sl .ins) (zkT c)]):=by
 exact (zta hc).1
theorem zGn:zdy Tryz.prog 146 [false,true,true] zni:=by
 refine zb2 (zcW zdJ zbe zSy zu) (zd9 (by kernel_rfl)) ?_
 intro cs avs cs' rs hl hr h;have hb:=zcs hr;unfold zni at h;split at h
 .obtain ⟨hc,rfl,rfl⟩:=zcJ h;obtain ⟨N,hN⟩:=zMt _ (by exact hb) hc
  exact ⟨rfl,_,N,12,(zPN N _ ).trans hN⟩
 .cases h
theorem zVL {c:Cur}(h:zdv c):zeU c=true:=by
 refine zSP c ⟨3,?_⟩;unfold zjn oN
 conv=>zeta
 exact zTA h (P:=fun x=>zcT x=true) (fc:=zfu) (fs:=zeD) (fv:=zmy) (R:=fun s l=>AV.agg (zbF s) :: [aS (.sl .ins) l]) zZU zUM (fun h=>(zvt (zZU h)).2.2) (fun s l hb hi h1 h2 hl=>⟨s,l,rfl,⟨hb,hi⟩,h1,h2,hl⟩) (fun rec t i k l=>rfl)
def zXv:zdi:=[(146,([false,true,true],zni))]++zXu
theorem zSz:zcr zXv:=zd8 zSy (by
 intro x hx;simp only[qG,qW,or_false]at hx;rcases hx with rfl
 .exact zGn)
def zmN (N:Nat)(c:Cur)  : OA :=
 (iter (σ:=(Int×(Int×(Int×(lQ×((List Int)×Unit)))))) N (fun r2 s3=>let y2:=s3.2.2.2.2.1;let y1:=(⟨y2,s3.2.1,s3.2.2.1⟩:Cur);let y0:=({ (zC y1 2) with b:=y2 }:Cur); (oN (zX y1 2) (cond (ilt s3.1 (zG .i64 1 (zY y1 2))) (oN (zeU y0) (oN (few (ln (ap s3.2.2.2.1 [(zkT y0)]))) (r2 ((zG .i64 s3.1 1),((zej y0).i,((zej y0).h,((ap s3.2.2.2.1 [(zkT y0)]),(y2,())))))))) (some [(.agg [(.s .u8 y2),(.i .i64 (zC y1 2).i),(.i .i64 (zC y1 2).h)]),(aS (.sl (.sl .ins)) s3.2.2.2.1)])))) (0,(c.i,(c.h,([],(c.b,()))))))
def zTv:FuncId->Nat->Option Tmpl:=zo [(86,0,{ n:=19,tm:=[(0,.lp 0 0),(3,.sl 0 []),(4,ti)],lo:=[(0,[.sl 1 [],ti,ti])],ro:=[(0,(.sl (.sl .ins)),true),(1,.u8,false)] })]
theorem zUB (N:Nat)(c:Cur)  : zf5 (cQ zlU zl4 zXv zka) zTv N 12 86 [false,true,true] (zbF c) []=zmN N c:=by kernel_rfl
def zlz (c:Cur)(s:Cur)(v0:List (List (List Ins))):Prop:=(∃N,zmN N c=some (AV.agg (zbF s) :: [aS (.sl (.sl .ins)) v0]))/\(s.b=c.b/\0<=s.i)/\(1<=v0.length/\v0.length<=2/\∀p∈v0,1<=p.length/\p.length<=2/\∀x∈p,zcT x=true)
def zhj (c:Cur)  : Bool:=pc (∃s v0,zlz c s v0)
def zrC (c:Cur)  : Cur×List (List (List Ins)):=Classical.epsilon fun r=>zlz c r.1 r.2
def zfw (c:Cur)  : Cur:=bif zhj c then (zrC c).1 else ⟨[],0,0⟩
def zoS (c:Cur)  : List (List (List Ins)):=(zrC c).2
theorem zyl {c:Cur}(h:zhj c=true):zlz c (zfw c) (zoS c):=by
 obtain ⟨s,v0,h2⟩:=zD.1 h;have h3:zlz c (zrC c).1 (zrC c).2:=Classical.epsilon_spec (p:=fun r=>zlz c r.1 r.2) ⟨(s,v0),h2⟩;unfold zfw;rw[h,cT];exact h3
theorem zXK (c:Cur)  : 0<=(zfw c).i:=by
 unfold zfw;cases h:zhj c with
 | false=>exact jY 0
 | true =>
  have:=(zyl h).2.1.2;unfold zfw at this
  rwa [h] at this
theorem zXJ (c:Cur)(h:∃N,Ends (fun a=>∃s v0,a=(AV.agg (zbF s) :: [aS (.sl (.sl .ins)) v0])/\(s.b=c.b/\0<=s.i)/\(1<=v0.length/\v0.length<=2/\∀p∈v0,1<=p.length/\p.length<=2/\∀x∈p,zcT x=true)) (zmN N c)):zhj c=true:=by
 obtain ⟨N,a,e,s,v0,rfl,h⟩:=h;exact zbi ⟨s,v0,⟨N,e⟩,h⟩
def zqD:List CV->List AV->Option (Bool×List CV×List AV)
 | [.s .u8 b,.i .i64 c,.i .i64 d],[]=>some ((zhj (⟨b,c,d⟩:Cur)),zbF (zfw (⟨b,c,d⟩:Cur)),[aS (.sl (.sl .ins)) (zoS (⟨b,c,d⟩:Cur))])
 | _,_=>none
theorem zR7 (c:Cur)(hb:zbE big (.agg (zbF c) :: []))(hc:zhj c=true):∃N,zmN N c=some (.agg (zbF (zfw c)) :: [aS (.sl (.sl .ins)) (zoS c)]):=by
 exact (zyl hc).1
theorem zLJ:zdy Tryz.prog 86 [false,true,true] zqD:=by
 refine zb2 (zcW zdJ zbe zSz zu) (zd9 (by kernel_rfl)) ?_
 intro cs avs cs' rs hl hr h;have hb:=zcs hr;unfold zqD at h;split at h
 .obtain ⟨hc,rfl,rfl⟩:=zcJ h;obtain ⟨N,hN⟩:=zR7 _ (by exact hb) hc
  exact ⟨rfl,_,N,12,(zUB N _ ).trans hN⟩
 .cases h
theorem z2F {c:Cur}(h:zdv c):zhj c=true:=by
 refine zXJ c ⟨3,?_⟩;unfold zmN oN
 conv=>zeta
 exact zTA h (P:=fun p=>1<=p.length/\p.length<=2/\∀x∈p,zcT x=true) (fc:=zeU) (fs:=zej) (fv:=zkT) (R:=fun s l=>AV.agg (zbF s) :: [aS (.sl (.sl .ins)) l]) zVL zSQ (fun h=>(zta (zVL h)).2.2) (fun s l hb hi h1 h2 hl=>⟨s,l,rfl,⟨hb,hi⟩,h1,h2,hl⟩) (fun rec t i k l=>rfl)
def zXw:zdi:=[(86,([false,true,true],zqD))]++zXv
theorem zSA:zcr zXw:=zd8 zSz (by
 intro x hx;simp only[qG,qW,or_false]at hx;rcases hx with rfl
 .exact zLJ)
theorem zCA {ρ:Type}{G:ρ->Prop}{x:Bool}{a b:Option ρ}(k:Ends G a)(h:x=true:=by first
 | exact zhH (by first|assumption|exact zfa (by assumption) (zcv _ _)|exact zfa (by assumption) (zhy _ _)|exact zfa (by assumption) (zkR _ _)) _
 | exact zSt (by first|assumption|exact zfa (by assumption) (zcv _ _)|exact zfa (by assumption) (zhy _ _)) _
 | exact zJ0 (by first|assumption|exact zfa (by assumption) (zcv _ _)) (by simp)):Ends G (cond x a b):=zbn h k
def zmM (N:Nat)(c:Cur)  : OA :=
 let y5:=(zY c 4);let y0:=({ (zC c 4) with b:=c.b }:Cur);let y4:=(zjZ y0 4);let y3:=(zcp y0 4);let y1:=({ y3 with b:=c.b }:Cur);let y2:=({ (zcp y1 2) with b:=c.b }:Cur); (oN (zX c 4) (oN (zei y0 4) (cond (nB y4) (cond (ine y5 2) (oN (zei y1 2) (cond (zjZ y1 2) (oN (zX y2 256) (some [(.agg [(.s .u8 c.b),(.i .i64 (zC y2 256).i),(.i .i64 (zC y2 256).h)]),(.agg [(.i .i64 y5),(.i .i64 (zY y2 256)),(.b (nB y4))])])) (some [(.agg [(.s .u8 c.b),(.i .i64 (zcp y1 2).i),(.i .i64 (zcp y1 2).h)]),(.agg [(.i .i64 y5),(.i .i64 0),(.b (nB y4))])]))) (some [(.agg [(.s .u8 c.b),(.i .i64 y3.i),(.i .i64 y3.h)]),(.agg [(.i .i64 y5),(.i .i64 0),(.b (nB y4))])])) (some [(.agg [(.s .u8 c.b),(.i .i64 y3.i),(.i .i64 y3.h)]),(.agg [(.i .i64 y5),(.i .i64 0),(.b (nB y4))])]))))
theorem zUA (N:Nat)(c:Cur)  : zf5 (cQ zlU zl4 zXw zka) (zo []) N 12 205 [false,true,true] (zbF c) []=zmM N c:=by kernel_rfl
def zly (c:Cur)(s:Cur)(v0:Ctl):Prop:=(∃N,zmM N c=some (AV.agg (zbF s) :: [.agg (zAu v0)]))/\(s.b=c.b/\0<=s.i)/\(True)
def zhi (c:Cur)  : Bool:=pc (∃s v0,zly c s v0)
def zrB (c:Cur)  : Cur×Ctl:=Classical.epsilon fun r=>zly c r.1 r.2
def zeT (c:Cur)  : Cur:=bif zhi c then (zrB c).1 else ⟨[],0,0⟩
def zj2 (c:Cur)  : Ctl:=(zrB c).2
theorem zKc {c:Cur}(h:zhi c=true):zly c (zeT c) (zj2 c):=by
 obtain ⟨s,v0,h2⟩:=zD.1 h;have h3:zly c (zrB c).1 (zrB c).2:=Classical.epsilon_spec (p:=fun r=>zly c r.1 r.2) ⟨(s,v0),h2⟩;unfold zeT;rw[h,cT];exact h3
theorem zXI (c:Cur)  : 0<=(zeT c).i:=by
 unfold zeT;cases h:zhi c with
 | false=>exact jY 0
 | true =>
  have:=(zKc h).2.1.2;unfold zeT at this
  rwa [h] at this
theorem zXH (c:Cur)(h:∃N,Ends (fun a=>∃s v0,a=(AV.agg (zbF s) :: [.agg (zAu v0)])/\(s.b=c.b/\0<=s.i)/\(True)) (zmM N c)):zhi c=true:=by
 obtain ⟨N,a,e,s,v0,rfl,h⟩:=h;exact zbi ⟨s,v0,⟨N,e⟩,h⟩
def zqC:List CV->List AV->Option (Bool×List CV×List AV)
 | [.s .u8 b,.i .i64 c,.i .i64 d],[]=>some ((zhi (⟨b,c,d⟩:Cur)),zbF (zeT (⟨b,c,d⟩:Cur)),[.agg (zAu (zj2 (⟨b,c,d⟩:Cur)))])
 | _,_=>none
theorem zR6 (c:Cur)(hb:zbE big (.agg (zbF c) :: []))(hc:zhi c=true):∃N,zmM N c=some (.agg (zbF (zeT c)) :: [.agg (zAu (zj2 c))]):=by
 exact (zKc hc).1
theorem zLI:zdy Tryz.prog 205 [false,true,true] zqC:=by
 refine zb2 (zcW zdJ zbe zSA zu) (zd9 (by kernel_rfl)) ?_
 intro cs avs cs' rs hl hr h;have hb:=zcs hr;unfold zqC at h;split at h
 .obtain ⟨hc,rfl,rfl⟩:=zcJ h;obtain ⟨N,hN⟩:=zR6 _ (by exact hb) hc
  exact ⟨rfl,_,N,12,(zUA N _ ).trans hN⟩
 .cases h
theorem z7d {c:Cur}(h:zdv c):zhi c=true:=by
 refine zXH c ⟨0,?_⟩;unfold zmM oN nB
 conv=>zeta
 refine zCA (zCA (zde (fun _=>zde (fun _=>zCA (zde (fun _=>zCA (?_)) (fun _=>?_))) (fun _=>?_)) (fun _=>?_)))
 all_goals exact zkk (fun x=>AV.agg (zAu x)) (v:=⟨_,_,_⟩) (by first|exact zcv _ _|exact zhy _ _) trivial
def zXx:zdi:=[(205,([false,true,true],zqC))]++zXw
theorem zGW:zcr zXx:=zd8 zSA (by
 intro x hx;simp only[qG,qW,or_false]at hx;rcases hx with rfl
 .exact zLI)
theorem zdE {ρ:Type}{G:ρ->Prop}{x:Bool}{a b:Option ρ}(k:Ends G a)(h:x=true:=by first
 | exact zhH (by first|assumption|exact zfa (by assumption) (zcv _ _)|exact zfa (by assumption) (zkR _ _)) _
 | exact zJ0 (by first|assumption|exact zfa (by assumption) (zcv _ _)) (by simp)
 | exact z7d (zfa (by assumption) (zcv _ _))):Ends G (cond x a b):=zbn h k
def zmO (N:Nat)(c:Cur)  : OA :=
 let y13:=({ (zC c 2) with b:=c.b }:Cur);let y8:=(zY c 2);let y2:=(zY y13 2);let y1:=({ (zC y13 2) with b:=c.b }:Cur);let y10:=(zC y1 24);let y5:=(zY y1 24);let y0:=({ y10 with b:=c.b }:Cur);let y14:=(zC y0 8);let y12:=({ (zC y0 4) with b:=c.b }:Cur);let y11:=({ y14 with b:=c.b }:Cur);let y9:=({ (zC y0 16) with b:=c.b }:Cur);let y7:=({ (zbS y0 [16,17]) with b:=c.b }:Cur);let y6:=({ (zbS y0 [13,13,14,15]) with b:=c.b }:Cur);let y4:=({ (zC y11 4) with b:=c.b }:Cur);let y3:=({ (zC y12 8) with b:=c.b }:Cur); (share (oN (zdm y0 [13,13,14,15]) (oN (zX y6 8) (some [(.agg [(.s .u8 c.b),(.i .i64 (zC y6 8).i),(.i .i64 (zC y6 8).h)]),(.agg [(.i .i64 (zeS y0 [13,13,14,15])),(.i .i64 y8),(.i .i64 y2),(.i .i64 (zY y6 8)),(.i .i64 0),(.i .i64 0)])]))) (fun t5=>(share (cond (ieq y5 16) (oN (zdm y0 [16,17]) (oN (zX y7 4) (some [(.agg [(.s .u8 c.b),(.i .i64 (zC y7 4).i),(.i .i64 (zC y7 4).h)]),(.agg [(.i .i64 (zeS y0 [16,17])),(.i .i64 y8),(.i .i64 y2),(.i .i64 (zY y7 4)),(.i .i64 0),(.i .i64 0)])]))) (some [(.agg [(.s .u8 c.b),(.i .i64 y10.i),(.i .i64 y10.h)]),(.agg [(.i .i64 1),(.i .i64 y8),(.i .i64 y2),(.i .i64 0),(.i .i64 0),(.i .i64 0)])])) (fun t4=>(share (oN (zX y0 4) (oN (zX y12 8) (oN (zdm y3 [3,3,1,2]) (some [(.agg [(.s .u8 c.b),(.i .i64 (zbS y3 [3,3,1,2]).i),(.i .i64 (zbS y3 [3,3,1,2]).h)]),(.agg [(.i .i64 2),(.i .i64 y8),(.i .i64 y2),(.i .i64 (zY y0 4)),(.i .i64 (zY y12 8)),(.i .i64 (zeS y3 [3,3,1,2]))])])))) (fun t3=>(share (oN (zX y0 4) (some [(.agg [(.s .u8 c.b),(.i .i64 (zC y0 4).i),(.i .i64 (zC y0 4).h)]),(.agg [(.i .i64 3),(.i .i64 y8),(.i .i64 y2),(.i .i64 (zY y0 4)),(.i .i64 0),(.i .i64 0)])])) (fun t2=>(share (cond (ieq y5 7) (oN (zX y0 8) (some [(.agg [(.s .u8 c.b),(.i .i64 y14.i),(.i .i64 y14.h)]),(.agg [(.i .i64 6),(.i .i64 y8),(.i .i64 y2),(.i .i64 (zY y0 8)),(.i .i64 0),(.i .i64 0)])])) (cond (ieq y5 8) (oN (zhi y0) (cond ((zj2 y0).Open) (some [(.agg [(.s .u8 c.b),(.i .i64 (zeT y0).i),(.i .i64 (zeT y0).h)]),(.agg [(.i .i64 7),(.i .i64 y8),(.i .i64 y2),(.i .i64 (zj2 y0).Traps),(.i .i64 (zj2 y0).Post),(.i .i64 1)])]) (some [(.agg [(.s .u8 c.b),(.i .i64 (zeT y0).i),(.i .i64 (zeT y0).h)]),(.agg [(.i .i64 7),(.i .i64 y8),(.i .i64 y2),(.i .i64 (zj2 y0).Traps),(.i .i64 (zj2 y0).Post),(.i .i64 0)])]))) (cond (ieq y5 9) (oN (zX y0 8) (oN (zX y11 4) (oN (zX y4 100) (some [(.agg [(.s .u8 c.b),(.i .i64 (zC y4 100).i),(.i .i64 (zC y4 100).h)]),(.agg [(.i .i64 8),(.i .i64 y8),(.i .i64 y2),(.i .i64 (zY y0 8)),(.i .i64 (zY y11 4)),(.i .i64 (zY y4 100))])])))) (cond (ieq y5 10) (oN (zX y0 8) (some [(.agg [(.s .u8 c.b),(.i .i64 y14.i),(.i .i64 y14.h)]),(.agg [(.i .i64 9),(.i .i64 y8),(.i .i64 y2),(.i .i64 (zY y0 8)),(.i .i64 0),(.i .i64 0)])])) (cond (ieq y5 11) (some [(.agg [(.s .u8 c.b),(.i .i64 y10.i),(.i .i64 y10.h)]),(.agg [(.i .i64 10),(.i .i64 y8),(.i .i64 y2),(.i .i64 0),(.i .i64 0),(.i .i64 0)])]) (cond (ieq y5 12) (oN (zX y0 16) (oN (zX y9 100) (some [(.agg [(.s .u8 c.b),(.i .i64 (zC y9 100).i),(.i .i64 (zC y9 100).h)]),(.agg [(.i .i64 11),(.i .i64 y8),(.i .i64 y2),(.i .i64 (zY y0 16)),(.i .i64 (zY y9 100)),(.i .i64 0)])]))) (cond (ieq y5 13) (oN (zX y0 16) (some [(.agg [(.s .u8 c.b),(.i .i64 (zC y0 16).i),(.i .i64 (zC y0 16).h)]),(.agg [(.i .i64 12),(.i .i64 y8),(.i .i64 y2),(.i .i64 (zY y0 16)),(.i .i64 0),(.i .i64 0)])])) (cond (ieq y5 14) (cond (ieq y5 14) t5 t4) (cond (ieq y5 15) t5 t4))))))))) (fun t0=>(share (cond (ieq y5 4) (oN (zX y0 100) (some [(.agg [(.s .u8 c.b),(.i .i64 (zC y0 100).i),(.i .i64 (zC y0 100).h)]),(.agg [(.i .i64 4),(.i .i64 y8),(.i .i64 y2),(.i .i64 (zY y0 100)),(.i .i64 0),(.i .i64 0)])])) (cond (ieq y5 5) (cond (ieq y5 5) (some [(.agg [(.s .u8 c.b),(.i .i64 y10.i),(.i .i64 y10.h)]),(.agg [(.i .i64 5),(.i .i64 y8),(.i .i64 y2),(.i .i64 0),(.i .i64 0),(.i .i64 0)])]) t0) (cond (ieq y5 6) (some [(.agg [(.s .u8 c.b),(.i .i64 y10.i),(.i .i64 y10.h)]),(.agg [(.i .i64 5),(.i .i64 y8),(.i .i64 y2),(.i .i64 0),(.i .i64 0),(.i .i64 0)])]) t0))) (fun t1=>(share (cond (ieq y5 2) (cond (ieq y5 2) t2 t1) (cond (ieq y5 3) t2 t1)) (fun t6=>(oN (zX c 2) (oN (zX y13 2) (oN (zX y1 24) (cond (ieq y5 0) (cond (ieq y5 0) t3 t6) (cond (ieq y5 1) t3 t6)))))))))))))))))))
theorem zUD (N:Nat)(c:Cur)  : zf5 (cQ zlU zl4 zXx zka) (zo []) N 12 149 [false,true,true] (zbF c) []=zmO N c:=by kernel_rfl
def zlB (c:Cur)(s:Cur)(v0:GAct):Prop:=(∃N,zmO N c=some (AV.agg (zbF s) :: [aT .act v0]))/\(s.b=c.b/\0<=s.i)/\(True)
def zfy (c:Cur)  : Bool:=pc (∃s v0,zlB c s v0)
def zrE (c:Cur)  : Cur×GAct:=Classical.epsilon fun r=>zlB c r.1 r.2
def zd2 (c:Cur)  : Cur:=bif zfy c then (zrE c).1 else ⟨[],0,0⟩
def zmg (c:Cur)  : GAct:=(zrE c).2
theorem zKd {c:Cur}(h:zfy c=true):zlB c (zd2 c) (zmg c):=by
 obtain ⟨s,v0,h2⟩:=zD.1 h;have h3:zlB c (zrE c).1 (zrE c).2:=Classical.epsilon_spec (p:=fun r=>zlB c r.1 r.2) ⟨(s,v0),h2⟩;unfold zd2;rw[h,cT];exact h3
theorem zXM (c:Cur)  : 0<=(zd2 c).i:=by
 unfold zd2;cases h:zfy c with
 | false=>exact jY 0
 | true =>
  have:=(zKd h).2.1.2;unfold zd2 at this
  rwa [h] at this
theorem zXL (c:Cur)(h:∃N,Ends (fun a=>∃s v0,a=(AV.agg (zbF s) :: [aT .act v0])/\(s.b=c.b/\0<=s.i)/\(True)) (zmO N c)):zfy c=true:=by
 obtain ⟨N,a,e,s,v0,rfl,h⟩:=h;exact zbi ⟨s,v0,⟨N,e⟩,h⟩
def zqE:List CV->List AV->Option (Bool×List CV×List AV)
 | [.s .u8 b,.i .i64 c,.i .i64 d],[]=>some ((zfy (⟨b,c,d⟩:Cur)),zbF (zd2 (⟨b,c,d⟩:Cur)),[aT .act (zmg (⟨b,c,d⟩:Cur))])
 | _,_=>none
theorem zSb (c:Cur)(hb:zbE big (.agg (zbF c) :: []))(hc:zfy c=true):∃N,zmO N c=some (.agg (zbF (zd2 c)) :: [aT .act (zmg c)]):=by
 exact (zKd hc).1
theorem zLN:zdy Tryz.prog 149 [false,true,true] zqE:=by
 refine zb2 (zcW zdJ zbe zGW zu) (zd9 (by kernel_rfl)) ?_
 intro cs avs cs' rs hl hr h;have hb:=zcs hr;unfold zqE at h;split at h
 .obtain ⟨hc,rfl,rfl⟩:=zcJ h;obtain ⟨N,hN⟩:=zSb _ (by exact hb) hc
  exact ⟨rfl,_,N,12,(zUD N _ ).trans hN⟩
 .cases h
theorem z7a {c:Cur}(h:zdv c):zfy c=true:=by
 refine zXL c ⟨0,?_⟩;unfold zmO oN
 conv=>zeta
 refine zlX (zdE (zdE (?_))) (fun _ ht5=>zlX (zde (fun _=>zdE (zdE (?_))) (fun _=>?_)) (fun _ ht4=>zlX (zdE (zdE (zdE (?_)))) (fun _ ht3=>zlX (zdE (?_)) (fun _ ht2=>zlX (zde (fun _=>zdE (?_)) (fun _=>zde (fun _=>zdE (zde (fun _=>?_) (fun _=>?_))) (fun _=>zde (fun _=>zdE (zdE (zdE (?_)))) (fun _=>zde (fun _=>zdE (?_)) (fun _=>zde (fun _=>?_) (fun _=>zde (fun _=>zdE (zdE (?_))) (fun _=>zde (fun _=>zdE (?_)) (fun _=>zde (fun _=>zde (fun _=>ht5) (fun _=>ht4)) (fun _=>zde (fun _=>ht5) (fun _=>ht4)))))))))) (fun _ ht0=>zlX (zde (fun _=>zdE (?_)) (fun _=>zde (fun _=>zde (fun _=>?_) (fun _=>ht0)) (fun _=>zde (fun _=>?_) (fun _=>ht0)))) (fun _ ht1=>zlX (zde (fun _=>zde (fun _=>ht2) (fun _=>ht1)) (fun _=>zde (fun _=>ht2) (fun _=>ht1))) (fun _ ht6=>zdE (zdE (zdE (zde (fun _=>zde (fun _=>ht3) (fun _=>ht6)) (fun _=>zde (fun _=>ht3) (fun _=>ht6))))))))))))
 all_goals exact zkk (aT .act) (v:=⟨_,_,_,_,_,_⟩) (by first|exact zcv _ _|exact zkR _ _|exact zXI _) trivial
def zjo (N:Nat)  : OA :=
 (iter (σ:=(Int×(lA×Unit))) N (fun r1 s2=>(cond (ilt s2.1 2) (iter (σ:=(Int×(Int×(lA×Unit)))) N (fun r3 s4=>(cond (ilt s4.2.1 2) (iter (σ:=(Int×(Int×(Int×(lA×Unit))))) N (fun r5 s6=>let y0:=(ap s6.2.2.2.1 [(⟨2,s6.1,s6.2.1,s6.2.2.1,(zG .i64 s6.2.2.1 (zk4 .i64 3 s6.2.1)),3⟩:GAct),(⟨3,s6.1,s6.2.1,s6.2.2.1,0,0⟩:GAct)]); (cond (ilt s6.2.2.1 3) (oN (few (ln y0)) (r5 (s6.1,(s6.2.1,((zG .i64 s6.2.2.1 1),(y0,())))))) (r3 (s6.1,((zG .i64 s6.2.1 1),(s6.2.2.2.1,())))))) (s4.1,(s4.2.1,(0,(s4.2.2.1,()))))) (r1 ((zG .i64 s4.1 1),(s4.2.2.1,()))))) (s2.1,(0,(s2.2.1,())))) (some [(aS .act s2.2.1)]))) (0,([],())))
def zM8:FuncId->Nat->Option Tmpl:=zo [(148,0,{ n:=34,tm:=[(1,.sl 0 []),(2,ti)],lo:=[],ro:=[(0,.act,true)] }),(148,2,{ n:=34,tm:=[(1,.sl 0 []),(2,ti),(3,ti)],lo:=[],ro:=[(0,.act,true)] }),(148,4,{ n:=34,tm:=[(1,.sl 0 []),(2,ti),(3,ti),(4,ti)],lo:=[],ro:=[(0,.act,true)] })]
def ziS  (v0:List GAct):Prop:=(∃N,zjo N=some [aS .act v0])/\(v0.length<=45)
def zh2  : Bool:=pc (∃v0,ziS v0)
def zCe  : List GAct:=Classical.epsilon fun r=>ziS r
def zrF  : List GAct:=(zCe)
theorem zCd  (h:zh2=true):ziS zrF:=by
 obtain ⟨v0,h2⟩:=zD.1 h;have h3:ziS (zCe):=Classical.epsilon_spec (p:=fun r=>ziS r) ⟨v0,h2⟩;exact h3
theorem zSR  (h:∃N,Ends (fun a=>∃v0,a=[aS .act v0]/\(v0.length<=45)) (zjo N)):zh2=true:=by
 obtain ⟨N,a,e,v0,rfl,h⟩:=h;exact zbi ⟨v0,⟨N,e⟩,h⟩
def zwU:Run:=rF0 (zh2,[aS .act zrF])
theorem zMu  (hc:zh2=true):∃N,zjo N  = some [aS .act zrF]:=by
 exact (zCd hc).1
theorem zGo:vF 148 zwU:=kF0 zdJ zbe zGW zu zM8 zMu
def zYi:List GAct:=match zjo 10 with
 | some [.one (.s .act l)]=>l
 | _=>[]
theorem zVd:zh2=true:=zSR ⟨10,_,(by kernel_rfl:zjo 10=some [aS .act zYi]),zYi,rfl,Nat.le_of_ble_eq_true (by kernel_rfl)⟩
def zXy:zdi:=[(149,([false,true,true],zqE))]++zXx
theorem zSB:zcr zXy:=zd8 zGW (by
 intro x hx;simp only[qG,qW,or_false]at hx;rcases hx with rfl
 .exact zLN)
def zYm:zO:=[(148,zwU)]++zlU
theorem zYn:zF zYm:=zh zGo zdJ
theorem zN4 {c:Cur}(h:zdv c){m:Int}(h0:0<=m)(hm:m<=1000){G:Ans->Prop}{R:Cur->List GAct->Ans}(hG:∀s l,s.b=c.b->0<=s.i->ln l<=45+m->G (R s l)){F:(Int×Int×Int×Int×List GAct×List Int×Unit->OA)->Int×Int×Int×Int×List GAct×List Int×Unit->OA}(hF:∀rec t i k l,F rec (m,t,i,k,l,c.b,())=bif zX ⟨c.b,i,k⟩ (zG .i64 m 1) then (bif ilt t (zY ⟨c.b,i,k⟩ (zG .i64 m 1)) then (bif zfy { zC ⟨c.b,i,k⟩ (zG .i64 m 1) with b:=c.b } then (bif few (ln (ap l [zmg { zC ⟨c.b,i,k⟩ (zG .i64 m 1) with b:=c.b }])) then
        rec (m,zG .i64 t 1,(zd2 { zC ⟨c.b,i,k⟩ (zG .i64 m 1) with b:=c.b }).i,(zd2 { zC ⟨c.b,i,k⟩ (zG .i64 m 1) with b:=c.b }).h,ap l [zmg { zC ⟨c.b,i,k⟩ (zG .i64 m 1) with b:=c.b }],c.b,()) else none) else none) else some (R ⟨c.b,(zC ⟨c.b,i,k⟩ (zG .i64 m 1)).i,(zC ⟨c.b,i,k⟩ (zG .i64 m 1)).h⟩ l)) else none){i0 k0:Int}(hi0:0<=i0){l0:List GAct}(hl0:l0.length<=45):Ends G (iter 1002 F (m,0,i0,k0,l0,c.b,())):=by
 refine zvV (fun n s=>s.1=m/\s.2.1+(n:Int)=1000/\0<=s.2.1/\0<=s.2.2.1/\(ln s.2.2.2.2.1<=45+s.2.1/\s.2.1<=m)/\s.2.2.2.2.2.1=c.b) ?_ 1002 1000 _ ⟨rfl,rfl,jY 0,hi0,⟨by unfold ln;show ((l0.length:Nat):Int)<=45+0;omega,h0⟩,rfl⟩ (by omega)
 rintro n ⟨q,t,i,k,l,b,u⟩ rec ⟨h0,h1,h2,h3,⟨h5,hq⟩,h6⟩ hrec
 dsimp only at h0 h1 h2 h3 h5 h6 hq
 subst h6;subst h0;rw[hF];have hcur:zdv ⟨c.b,i,k⟩:=zfa h h3;have hw:=zmI (x:=q) (y:=1) (by omega) (by omega) (by omega) (by omega)
 have hx:=zlT hcur (n:=zG .i64 q 1) (by omega)
 have h7:zdv { zC ⟨c.b,i,k⟩ (zG .i64 q 1) with b:=c.b }:=zfa h (zcv _ _);refine zbn (zhH hcur _) (zde (fun hc=>?_) (fun hc=>?_))
 .have hlt:t<zY ⟨c.b,i,k⟩ (zG .i64 q 1):=qE hc;have ht:=zmI (y:=1) h2 (by omega) (by omega) (by omega)
  refine zbn (z7a h7) (zbn (zvX (by rw[zpe];omega)) (hrec (n-1) _ (by omega) ⟨rfl,?_,?_,zXM _,⟨?_,?_⟩,rfl⟩))
  .show zG .i64 t 1+_=1000
   omega
  .show 0<=zG .i64 t 1
   omega
  .show ln (ap l [_])<=45+zG .i64 t 1
   rw[zpe];omega
  .show zG .i64 t 1<=q
   omega
 .refine zAC (hG _ l rfl (zcv _ _) ?_);omega
def zk9 (N:Nat)(c:Cur)(a0:Int):OA:=
 (oN (zei c 5) (cond (nB (zjZ c 5)) (oN zh2 (iter (σ:=(Int×(Int×(Int×(Int×(lA×((List Int)×Unit))))))) N (fun r3 s4=>let y6:=s4.2.2.2.2.2.1;let y4:=(zG .i64 s4.1 1);let y2:=(⟨y6,s4.2.2.1,s4.2.2.2.1⟩:Cur);let y0:=({ (zC y2 y4) with b:=y6 }:Cur);let y8:=(ap s4.2.2.2.2.1 [(zmg y0)]); (oN (zX y2 y4) (cond (ilt s4.2.1 (zY y2 y4)) (oN (zfy y0) (oN (few (ln y8)) (r3 (s4.1,((zG .i64 s4.2.1 1),((zd2 y0).i,((zd2 y0).h,(y8,(y6,()))))))))) (some [(.agg [(.s .u8 y6),(.i .i64 (zC y2 y4).i),(.i .i64 (zC y2 y4).h)]),(aS .act s4.2.2.2.2.1)])))) (a0,(0,((zcp c 5).i,((zcp c 5).h,(zrF,(c.b,())))))))) (iter (σ:=(Int×(Int×(Int×(Int×(lA×((List Int)×Unit))))))) N (fun r3 s4=>let y7:=s4.2.2.2.2.2.1;let y5:=(zG .i64 s4.1 1);let y3:=(⟨y7,s4.2.2.1,s4.2.2.2.1⟩:Cur);let y1:=({ (zC y3 y5) with b:=y7 }:Cur);let y9:=(ap s4.2.2.2.2.1 [(zmg y1)]); (oN (zX y3 y5) (cond (ilt s4.2.1 (zY y3 y5)) (oN (zfy y1) (oN (few (ln y9)) (r3 (s4.1,((zG .i64 s4.2.1 1),((zd2 y1).i,((zd2 y1).h,(y9,(y7,()))))))))) (some [(.agg [(.s .u8 y7),(.i .i64 (zC y3 y5).i),(.i .i64 (zC y3 y5).h)]),(aS .act s4.2.2.2.2.1)])))) (a0,(0,((zcp c 5).i,((zcp c 5).h,([],(c.b,())))))))))
def zP1:FuncId->Nat->Option Tmpl:=zo [(87,0,{ n:=26,tm:=[(0,.lp 0 0),(1,ti),(5,.sl 0 []),(6,ti)],lo:=[(0,[.sl 1 [],ti,ti])],ro:=[(0,.act,true),(1,.u8,false)] })]
theorem zSs (N:Nat)(c:Cur)(a0:Int):zf5 (cQ zYm zl4 zXy zka) zP1 N 12 87 [false,true,true] (zbF c) [aI a0]=zk9 N c a0:=by kernel_rfl
def zj4 (c:Cur)(a0:Int)(s:Cur)(v0:List GAct):Prop:=(∃N,zk9 N c a0=some (AV.agg (zbF s) :: [aS .act v0]))/\(s.b=c.b/\0<=s.i)/\(ln v0<=45+a0)
def zgl (c:Cur)(a0:Int):Bool:=pc (∃s v0,zj4 c a0 s v0)
def zpL (c:Cur)(a0:Int):Cur×List GAct:=Classical.epsilon fun r=>zj4 c a0 r.1 r.2
def zfz (c:Cur)(a0:Int):Cur:=bif zgl c a0 then (zpL c a0).1 else ⟨[],0,0⟩
def zmB (c:Cur)(a0:Int):List GAct:=(zpL c a0).2
theorem zvu {c:Cur}{a0:Int}(h:zgl c a0=true):zj4 c a0 (zfz c a0) (zmB c a0):=by
 obtain ⟨s,v0,h2⟩:=zD.1 h;have h3:zj4 c a0 (zpL c a0).1 (zpL c a0).2:=Classical.epsilon_spec (p:=fun r=>zj4 c a0 r.1 r.2) ⟨(s,v0),h2⟩;unfold zfz;rw[h,cT];exact h3
theorem zUP (c:Cur)(a0:Int):0<=(zfz c a0).i:=by
 unfold zfz;cases h:zgl c a0 with
 | false=>exact jY 0
 | true =>
  have:=(zvu h).2.1.2;unfold zfz at this
  rwa [h] at this
theorem zUO (c:Cur)(a0:Int)(h:∃N,Ends (fun a=>∃s v0,a=(AV.agg (zbF s) :: [aS .act v0])/\(s.b=c.b/\0<=s.i)/\(ln v0<=45+a0)) (zk9 N c a0)):zgl c a0=true:=by
 obtain ⟨N,a,e,s,v0,rfl,h⟩:=h;exact zbi ⟨s,v0,⟨N,e⟩,h⟩
def zoz:List CV->List AV->Option (Bool×List CV×List AV)
 | [.s .u8 b,.i .i64 c,.i .i64 d],[.one (.i .i64 e)]=>some ((zgl (⟨b,c,d⟩:Cur) e),zbF (zfz (⟨b,c,d⟩:Cur) e),[aS .act (zmB (⟨b,c,d⟩:Cur) e)])
 | _,_=>none
theorem zPK (c:Cur)(a0:Int)(hb:zbE big (.agg (zbF c) :: [aI a0]))(hc:zgl c a0=true):∃N,zk9 N c a0=some (.agg (zbF (zfz c a0)) :: [aS .act (zmB c a0)]):=by
 exact (zvu hc).1
theorem zJc:zdy Tryz.prog 87 [false,true,true] zoz:=by
 refine zb2 (zcW zYn zbe zSB zu) (zd9 (by kernel_rfl)) ?_
 intro cs avs cs' rs hl hr h;have hb:=zcs hr;unfold zoz at h;split at h
 .obtain ⟨hc,rfl,rfl⟩:=zcJ h;obtain ⟨N,hN⟩:=zPK _ _ (by exact hb) hc
  exact ⟨rfl,_,N,12,(zSs N _ _ ).trans hN⟩
 .cases h
theorem zYb {c:Cur}(h:zdv c){m:Int}(h0:0<=m)(hm:m<=1000):zgl c m=true:=by
 refine zUO c m ⟨1002,?_⟩;unfold zk9 oN nB
 conv=>zeta
 have g:=zCd zVd;exact zbn (zSt h 5) (zde (fun _=>zbn zVd (zN4 h h0 hm (R:=fun s l=>AV.agg (zbF s) :: [aS .act l]) (fun s l hb hi hl=>⟨s,l,rfl,⟨hb,hi⟩,hl⟩) (fun rec t i k l=>rfl) (zhy _ _) g.2)) (fun _=>zN4 h h0 hm (R:=fun s l=>AV.agg (zbF s) :: [aS .act l]) (fun s l hb hi hl=>⟨s,l,rfl,⟨hb,hi⟩,hl⟩) (fun rec t i k l=>rfl) (zhy _ _) (jU _)))
def zXz:zdi:=[(87,([false,true,true],zoz))]++zXy
theorem zSC:zcr zXz:=zd8 zSB (by
 intro x hx;simp only[qG,qW,or_false]at hx;rcases hx with rfl
 .exact zJc)
def zCu (h:Host):Prop:=∃ps l,zHZ ps/\(1<=ps.length/\∀p∈ps,1<=p.length/\∀x∈p,zcT x=true)/\h=(zxB ps l).1
theorem z1Y {p:List Ins}(h:zcT p=true):p.length<=12:=by
 unfold zcT at h;cases hc:p.all zdC with
 | false=>rw[hc]at h;cases h
 | true =>
  rw[hc,cT]at h;have h2:=(zfm.1 h).2;unfold ln at h2;omega
def zk8 (N:Nat)(c:Cur)  : OA :=
 let y0:=({ (zfw c) with b:=c.b }:Cur); (oN (zhj c) (oN (zgl y0 20) (oN (zsY (zoS c) (zmB y0 20)) (some [(.agg [(.s .u8 c.b),(.i .i64 (zfz y0 20).i),(.i .i64 (zfz y0 20).h)]),(aH (zsX (zoS c) (zmB y0 20)))]))))
theorem zSo (N:Nat)(c:Cur)  : zf5 (cQ zFC zl4 zXz zka) (zo []) N 12 31 [false,true,true] (zbF c) []=zk8 N c:=by kernel_rfl
def zj3 (c:Cur)(s:Cur)(v0:Host):Prop:=(∃N,zk8 N c=some (AV.agg (zbF s) :: [aH v0]))/\(s.b=c.b/\0<=s.i)/\(zCu v0)
def zek (c:Cur)  : Bool:=pc (∃s v0,zj3 c s v0)
def zpJ (c:Cur)  : Cur×Host:=Classical.epsilon fun r=>zj3 c r.1 r.2
def zpK (c:Cur)  : Cur:=bif zek c then (zpJ c).1 else ⟨[],0,0⟩
def zh8 (c:Cur)  : Host:=(zpJ c).2
theorem zFa {c:Cur}(h:zek c=true):zj3 c (zpK c) (zh8 c):=by
 obtain ⟨s,v0,h2⟩:=zD.1 h;have h3:zj3 c (zpJ c).1 (zpJ c).2:=Classical.epsilon_spec (p:=fun r=>zj3 c r.1 r.2) ⟨(s,v0),h2⟩;unfold zpK;rw[h,cT];exact h3
theorem zUN (c:Cur)(h:∃N,Ends (fun a=>∃s v0,a=(AV.agg (zbF s) :: [aH v0])/\(s.b=c.b/\0<=s.i)/\(zCu v0)) (zk8 N c)):zek c=true:=by
 obtain ⟨N,a,e,s,v0,rfl,h⟩:=h;exact zbi ⟨s,v0,⟨N,e⟩,h⟩
def zoy:List CV->List AV->Option (Bool×List CV×List AV)
 | [.s .u8 b,.i .i64 c,.i .i64 d],[]=>some ((zek (⟨b,c,d⟩:Cur)),zbF (zpK (⟨b,c,d⟩:Cur)),[aH (zh8 (⟨b,c,d⟩:Cur))])
 | _,_=>none
theorem zPE (c:Cur)(hb:zbE big (.agg (zbF c) :: []))(hc:zek c=true):∃N,zk8 N c=some (.agg (zbF (zpK c)) :: [aH (zh8 c)]):=by
 exact (zFa hc).1
theorem zI7:zdy Tryz.prog 31 [false,true,true] zoy:=by
 refine zb2 (zcW zu7 zbe zSC zu) (zd9 (by kernel_rfl)) ?_
 intro cs avs cs' rs hl hr h;have hb:=zcs hr;unfold zoy at h;split at h
 .obtain ⟨hc,rfl,rfl⟩:=zcJ h;obtain ⟨N,hN⟩:=zPE _ (by exact hb) hc
  exact ⟨rfl,_,N,12,(zSo N _ ).trans hN⟩
 .cases h
theorem zZe {c:Cur}(h:zdv c):zek c=true:=by
 refine zUN c ⟨0,?_⟩;have h1:zdv { zfw c with b:=c.b }:=zfa h (zXK _);have g1:=(zyl (z2F h)).2.2;have g2:=(zvu (zYb h1 (m:=20) (by omega) (by omega))).2.2
 unfold zk8 oN
 conv=>zeta
 have g3:(zmB { zfw c with b:=c.b } 20).length<=65:=by
  unfold ln at g2;omega
 have S:zHZ (zoS c):=⟨by omega,fun p hp=>by
  have g:=g1.2.2 p hp;exact ⟨by omega,fun x hx=>by have:=z1Y (g.2.2 x hx);omega⟩⟩
 exact zbn (z2F h) (zbn (zYb h1 (by omega) (by omega)) (zbn (zbi ⟨S,jC g3 (by decide)⟩) (zkk aH (zUP _ _) ⟨_,_,S,⟨g1.1,fun p hp=>⟨(g1.2.2 p hp).1,(g1.2.2 p hp).2.2⟩⟩,rfl⟩)))
def zXA:zdi:=[(31,([false,true,true],zoy))]++zXz
theorem zx3:zcr zXA:=zd8 zSC (by
 intro x hx;simp only[qG,qW,or_false]at hx;rcases hx with rfl
 .exact zI7)
theorem zQ3 {α τ ρ:Type}{G:ρ->Prop}{body:Nat->α->τ->(τ->Option ρ)->Option ρ}{K:τ->Option ρ}(hb:∀i x t κ,(∀t,Ends G (κ t))->Ends G (body i x t κ))(hK:∀t,Ends G (K t)):∀(l:List α) (i:Nat) (t:τ),Ends G (goL body K l i t)
 | [],i,t=>hK t
 | x :: l,i,t=>hb i x t _ (fun t=>zQ3 hb hK l (i+1) t)
def zmK (N:Nat)(a0:List Int):OA:=
 (iter (σ:=(Int×(Int×((List Int)×(lM×(lN×(lE×(lE×Unit)))))))) N (fun r2 s3=>let y0:=(⟨s3.2.2.1,0,s3.1⟩:Cur); (cond (ilt s3.2.1 (ln s3.2.2.1)) (cond (ilt s3.2.1 4000) (oN (inb s3.2.1 (ln s3.2.2.1)) (r2 ((wand .i64 (zG .i64 (zG .i64 (zk4 .i64 s3.1 131) (wcv .i64 (ix s3.2.2.1 s3.2.1 0))) 7) 1073741823),((zG .i64 s3.2.1 1),(s3.2.2.1,(s3.2.2.2.1,(s3.2.2.2.2.1,(s3.2.2.2.2.2.1,(s3.2.2.2.2.2.2.1,()))))))))) (oN (zek y0) (some [(aH (zh8 y0))]))) (oN (zek y0) (some [(aH (zh8 y0))])))) ((zG .i64 94701 (ln a0)),(0,(a0,([],([],([],([],()))))))))
def zM3:FuncId->Nat->Option Tmpl:=zo [(32,0,{ n:=32,tm:=[(0,.sl 0 []),(3,ti),(4,ti)],lo:=[(0,[.sl 1 [],.sl 2 [],.sl 3 [],.sl 4 []])],ro:=[(0,.u8,false),(1,(.sl .int),true),(2,.mon,true),(3,.entry,true),(4,.entry,true)],sk:=[(0,2,0,.lp 0 0)] })]
def ziM (a0:List Int)(v0:Host):Prop:=(∃N,zmK N a0=some [aH v0])/\(zCu v0)
def zhX (a0:List Int):Bool:=pc (∃v0,ziM a0 v0)
def zB6 (a0:List Int):Host:=Classical.epsilon fun r=>ziM a0 r
def znA (a0:List Int):Host:=(zB6 a0)
theorem zB5 {a0:List Int}(h:zhX a0=true):ziM a0 (znA a0):=by
 obtain ⟨v0,h2⟩:=zD.1 h;have h3:ziM a0 (zB6 a0):=Classical.epsilon_spec (p:=fun r=>ziM a0 r) ⟨v0,h2⟩;exact h3
theorem zSM (a0:List Int)(h:∃N,Ends (fun a=>∃v0,a=[aH v0]/\(zCu v0)) (zmK N a0)):zhX a0=true:=by
 obtain ⟨N,a,e,v0,rfl,h⟩:=h;exact zbi ⟨v0,⟨N,e⟩,h⟩
def zwH:Run:=rF1 (dS .u8) fun b=>(zhX b,[aH (znA b)])
theorem zMd (a0:List Int)(hc:zhX a0=true):∃N,zmK N a0=some [aH (znA a0)]:=by
 exact (zB5 hc).1
theorem zF8:vF 8 zwH:=kF1 zu7 zbe zx3 zu zM3 zMd
theorem zIi {a0:List Int}(h:a0.length<=big):zhX a0=true:=by
 refine zSM a0 (zcd fun N hNN=>?_);unfold zmK oN
 conv=>zeta
 have fin:∀t,Ends (fun a=>∃v0,a=[aH v0]/\zCu v0) (cond (zek ⟨a0,0,t⟩) (some [aH (zh8 ⟨a0,0,t⟩)]) none):=fun t =>
  have hc:zdv ⟨a0,0,t⟩:=⟨jY 0,h⟩
  zbn (zZe hc) ⟨_,rfl,_,rfl,(zFa (zZe hc)).2.2⟩
 refine (congrArg (Ends _) (zZ a0 (fun i (t:Int)=>(t,(i:Int),a0,[],[],[],[],())) _ (fun i x (t:Int) κ=>bif ilt (i:Int) 4000 then κ (wand .i64 (zG .i64 (zG .i64 (zk4 .i64 t 131) (wcv .i64 x)) 7) 1073741823) else (cond (zek ⟨a0,0,t⟩) (some [aH (zh8 ⟨a0,0,t⟩)]) none)) (fun (t:Int)=>(cond (zek ⟨a0,0,t⟩) (some [aH (zh8 ⟨a0,0,t⟩)]) none)) (fun i hi t rec=>?_) (fun t rec=>?_) N (zG .i64 94701 (ln a0)) (hNN h))).mpr ?_
 .simp only [zbo hi,zS hi,zbc hi,zV hi h,cT]
 .simp only [zbg,cF]
 exact zQ3 (fun i x t κ hk=>zde (fun _=>hk _) (fun _=>fin t)) fin _ _ _
def zYo:zO:=[(8,zwH)]++zFC
theorem zYp:zF zYo:=zh zF8 zu7
theorem zVW:∀(l:List GAct) (u:Host×List Told),SmH u.1->SmH (zBk l u).1
 | [],u,h=>h
 | a :: l,u,h=>zVW l (zeb u.1 a,ap u.2 [zik u.1 a]) (zVU h)
theorem z1F {h:Host}(L:zCu h):Safe h/\SmH h:=by
 obtain ⟨ps,l,hS,hp,rfl⟩:=L;refine ⟨?_,zVW _ _ (zVV hS)⟩;unfold zxB;rw[zVN];exact (zYZ _ (zW0 hp)).1
def zYq:zO:=zYo
theorem zAx:zF zYq:=zYp
def zQu (l:List Int):Prop:=l.length=12/\∀i:Int,0<=i->i<12->0<=ix l i 0/\ix l i 0<10000
def z3Y:zdi:=zXA
theorem z1U:zcr z3Y:=zx3
def z7q:zdi:=z3Y
theorem z1V:zcr z7q:=z1U
def zkb (N:Nat)(a0:List Int):OA:=
 (iter (σ:=(Int×(Int×((List Int)×((List Int)×Unit))))) N (fun r2 s3=>let y4:=s3.2.2.1; (cond (ilt s3.2.1 (ln y4)) (cond (ilt s3.2.1 4000) (oN (inb s3.2.1 (ln y4)) (r2 ((wand .i64 (zG .i64 (zG .i64 (zk4 .i64 s3.1 131) (wcv .i64 (ix y4 s3.2.1 0))) 7) 1073741823),((zG .i64 s3.2.1 1),(y4,(s3.2.2.2.1,())))))) (iter (σ:=(Int×(Int×(Int×((List Int)×((List Int)×Unit)))))) N (fun r4 s5=>let y0:=(⟨s5.2.2.2.2.1,s5.2.1,s5.2.2.1⟩:Cur);let y2:=(ap s5.2.2.2.1 [(zY y0 10000)]); (cond (ilt s5.1 12) (oN (zX y0 10000) (oN (few (ln y2)) (r4 ((zG .i64 s5.1 1),((zC y0 10000).i,((zC y0 10000).h,(y2,(s5.2.2.2.2.1,())))))))) (some [(aS .int s5.2.2.2.1)]))) (0,(0,(s3.1,([],(y4,()))))))) (iter (σ:=(Int×(Int×(Int×((List Int)×((List Int)×Unit)))))) N (fun r4 s5=>let y1:=(⟨s5.2.2.2.2.1,s5.2.1,s5.2.2.1⟩:Cur);let y3:=(ap s5.2.2.2.1 [(zY y1 10000)]); (cond (ilt s5.1 12) (oN (zX y1 10000) (oN (few (ln y3)) (r4 ((zG .i64 s5.1 1),((zC y1 10000).i,((zC y1 10000).h,(y3,(s5.2.2.2.2.1,())))))))) (some [(aS .int s5.2.2.2.1)]))) (0,(0,(s3.1,([],(y4,())))))))) ((zG .i64 94701 (ln a0)),(0,(a0,([],())))))
def zHb:FuncId->Nat->Option Tmpl:=zo [(32,0,{ n:=32,tm:=[(0,.sl 0 []),(3,ti),(4,ti)],lo:=[],ro:=[(0,.u8,false),(1,.int,true)],sk:=[(0,2,0,.sl 1 [])] }),(9,0,{ n:=19,tm:=[(3,.lp 0 0),(4,.sl 0 []),(5,ti)],lo:=[(0,[.sl 1 [],ti,ti])],ro:=[(0,.int,true),(1,.u8,false)] })]
def zhc (a0:List Int)(v0:List Int):Prop:=(∃N,zkb N a0=some [aS .int v0])/\(zQu v0)
def zgw (a0:List Int):Bool:=pc (∃v0,zhc a0 v0)
def zwY (a0:List Int):List Int:=Classical.epsilon fun r=>zhc a0 r
def zjT (a0:List Int):List Int:=(zwY a0)
theorem zwX {a0:List Int}(h:zgw a0=true):zhc a0 (zjT a0):=by
 obtain ⟨v0,h2⟩:=zD.1 h;have h3:zhc a0 (zwY a0):=Classical.epsilon_spec (p:=fun r=>zhc a0 r) ⟨v0,h2⟩;exact h3
theorem zMP (a0:List Int)(h:∃N,Ends (fun a=>∃v0,a=[aS .int v0]/\(zQu v0)) (zkb N a0)):zgw a0=true:=by
 obtain ⟨N,a,e,v0,rfl,h⟩:=h;exact zbi ⟨v0,⟨N,e⟩,h⟩
def zsK:Run:=rF1 (dS .u8) fun b=>(zgw b,[aS .int (zjT b)])
theorem zGI (a0:List Int)(hc:zgw a0=true):∃N,zkb N a0=some [aS .int (zjT a0)]:=by
 exact (zwX hc).1
theorem zAR:vF 9 zsK:=kF1 zAx zbe z1V zu zHb zGI
theorem zSF {a0:List Int}(h:a0.length<=big):zgw a0=true:=by
 refine zMP a0 (zcd fun N hNN=>?_);unfold zkb oN
 conv=>zeta
 have h12:12<N:=hNN (by rw[zrG];omega)
 refine zvV (fun n s=>∃(t:Int) (i:Nat),s=(t,(i:Int),a0,[],())/\i+n=a0.length) ?_ N a0.length _ ⟨_,0,rfl,by omega⟩ (hNN h)
 rintro n s rec ⟨t,i,rfl,hi⟩ hrec
 dsimp only
 refine zde (fun h1=>zde (fun h2=>?_) (fun _=>?_)) (fun _=>?_)
 .have hlt:(i:Int)<ln a0:=qE h1;unfold ln at hlt;refine zbn (qI ⟨by omega,by unfold ln;omega⟩) (hrec (n-1) _ (by omega) (by rw[zV (show i<a0.length by omega) h];exact ⟨_,i+1,rfl,by omega⟩))
 all_goals
  refine zvV (fun n s=>∃(k:Nat) (i x:Int) (l:List Int),s=((k:Int),i,x,l,a0,())/\k+n=12/\0<=i/\l.length=k/\∀y∈l,0<=y/\y<10000) ?_ N 12 _ ⟨0,0,t,[],rfl,rfl,jY 0,rfl,by simp⟩ h12
  rintro n' s rec' ⟨k,i',x,l,rfl,hk,hi0,hlk,hl⟩ hrec'
  dsimp only
  have hcur:zdv ⟨a0,i',x⟩:=⟨hi0,h⟩;have hx:=zlT hcur (n:=10000) (by omega)
  refine zde (fun h3=>?_) (fun h3=>⟨_,rfl,l,rfl,?_⟩)
  .have h3':(k:Int)<12:=qE h3;have hnew:∀y∈ap l [zY ⟨a0,i',x⟩ 10000],0<=y/\y<10000:=by
    intro y hy;rcases jK.1 hy with hy|hy
    .exact hl y hy
    .rw [qF.1 hy];exact hx
   exact zbn (zhH hcur _) (zbn (zvX (by rw[zpe];unfold ln;omega)) (hrec' (n'-1) _ (by omega) (by rw[zmH (show -9223372036854775808<=(k:Int)+1 by omega) (by omega)];exact ⟨k+1,_,_,_,rfl,by omega,zcv _ _,by simp[ap,hlk],hnew⟩)))
  .have h3':¬ (k:Int)<12:=jT h3;exact ⟨by omega,fun j h0 h1=>hl _ (zbv (qI ⟨h0,by unfold ln;omega⟩) 0)⟩
theorem zSi {α β:Type}{f:α->β}{l:List α}{x:β}{xs:List β}(h:l.map f=x :: xs):∃a r,l=a :: r/\f a=x/\r.map f=xs:=by
 cases l with
 | nil=>cases h
 | cons a r =>
  simp only[jB,List.cons.injEq]at h;exact ⟨a,r,rfl,h.1,h.2⟩
theorem z6O {a:AV}{ct:CTy}(h:some a.sh=some (false,[ct])):∃c,a = .one c/\c.ty=ct:=by
 cases a with
 | one c =>
  simp only[AV.sh,qC,jN,List.cons.injEq,and_true,true_and]at h;exact ⟨c,rfl,h⟩
 | agg l=>simp[AV.sh]at h
theorem z7Q {a:AV}{t:Ty}(h:some a.sh=some (false,[.s t])):∃l:List t.den,a = .one (.s t l):=by
 obtain ⟨c,rfl,hc⟩:=z6O h;obtain ⟨l,rfl⟩:=zki hc;exact ⟨l,rfl⟩
section
open Go Go.ChangeShapes Go.WideShapes Go.ChangeAt
abbrev zLS (_:List Int):Bool:=true
abbrev zJj (l:List Int):Bool:=igt (ln l) 1048576
def zOo:Run:=rF1 (dS .u8) fun b=>(zLS b,[aB (zJj b)])
def zU8 (N:Nat)(a0:List Int):OA:=
 (some [(aB (igt (ln a0) 1048576))])
theorem zZp (a0:List Int)(hc:zLS a0=true):∃N,zU8 N a0=some [aB (zJj a0)]:=by
 refine ⟨0,?_⟩;unfold zU8
 first|rfl|(simp only [*,zJj,cT,cF]<;>rfl)|simp_all[Ty.cells,zJj]
theorem zT0:vF 7 zOo:=kF1 zAx zbe zx3 zu (zo []) zZp
def z3t:zO:=[(7,zOo),(9,zsK),(12,zwy),(10,zsF),(11,zBK),(13,znn),(14,zk3),(15,zsL),(16,zwq)]++zYq
theorem z1e:zF z3t:=zh zT0 (zh zAR (zh zFZ (zh zv3 (zh zLr (zh zq0 (zh zn4 (zh zv4 (zh zFS zAx))))))))
def ztl (N:Nat)(a0:List Int):OA:=
 let y10:=(zjT a0);let y8:=(znA a0);let y13:=(ln y8.Mons);let y4:=(zfM (ix y10 2 0) 4);let y3:=(zG .i64 1 (zfM (ix y10 3 0) 2));let y2:=(zfM (ix y10 0 0) y13);let y6:=(ix y8.Mons y2 zf).Guests;let y0:=(zfM (ix y10 1 0) (ln y6));let y14:=(ix y6 y0 zx).Live;let y12:=(zmZ y8 y2 y0 y4 y3);let y11:=(zxF y8 y2 y0 y4 y3);let y1:=(zxE y8 y2 y0 y4 y3);let y7:=(ix y1.Mons y2 zf);let y9:=(ix y7.Guests y0 zx).Live;let y5:=(ziL (ix y9 y4 zK) y7.Outer); (oN (zLS a0) (cond (zJj a0) oT (oN (zhX a0) (oN (zgw a0) (oN (inb 0 (ln y10)) (oN (ine y13 0) (oN (inb 1 (ln y10)) (oN (inb y2 y13) (oN (ine (ln y6) 0) (oN (inb 2 (ln y10)) (oN (ine 4 0) (oN (inb 3 (ln y10)) (oN (ine 2 0) (oN (zxG y8 y2 y0 y4 y3) (oN (zyc y8 y2 y0 y4 y3) (cond (ine y11 (zya y8 y2 y0 y4 y3)) oF (cond (nB (zje y12 (zyb y8 y2 y0 y4 y3))) oF (oN (zsx y1 (zrq y8 y2 y0 y4 y3)) (cond (nB (zrh y1 (zrq y8 y2 y0 y4 y3))) oF (oN (inb y2 y13) (oN (inb y0 (ln y6)) (oN (zlQ y14 y4 y3) (cond (nB (zje y12 (zf0 y14 y4 y3))) oF (cond (nB y12) (some [(aB (ieq y11 (-1)))]) (oN (inb y2 (ln y1.Mons)) (oN (inb y0 (ln y7.Guests)) (oN (inb y4 (ln y9)) (oN (inb y2 (ln y1.Mons)) (oN (zhb (ix y9 y4 zK) y7.Outer) (cond (ieq y5.Page y11) (oN (zfq y5.Rights y3) (cond (zfY y5.Rights y3) (oN (zsp y1) (some [(aB (zm2 y1))])) oF)) oF))))))))))))))))))))))))))))))
theorem zXh (N:Nat)(a0:List Int):evalFn (cQ z3t zl4 zXA zka) (zo []) N 12 3 [aS .u8 a0]=ztl N a0:=by kernel_rfl
theorem zQV (N:Nat)(a0:List Int)(hl:a0.length<=big):Ends (fun a=>a=[.one (.b true)]) (ztl N a0):=by
 unfold ztl oN nB
 conv=>zeta
 refine zbn rfl (zde (fun _=>zAC rfl) (fun _=>zbn (zIi hl) (zbn (zSF hl) ?_)));obtain ⟨S,hs⟩:=z1F (zB5 (zIi hl)).2;obtain ⟨hp1,hp2⟩:=(zwX (zSF hl)).2;generalize znA a0=h at S hs;generalize zjT a0=p at hp1 hp2;have hS:zcb h:=(zM h).2 hs;have hn1:=S.ok.n1;have hlp:ln p=12:=by unfold ln;omega
 have hM:(0:Int)<ln h.Mons:=by unfold ln;omega
 have c1:inb 0 (ln p)=true:=zl (zy.2 (by omega))
 have c2:inb 1 (ln p)=true:=zl (zy.2 (by omega))
 have c3:inb 2 (ln p)=true:=zl (zy.2 (by omega))
 have c4:inb 3 (ln p)=true:=zl (zy.2 (by omega))
 have mM:=zrY (hp2 0 (by omega) (by omega)).1 hM
 have hm:hasB (zfM (ix p 0 0) (ln h.Mons)) (ln h.Mons)=true:=zy.2 mM;refine zbn c1 (zbn (zrO.2 (by omega)) (zbn c2 ?_))
 generalize zfM (ix p 0 0) (ln h.Mons)=m at mM hm;have hG:(0:Int)<ln (ix h.Mons m mZ).Guests:=by have:=(S.ok.mon hm).g1;unfold ln;omega
 have mG:=zrY (hp2 1 (by omega) (by omega)).1 hG
 have hg:hasB (zfM (ix p 1 0) (ln (ix h.Mons m mZ).Guests)) (ln (ix h.Mons m mZ).Guests)=true:=zy.2 mG;refine zbn (zl hm) (zbn (zrO.2 (Int.ne_of_gt hG)) (zbn c3 (zbn rfl (zbn c4 (zbn rfl (zbn (zbi hS) (zbn (zbi hS) (zvW (zcL _) (zvW (by rw[zdO];rfl) (zbn (zbi rfl) (zvW rfl ?_)))))))))))
 generalize zfM (ix p 1 0) (ln (ix h.Mons m zf).Guests)=g at mG hg;have m4:=zrY (hp2 2 (by omega) (by omega)).1 (show (0:Int)<4 by omega)
 generalize zfM (ix p 2 0) 4=page at m4;have m2:=zrY (hp2 3 (by omega) (by omega)).1 (show (0:Int)<2 by omega)
 have hn:zG .i64 1 (zfM (ix p 3 0) 2)=1\/zG .i64 1 (zfM (ix p 3 0) 2)=2:=by rw[zmH (by omega) (by omega)];omega
 generalize zG .i64 1 (zfM (ix p 3 0) 2)=need at hn;have hh:zbH h m g=true:=zgR.2 ⟨S.ok,hm,hg⟩;refine zbn (zl hm) (zbn (zl hg) (zbn rfl ?_));have ew:zdn (ix (ix h.Mons m zf).Guests g zx).Live page need=zby h m g page need:=by
  unfold zby;rw[hh,zvb.2 hn];rfl
 have e3:(lookOf h h.Buffer m g page need false).2.2=zby h m g page need:=by
  cases hl:zby h m g page need with
  | false=>unfold lookOf;rw[hl];rfl
  | true=>exact (ztY S false hl S.rt.e1).2
 refine zvW (by rw[show zmZ h m g page need=zdn (ix (ix h.Mons m zf).Guests g zx).Live page need from e3.trans ew.symm,show zf0 (ix (ix h.Mons m zf).Guests g zx).Live page need=zdn (ix (ix h.Mons m zf).Guests g zx).Live page need from rfl,zdO];rfl) ?_
 rw[show zmZ h m g page need=zby h m g page need from e3]
 cases hl:zby h m g page need with
 | false =>
  refine zbn rfl (zAC ?_)
  show [AV.one (.b (ieq (lookOf h h.Buffer m g page need false).2.1 (-1)))]=_
  unfold lookOf;rw[hl];rfl
 | true =>
  refine zvW rfl ?_;have L:=(ztY S false hl S.rt.e1).1;have S2:=L.op.safe S;have hs2:SmH (lookOf h h.Buffer m g page need false).1:=(ztW hs hh).shape.1;have W:=walked (S.ok.guest hm hg) (zlh.1 hl).2.2;have hm2:hasB m (ln (lookOf h h.Buffer m g page need false).1.Mons)=true:=by rw[L.op.like.has];exact hm
  have eG:=L.op.like.g m hm;have hg2:hasB g (ln (ix (lookOf h h.Buffer m g page need false).1.Mons m mZ).Guests)=true:=by rw[eG];exact hg
  have hL:hasB page (ln (ix (ix (lookOf h h.Buffer m g page need false).1.Mons m mZ).Guests g gZ).Live)=true:=by rw[eG];exact W.hp
  have eC:zba (ix (ix (ix (lookOf h h.Buffer m g page need false).1.Mons m mZ).Guests g gZ).Live page sZ) (ix (lookOf h h.Buffer m g page need false).1.Mons m mZ).Outer=zba (ix (ix (ix h.Mons m mZ).Guests g gZ).Live page sZ) (ix (lookOf h h.Buffer m g page need false).1.Mons m mZ).Outer:=by rw[eG]
  refine zbn (zl hm2) (zbn (zl hg2) (zbn (zl hL) (zbn (zl hm2) (zbn rfl ?_))));refine zbn (zbh.2 ((congrArg Slot.Page eC).trans L.cp)) (zbn rfl (zbn ?_ (zbn (zbi ((zM _).2 hs2)) (zAC ?_))))
  .show enough (zba _ _).Rights need=true
   exact (congrArg (fun s:Slot=>enough s.Rights need) eC).trans L.en
  .show [AV.one (.b (zoU (lookOf h h.Buffer m g page need false).1))]=_
   rw[zZ4 S2]
theorem zTK (a0:List Int)(ho:∀c∈zA [aS .u8 a0],CVOk c):∃N,ztl N a0=some [.one (.b true)]:=by
 have hb:zbE big [aS .u8 a0]:=fun c hc=>CVB.of_ok (ho c hc);have hl:=(len0 hb);exact ⟨5,z4Y (G:=fun a=>a=[.one (.b true)]) (zQV 5 a0 hl)⟩
theorem zPQ:Tryz.f3.params.toList.map (zch Tryz.prog 4)=[some (false,[.s .u8])]:=by kernel_rfl
theorem zH1:zU5 3 Tryz.f3.params.toList:=by
 refine zTL z1e zbe zx3 zu (zd9 (by kernel_rfl)) ?_
 intro avs hg;obtain ⟨h1,h2⟩:=hg;rw[zPQ]at h1;obtain ⟨v0,r0,rfl,e0,h1⟩:=zSi h1;cases List.map_eq_nil_iff.1 h1;obtain ⟨a0,rfl⟩:=z7Q e0;obtain ⟨N,hN⟩:=zTK a0 h2;exact ⟨zo [],N,12,(zXh N a0).trans hN⟩
theorem zS4 (H:Type)(ds:List (DataW H))(h:ds.length=Tryz.f3.params.toList.length):Rows.fnLedSpec.fn H ds={ results:=[.lit (.bool true)],args:=ds }:=by
 have hl:ds.length=1:=h.trans (by kernel_rfl)
 match ds,hl with
 | [d],_=>rfl
set_option maxRecDepth 100000 in
theorem zMw (os:Os)(started:os.Started)(H:Type)(enc:TypeId×Value->H) :
 ReturnsInHanded {} Tryz.checked os 3 .any (Rows.fnLedSpec.pre6 enc Tryz.prog Tryz.f3 Rows.fnLedRow.domain false) (Rows.fnLedSpec.post enc Tryz.prog Tryz.f3 false true false false):=by
 refine returnsInHanded_of_change_shaped (C:=Tryz.checked) own started (by kernel_rfl) Tryz.func3
  (ChangeSpec.witness6 (enc:=enc) (C:=Tryz.checked) false ⟨#[],#[.slice none 0 0],[]⟩ 8 (by kernel_rfl) (by kernel_rfl) (by kernel_rfl) (by kernel_rfl)) ?_
 intro W base args ds gs before hval hW _ hsz _ _;exact zJk (P:=Tryz.prog) z0P z1D rfl zS4 (by kernel_rfl) (B:=4) (by kernel_rfl) (by kernel_rfl) zH1 W base args ds gs before hval hW hsz
end
section
open Go Go.ChangeShapes Go.WideShapes Go.ChangeAt
abbrev PP:=Tryz.pinned.checked.prog
abbrev cc:=Rows.fnLedRow
abbrev ss:=Rows.fnLedSpec
theorem jf1:cc.wf (OpenSpec.ofChange ss)=true:=by kernel_rfl
theorem jf2:laidOutB PP=true:=by kernel_rfl
theorem jf3:mapsRowed PP=true:=by kernel_rfl
theorem jf4:Tryz.f3.params.all (PP.readableRec ·)=true:=by kernel_rfl
theorem jf5:namedTie PP cc.named ss.vars=true:=by kernel_rfl
theorem jf6:(cc.inPlace==PP.inPlace 3)=true:=by kernel_rfl
theorem jf7:(cc.unfollowed==PP.unfollowed 3)=true:=by kernel_rfl
theorem jf8:(cc.recurses==PP.recurses 3)=true:=by kernel_rfl
theorem jf9:(cc.named==PP.varsNamed 3)=true:=by kernel_rfl
theorem z7K:(cc.lifted==PP.liftsFinal)=true:=by kernel_rfl
theorem z7L:PP.stopsHeard=true:=by kernel_rfl
theorem z7M:PP.mayEnter=true:=by kernel_rfl
theorem z7N:(cc.plainKeys==PP.plainKeys)=true:=by kernel_rfl
theorem z7O:(PP.make==some cc.make)=true:=by kernel_rfl
theorem zRk:joinedFacts PP 3 Tryz.f3 ss cc=true:=by
 unfold joinedFacts;simp only[qD]
 repeat' apply And.intro
 all_goals first|with_reducible exact jf1|with_reducible exact jf2|with_reducible exact jf3|with_reducible exact jf4|with_reducible exact jf5|with_reducible exact jf6|with_reducible exact jf7|with_reducible exact jf8|with_reducible exact jf9|with_reducible exact z7K|with_reducible exact z7L|with_reducible exact z7M|with_reducible exact z7N|with_reducible exact z7O|kernel_rfl
theorem said_fnLed:Rows.FnLedSaid :=
 OpenClaim.holds_of_wide 3 Tryz.f3 rfl rfl rfl rfl rfl rfl rfl ⟨rfl,rfl,rfl,rfl,rfl⟩ rfl rfl rfl rfl rfl (by kernel_rfl) Tryz.func3 zRk
  (qE (by kernel_rfl)) (by unfold Func.isWrapper;first|(rw [if_pos (by decide +kernel)];kernel_rfl)|(rw [if_neg (by decide +kernel)];exact ⟨rfl,rfl⟩))
  (fun os started H enc _=>zMw os started H enc)
end
end
end Go.Proofs.YtdaahiceaagpdaaGreat.E
