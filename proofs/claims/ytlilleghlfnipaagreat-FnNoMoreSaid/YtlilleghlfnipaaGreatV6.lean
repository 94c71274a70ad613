/- What is proved here: a part of the proof that the statement of this claim holds (several texts of wip/, laid together). -/
import Derived.Test.YtlilleghlfnipaaGreatV5
namespace Go.Proofs.YtlilleghlfnipaaGreat.E
open Go
set_option linter.unusedVariables false
set_option maxRecDepth 100000
set_option linter.unusedSimpArgs false
set_option linter.unusedSectionVars false
noncomputable section
def zcO (h:Host):List Bare:=(List.range h.Mons.length).map fun (i:Nat)=>zo h (i:Int)
theorem zhu (h:Host):(zcO h).length=h.Mons.length:=by simp [zcO]
theorem zjr (h:Host)(m:Int):hasB m (ln (zcO h))=hasB m (ln h.Mons):=by unfold ln;rw [zhu]
theorem ziD {h:Host}{m:Int}(hm:hasB m (ln h.Mons)=true)(d:Bare):ix (zcO h) m d=zo h m:=by
 have hm':=zl.1 hm;unfold ln at hm';have hk:m.toNat<(zcO h).length:=by rw [zhu];omega
 have:=zju hk d;rw [show ((m.toNat:Nat):Int)=m by omega] at this
 rw [this];simp [zcO,show max m 0=m by omega]
theorem zOe {h r:Host}(hl:r.Mons.length=h.Mons.length)(e:∀i,zo r i=zo h i):zcO r=zcO h:=by
 unfold zcO;rw [hl];exact List.map_congr_left fun i _=>e _
theorem zLW {h:Host}(S:Safe h)(a:GAct):zcO (zdw h a)=zBQ (zcO h) a/\(zhT a=true->zg1 h a=zOh (zcO h) a):=by
 obtain ⟨_,hl,hs,ht⟩:=zPS S a;have key:zhT a=true->zcO (zdw h a)=(cond (hasB a.M (ln h.Mons)) (up (zcO h) a.M (zBO (zo h a.M) a)) (zcO h)):=by
  intro hi;rw [hi] at hs;cases hm:hasB a.M (ln h.Mons) with
  | false =>
   rw [cond_false];refine zFq ⟨[],[],[],0⟩ (by rw [zhu,zhu,hl]) fun i hi'=>?_
   rw [zjr] at hi';rw [ziD hi'];have hi2:hasB i (ln h.Mons)=true:=by unfold ln at hi' ⊢;rwa [<- hl]
   rw [ziD hi2,hs i];have:ieq i a.M=false:=zbv.2 fun e=>by rw [e,hm] at hi2;cases hi2
   rw [this];rfl
  | true =>
   rw [cond_true];refine zFq ⟨[],[],[],0⟩ (by rw [zbo,zhu,zhu,hl]) fun i hi'=>?_
   rw [zjr] at hi';rw [ziD hi',hs i];have hi2:hasB i (ln h.Mons)=true:=by unfold ln at hi' ⊢;rwa [<- hl]
   by_cases e:i=a.M
   ·rw [e,zba.2 rfl,zT (by rw [zjr];exact hm)];rfl
   ·rw [zbv.2 e,zbb (zl.1 hm).1 (zl.1 hi2).1 (Ne.symm e),ziD hi2];rfl
 have e2:zhT a=false->zcO (zdw h a)=zcO h:=fun hi=>zOe hl fun i=>by rw [hs i,hi];rfl
 have ke:zhT a=true->win a.Kind 1 17=true/\win a.Kind 13 17=false:=by
  intro hi;unfold zhT at hi;cases h1:win a.Kind 1 17<;>cases h2:win a.Kind 13 17<;>rw [h1,h2] at hi<;>first|exact ⟨rfl,rfl⟩|cases hi
 constructor
 ·unfold zBQ;cases hi:zhT a with
  | true =>
   obtain ⟨h1,h2⟩:=ke hi;rw [h1,h2,cond_true,cond_false,zjr,key hi];cases hm:hasB a.M (ln h.Mons) with
   | true=>rw [cond_true,cond_true,ziD hm]
   | false=>rfl
  | false =>
   rw [e2 hi];unfold zhT at hi;cases h1:win a.Kind 1 17 with
   | false=>rfl
   | true =>
    cases h2:win a.Kind 13 17 with
    | true=>rfl
    | false=>rw [h1,h2] at hi;cases hi
 ·intro hi;rw [ht hi];obtain ⟨h1,h2⟩:=ke hi;unfold zOh;rw [h1,h2,cond_true,cond_false,zjr];cases hm:hasB a.M (ln h.Mons) with
  | true=>rw [cond_true,ziD hm]
  | false =>
   rw [cond_false,seen_none hm];have hs1:=(zHe a.G).2;have hn:=zo3;unfold zBP;simp only [hs1,zgW];unfold zst zdU ziC znU ztl zIJ zkT;simp only [hn,zpc hn,cond_false];cases h10:ieq a.Kind 10 with
   | true =>
    have:a.Kind=10:=zba.1 h10;rw [this];rfl
   | false =>
    cases ieq a.Kind 1<;>cases ieq a.Kind 2<;>cases ieq a.Kind 3<;>cases ieq a.Kind 4<;>cases ieq a.Kind 5<;>cases ieq a.Kind 6<;>cases ieq a.Kind 7<;>cases ieq a.Kind 8<;>cases ieq a.Kind 9<;>cases ieq a.Kind 11<;>rfl
def zC1:List GAct->List Told->List Told
 | a :: l,t :: ts=>bif zhT a then t :: zC1 l ts else zC1 l ts
 | _,_=>[]
structure Live (u:Host×List Told) (v:List Bare×List Told):Prop where
 safe:Safe u.1
 seen:zcO u.1=v.1
def zxh:List GAct->Host->List Told
 | [],_=>[]
 | a :: l,h=>zg1 h a :: zxh l (zdw h a)
def zRZ:List GAct->List Bare->List Told
 | [],_=>[]
 | a :: l,b=>zOh b a :: zRZ l (zBQ b a)
def zqo:List GAct->Host->Host
 | [],h=>h
 | a :: l,h=>zqo l (zdw h a)
def zSP:List GAct->List Bare->List Bare
 | [],b=>b
 | a :: l,b=>zSP l (zBQ b a)
theorem zNL:∀(l:List GAct) (u:Host×List Told),zwq l u=(zqo l u.1,u.2++zxh l u.1)
 | [],u=>by simp [zwq,zqo,zxh]
 | a :: l,u=>by rw [zwq,zNL l];simp [zqo,zxh,ap]
theorem zQA:∀(l:List GAct) {h:Host},Safe h->Safe (zqo l h)/\zcO (zqo l h)=zSP l (zcO h)/\zC1 l (zxh l h)=zC1 l (zRZ l (zcO h))/\(zqo l h).Mons.length=h.Mons.length
 | [],h,S=>⟨S,rfl,rfl,rfl⟩
 | a :: l,h,S=>by
  have h1:=zPS S a;have h2:=zLW S a;obtain ⟨e1,e2,e3,e4⟩:=zQA l h1.1;refine ⟨e1,by show zcO (zqo l (zdw h a))=zSP l (zBQ (zcO h) a);rw [e2,h2.1],?_,e4.trans h1.2.1⟩
  show (cond (zhT a) _ _)=(cond (zhT a) _ _)
  cases hi:zhT a with
  | false=>rw [cond_false,cond_false,e3,h2.1]
  | true=>rw [cond_true,cond_true,e3,h2.1,h2.2 hi]
theorem cz8 (q:Int)(hq:0<=q):zpZ.countP (fun s=>ieq s.Page q)=0:=by
 rw [List.countP_eq_zero];intro s hs;have:=(List.mem_replicate.1 hs).2;rw [this]
 show ¬ ieq (-1) q=true
 rw [zba];omega
theorem zMa {p:List Ins}(h:zcZ p=true):GOk (zdO p):=⟨h,rfl,rfl,rfl,rfl,rfl,rfl,rfl,rfl⟩
theorem zRd {ps:List (List Ins)}(h1:1<=ps.length)(h:∀p∈ps,zcZ p=true):MOk (ze8 ps):=by
 have e8:∀s∈zpZ,s=noSlot:=fun s hs=>(List.mem_replicate.1 hs).2;refine ⟨?_,?_,?_,rfl,fun s hs=>.inl (e8 s hs),rfl,rfl,Nat.zero_le _,rfl,rfl,rfl,fun g hg=>?_,fun p hp=>?_⟩
 ·show 1<=((ps.take 2).map zdO).length
  simp;omega
 ·show ((ps.take 2).map zdO).length<=2
  simp;omega
 ·show ((ps.take 2).map (fun _=>zhA)).length=((ps.take 2).map zdO).length
  simp
 ·obtain ⟨p,hp,rfl⟩:=List.mem_map.1 hg;exact zo0.2 (zMa (h p (List.mem_of_mem_take hp)))
 ·have hp':=zl.1 hp;have e:p=0\/p=1\/p=2\/p=3\/p=4\/p=5\/p=6\/p=7:=by omega
  rcases e with rfl|rfl|rfl|rfl|rfl|rfl|rfl|rfl<;>rfl
def zVf (ps:List (List (List Ins))):Prop:=1<=ps.length/\∀p∈ps,1<=p.length/\∀x∈p,zcZ x=true
theorem zOT {ps:List (List (List Ins))}(h:zVf ps):Safe (zem ps):=by
 have hmem:∀x∈(zem ps).Mons,∃p∈ps,x=ze8 p:=fun x hx=>by
  obtain ⟨p,hp,rfl⟩:=List.mem_map.1 hx;exact ⟨p,List.mem_of_mem_take hp,rfl⟩
 have hO:∀x∈(zem ps).Mons,x.Outer=zpZ:=fun x hx=>by
  obtain ⟨p,_,rfl⟩:=hmem x hx;rfl
 have H:HOk (zem ps):=by
  refine ⟨rfl,fun c hc=>?_,?_,?_,rfl,rfl,fun x hx=>?_,fun q hq=>?_⟩
  ·have:c=[0,0,0,0]:=(List.mem_replicate.1 hc).2;rw [this];rfl
  ·show 1<=((ps.take 3).map ze8).length
   have:=h.1;simp;omega
  ·show ((ps.take 3).map ze8).length<=3
   simp;omega
  ·obtain ⟨p,hp,rfl⟩:=hmem x hx;exact zRd (h.2 p hp).1 (h.2 p hp).2
  ·have:zdW (zem ps).Mons q=0:=by
    unfold zdW;have:(zem ps).Mons.map (fun x=>cPg x q)=(zem ps).Mons.map (fun _=>0):=List.map_congr_left fun x hx=>by
     unfold cPg;rw [hO x hx];exact cz8 q hq
    rw [this];generalize (zem ps).Mons=l
    induction l with
    | nil=>rfl
    | cons x l ih=>rw [List.map_cons,List.sum_cons,ih]
   omega
 refine ⟨H,fun m hm g hg=>?_,fun e he=>(by cases he),fun e he=>(by cases he)⟩
 obtain ⟨p,hp,e⟩:=hmem _ (ziM hm mZ);rw [e] at hg ⊢;have hg1:hasB g (ln ((p.take 2).map zdO))=true:=hg;have ht:ix (ze8 p).Tables g kZ=zhA:=by
  have:hasB g (ln ((p.take 2).map (fun _=>zhA)))=true:=by
   unfold ln at hg1 ⊢;simpa using hg1
  obtain ⟨k,hk,_,e2⟩:=ztA this kZ
  show ix ((p.take 2).map (fun _=>zhA)) g kZ=_
  rw [e2];simp
 have hl:(ix (ze8 p).Guests g gZ).Live=ziz:=by
  obtain ⟨k,hk,_,e2⟩:=ztA hg1 gZ
  show (ix ((p.take 2).map zdO) g gZ).Live=_
  rw [e2];simp [zdO]
 rw [ht,hl]
 show KOk zhA ziz zpZ
 refine ⟨rfl,rfl,fun i hi=>?_⟩;have hi':=zl.1 hi;have:ln ziz=4:=rfl;rw [this] at hi';have e4:i=0\/i=1\/i=2\/i=3:=by omega
 rcases e4 with rfl|rfl|rfl|rfl<;>rfl
theorem zwi:∀(l:List Slot) (n:Int),0<=n->n+l.length<=1000000->mapped l n=n+(l.countP fun s=>ine s.Page (-1))
 | [],n,_,_=>by simp [mapped]
 | s :: l,n,h0,h1=>by
  rw [mapped];simp only [List.length_cons] at h1;have hw:zK .i64 n 1=n+1:=zxU (by omega) (by omega)
  rw [List.countP_cons];cases hs:ine s.Page (-1) with
  | true =>
   rw [cond_true,hw,zwi l (n+1) (by omega) (by omega)]
   simp;omega
  | false =>
   rw [cond_false,zwi l n h0 (by omega)]
   simp
theorem zqz {α:Type}(P:α->Bool):∀(l:List α) (i:Nat),(idxs P l i).length=l.countP P
 | [],i=>rfl
 | x :: l,i=>by
  rw [idxs,List.countP_cons];cases P x with
  | true=>rw [cond_true,List.length_cons,zqz P l];simp
  | false=>rw [cond_false,zqz P l];simp
theorem zJP {h:Host}(H:HOk h){m:Int}(hm:hasB m (ln h.Mons)=true):zjR h m=((ix h.Mons m mZ).Outer.countP fun s=>ine s.Page (-1)):=by
 have e:zjR h m=mapped (ix h.Mons m mZ).Outer 0:=by unfold zjR;rw [hm];rfl
 rw [e,zwi _ _ (by omega) (by have:=(H.mon hm).o8;omega)]
 omega
theorem zSZ {h:Host}(H:HOk h){m:Int}(hm:hasB m (ln h.Mons)=true):0<=zjR h m/\zjR h m<=8:=by
 rw [zJP H hm];have:=List.countP_le_length (p:=fun s:Slot=>ine s.Page (-1)) (l:=(ix h.Mons m mZ).Outer);have:=(H.mon hm).o8;omega
theorem zKG {h:Host}{m:Int}(hm:hasB m (ln h.Mons)=true):zkY h m=ix h.Mons m mZ:=by unfold zkY;rw [hm];rfl
theorem zL8 {h:Host}(H:HOk h){m:Int}(hm:hasB m (ln h.Mons)=true):((zqu h m).length:Int)<=zjR h m:=by
 rw [zJP H hm];unfold zqu;rw [zqz,zKG hm];have:∀o:List Slot,o.countP zl4<=(o.countP fun s=>ine s.Page (-1)):=fun o=>List.countP_mono_left fun s _ hs=>by
  unfold zl4 at hs;rw [Bool.and_eq_true] at hs;exact hs.1
 have:=this (ix h.Mons m mZ).Outer;omega
theorem zQy {h:Host}(H:HOk h){m:Int}(hm:hasB m (ln h.Mons)=true):(zxu h m).length<=8:=by
 unfold zxu zvP;rw [zqz,zKG hm];have:=List.countP_le_length (p:=fun b:Bool=>b) (l:=(ix h.Mons m mZ).Dirty);have:=(H.mon hm).d8;omega
theorem zRF (h:Host):(zxQ h).length=h.Mons.length:=by simp [zxQ]
def zl9 (k:Kept):Nat:=k.Known.countP fun b=>b
theorem zS3 {h:Host}(S:Safe h){m g:Int}(hm:hasB m (ln h.Mons)=true)(hg:hasB g (ln (ix h.Mons m mZ).Guests)=true):zl9 (ix (ix h.Mons m mZ).Tables g kZ)<=4:=by
 have h1:=(S.rt.t m hm g hg).l1;have h2:=(zjO.1 (S.ok.guest hm hg).l).2;unfold ln at h2;have:=List.countP_le_length (p:=fun b:Bool=>b) (l:=(ix (ix h.Mons m mZ).Tables g kZ).Known);unfold zl9;omega
theorem zNV:∀(l:List GAct) (u:Host×List Told),SmH u.1->SmH (zwq l u).1
 | [],u,h=>h
 | a :: l,u,h=>zNV l (zdw u.1 a,ap u.2 [zg1 u.1 a]) (zNT h)
theorem zS6 {h:Host}(L:zxn h):Safe h/\SmH h:=by
 obtain ⟨ps,l,hS,hp,rfl⟩:=L;refine ⟨?_,zNV _ _ (zNU hS)⟩;unfold ztw;rw [zNL];exact (zQA _ (zOT hp)).1
theorem zvW {ρ:Type}(K:Int->Option ρ):∀(l:List Bool) (i n:Nat),n+l.length<=1048576 ->
 goL (fun _ (b:Bool) (t:Int) k=>bif b then k (zK .i64 t 1) else k t) K l i (n:Int)=K ((n+l.countP fun b=>b:Nat):Int)
 | [],_,_,_=>rfl
 | b :: l,i,n,h=>by
  simp only [List.length_cons] at h;cases b
  ·exact zvW K l (i+1) n (by omega)
  ·show goL _ K l (i+1) (zK .i64 (n:Int) 1)=_
   have hw:zK .i64 (n:Int) 1=((n+1:Nat):Int):=by rw [zhP (by omega) (by omega)];omega
   rw [hw,zvW K l (i+1) (n+1) (by omega),List.countP_cons]
   simp only [if_true]
   congr 2
   omega
abbrev zni (k:Kept):Bool:=pc (k.Known.length<=1048576)
abbrev zrg (k:Kept):Int:=(zl9 k:Int)
def zuD:Run:=rF1 (dT .kept) (fun b=>((zni b),[aI (zrg b)]))
def zyP (N:Nat)(a0:Kept):OA :=
 (iter (σ:=(Int×(Int×(lB×(lS×Unit))))) N (fun r2 s3=>(cond (ilt s3.2.1 (ln s3.2.2.1)) (oN (inb s3.2.1 (ln s3.2.2.1)) (cond (ix s3.2.2.1 s3.2.1 false) (r2 ((zK .i64 s3.1 1),((zK .i64 s3.2.1 1),(s3.2.2.1,(s3.2.2.2.1,()))))) (r2 (s3.1,((zK .i64 s3.2.1 1),(s3.2.2.1,(s3.2.2.2.1,()))))))) (some [(aI s3.1)]))) (0,(0,(a0.Known,(a0.Slots,())))))
def zIp:FuncId->Nat->Option Tmpl:=zA [(6,0,{ n:=20,tm:=[(1,.lp 0 0),(3,ti),(4,ti)],lo:=[(0,[.sl 0 [],.sl 1 []])],ro:=[(0,.bool,false),(1,.slot,false)] })]
theorem zHQ (a0:Kept)(hc:(zni a0)=true):∃N,zyP N a0=some [aI (zrg a0)]:=by
 have hs:=zJ.1 hc;have hl:a0.Known.length<=big:=Nat.le_trans hs (by decide)
 refine zc9 fun N hNN=>?_;unfold zyP oN;refine (zby a0.Known (fun i (t:Int)=>(t,(i:Int),a0.Known,a0.Slots,())) _ (fun _ (x:Bool) (t:Int) κ=>bif x then κ (zK .i64 t 1) else κ t) (fun (t:Int)=>(some [(.one (.i .i64 t))])) (fun i hi t rec=>?_) (fun t rec=>?_) _ (0) (hNN hl)).trans ?_
 ·simp only [zcb hi,zbx hi,zbF hi,zbu hi hl,cT]
 ·simp only [zb6,cF]
 exact (zvW _ _ 0 0 (by simpa using hs)).trans (by rw [Nat.zero_add];rfl)
theorem zCC:Holds Tryz.prog 6 zuD:=kF1 zGl zbs ztJ zB zIp zHQ
def zP6:zS:=[(6,zuD)]++zP5
theorem zGm:zD zP6:=zk zCC zGl
theorem zKD {α β:Type}{f:α->β}{l:List α}{x:β}{xs:List β}(h:l.map f=x :: xs):∃a r,l=a :: r/\f a=x/\r.map f=xs:=by
 cases l with
 | nil=>cases h
 | cons a r =>
  simp only [List.map_cons,List.cons.injEq] at h;exact ⟨a,r,rfl,h.1,h.2⟩
theorem zXt {a:AV}{ct:CTy}(h:some a.sh=some (false,[ct])):∃c,a = .one c/\c.ty=ct:=by
 cases a with
 | one c =>
  simp only [AV.sh,Option.some.injEq,Prod.mk.injEq,List.cons.injEq,and_true,true_and] at h;exact ⟨c,rfl,h⟩
 | agg l=>simp [AV.sh] at h
theorem zYe {a:AV}{t:Ty}(h:some a.sh=some (false,[.s t])):∃l:List t.den,a = .one (.s t l):=by
 obtain ⟨c,rfl,hc⟩:=zXt h;obtain ⟨l,rfl⟩:=ziG hc;exact ⟨l,rfl⟩
section
open Go Go.ChangeShapes Go.WideShapes Go.ChangeAt
abbrev zE0 (_:List Int):Bool:=true
abbrev zC5 (l:List Int):Bool:=igt (ln l) 1048576
def zG1:Run:=rF1 (dS .u8) (fun b=>((zE0 b),[aB (zC5 b)]))
def zM8 (N:Nat)(a0:List Int):OA :=
 (some [(aB (igt (ln a0) 1048576))])
theorem zQ0 (a0:List Int)(hc:(zE0 a0)=true):∃N,zM8 N a0=some [aB (zC5 a0)]:=by
 refine ⟨0,?_⟩;unfold zM8
 first|rfl|(simp only [*,zC5,cT,cF]<;>rfl)|simp_all [Ty.cells,zC5]
theorem zMc:Holds Tryz.prog 4 zG1:=kF1 zGm zbs ztJ zB (zA []) zQ0
def zUK:zS:=[(4,zG1)]++zP6
theorem zSF:zD zUK:=zk zMc zGm
theorem zIB {a b:Int}(h:a<=b):igt a b=false:=decide_eq_false (by omega)
def zkH (N:Nat)(a0:List Int):OA :=
 (oN (zE0 a0) (cond (zC5 a0) oT (oN (zgG a0) (iter (σ:=(Int×(lM×(lN×(lE×(lE×Unit)))))) N (fun r2 s3=>let y2:=(⟨s3.2.1,s3.2.2.1,s3.2.2.2.1,s3.2.2.2.2.1⟩:Host); (cond (ilt s3.1 (ln s3.2.2.1)) (iter (σ:=(Int×(Int×(Int×(lM×(lN×(lE×(lE×Unit)))))))) N (fun r4 s5=>let y5:=s5.2.2.2.2.2.2.1;let y3:=s5.2.2.2.2.1;let y1:=(ix y3 s5.1 zf);let y4:=(ix y1.Tables s5.2.2.1 zgO);let y0:=(⟨s5.2.2.2.1,y3,s5.2.2.2.2.2.1,y5⟩:Host); (oN (inb s5.1 (ln y3)) (cond (ilt s5.2.2.1 (ln y1.Guests)) (oN (inb s5.1 (ln y3)) (oN (inb s5.2.2.1 (ln y1.Tables)) (oN (zni y4) (r4 (s5.1,((zK .i64 s5.2.1 (zrg y4)),((zK .i64 s5.2.2.1 1),(s5.2.2.2.1,(y3,(s5.2.2.2.2.2.1,(y5,()))))))))))) (oN (zkq y0 s5.1) (cond (igt (zl7 y0 s5.1) 8) oF (cond (igt s5.2.1 8) oF (oN (zrz y0 s5.1) (cond (igt (ln (zv5 y0 s5.1)) 8) oF (oN (znY y0 s5.1) (oN (zkq y0 s5.1) (cond (igt (ln (zmQ y0 s5.1)) (zl7 y0 s5.1)) oF (r2 ((zK .i64 s5.1 1),(s5.2.2.2.1,(y3,(s5.2.2.2.2.2.1,(y5,()))))))))))))))))) (s3.1,(0,(0,(s3.2.1,(s3.2.2.1,(s3.2.2.2.1,(s3.2.2.2.2.1,())))))))) (oN (zrA y2) (some [(aB (ieq (ln (zv6 y2)) (ln s3.2.2.1)))])))) (0,((zf6 a0).Memory,((zf6 a0).Mons,((zf6 a0).Buffer,((zf6 a0).IoBuffer,())))))))))
def zs3:FuncId->Nat->Option Tmpl:=zA [(3,0,{ n:=73,tm:=[(3,.lp 0 0),(4,ti)],lo:=[(0,[.sl 0 [],.sl 1 [],.sl 2 [],.sl 3 []])],ro:=[(0,(.sl .int),true),(1,.mon,true),(2,.entry,true),(3,.entry,true)] }),(3,2,{ n:=73,tm:=[(3,.lp 0 0),(4,ti),(5,ti),(6,ti)],lo:=[(0,[.sl 0 [],.sl 1 [],.sl 2 [],.sl 3 []])],ro:=[(0,(.sl .int),true),(1,.mon,true),(2,.entry,true),(3,.entry,true)] })]
theorem zIg (N:Nat)(a0:List Int):evalFn (cQ zUK zj7 zU3 zjk) zs3 N 12 3 [aS .u8 a0]=zkH N a0:=by kernel_rfl
theorem zB6 (N:Nat)(a0:List Int)(hl:a0.length<=big)(hN:4<N):Ends (fun a=>a=[.one (.b true)]) (zkH N a0):=by
 unfold zkH oN
 conv=>zeta
 refine zbB rfl (zcP (fun _=>zB5 rfl) (fun _=>zbB (zB4 hl) ?_));obtain ⟨S,hs⟩:=zS6 (zwZ (zB4 hl)).2;generalize zf6 a0=h at S hs;have hS:zb3 h:=(zO h).2 hs;have hn3:=S.ok.n3;refine zse (fun n s=>∃i:Nat,s=((i:Int),h.Memory,h.Mons,h.Buffer,h.IoBuffer,())/\i+n=h.Mons.length) ?_ N h.Mons.length _ ⟨0,rfl,by omega⟩ (by omega)
 rintro n s rec ⟨i,rfl,hi⟩ hrec
 dsimp only
 refine zcP (fun hlt=>?_) (fun hge=>?_)
 ·have hm:hasB (i:Int) (ln h.Mons)=true:=zl.2 ⟨by omega,of_decide_eq_true hlt⟩
  have hmi:inb (i:Int) (ln h.Mons)=true:=zx hm;have hM:=S.ok.mon hm;have hg2:=hM.g2;have hu:=zSZ S.ok hm;refine zse (fun n s=>∃(g:Nat) (k:Int),s=((i:Int),k,(g:Int),h.Memory,h.Mons,h.Buffer,h.IoBuffer,())/\g+n=(ix h.Mons i mZ).Guests.length/\0<=k/\k<=4*g) ?_ N (ix h.Mons i mZ).Guests.length _ ⟨0,0,rfl,by omega,by omega,by omega⟩ (by omega)
  rintro n' s rec' ⟨g,k,rfl,hg,hk0,hk4⟩ hrec'
  dsimp only
  refine zbB hmi (zcP (fun hlt'=>?_) (fun hge'=>?_))
  ·have hg':hasB (g:Int) (ln (ix h.Mons i mZ).Guests)=true:=zl.2 ⟨by omega,of_decide_eq_true hlt'⟩
   have ht:hasB (g:Int) (ln (ix h.Mons i mZ).Tables)=true:=by
    have:=(zl.1 hg');have e:=hM.gt;refine zl.2 ⟨this.1,?_⟩;unfold ln at this ⊢;omega
   have hkn:=zS3 S hm hg';have hc:zni (ix (ix h.Mons i mZ).Tables g kZ)=true:=zbc (((hs.2.1.2 _ (zbj hmi _)).2.2.2.2.2.2 _ (zbj (zx ht) _)).1);have hlt2:(g:Int)<ln (ix h.Mons i mZ).Guests:=of_decide_eq_true hlt';unfold ln at hlt2;have hkv:zrg (ix (ix h.Mons i zf).Tables g zgO)=((zl9 (ix (ix h.Mons i mZ).Tables g kZ):Nat):Int):=rfl;have hw1:zK .i64 (g:Int) 1=((g+1:Nat):Int):=by rw [zhP (by omega) (by omega)];omega
   have hw2:zK .i64 k ((zl9 (ix (ix h.Mons i mZ).Tables g kZ):Nat):Int)=k+((zl9 (ix (ix h.Mons i mZ).Tables g kZ):Nat):Int):=zhP (by omega) (by omega)
   refine zbB hmi (zbB (zx ht) (zbB hc (hrec' (n'-1) _ (by omega) ⟨g+1,k+((zl9 (ix (ix h.Mons i mZ).Tables g kZ):Nat):Int),?_,by omega,by omega,by omega⟩)))
   rw [hkv,hw1,hw2]
  ·have hge2:¬ ((g:Int)<ln (ix h.Mons i mZ).Guests):=of_decide_eq_false hge';unfold ln at hge2;have hlt2:(i:Int)<ln h.Mons:=of_decide_eq_true hlt;unfold ln at hlt2;have hw1:zK .i64 (i:Int) 1=((i+1:Nat):Int):=by rw [zhP (by omega) (by omega)];omega
   have hd:=zQy S.ok hm;have hgl:=zL8 S.ok hm;exact zbB rfl (zxw (zIB hu.2) (zxw (zIB (by omega)) (zbB (zbc hS) (zxw (zIB (by show ((zxu h i).length:Int)<=8;omega)) (zbB (zbc hS) (zbB rfl (zxw (zIB hgl) (hrec (n-1) _ (by omega) ⟨i+1,by rw [hw1],by omega⟩))))))))
 ·refine zbB (zbc hS) (zB5 ?_);have:=zRF h
  show [AV.one (.b (ieq ((zxQ h).length:Int) (h.Mons.length:Int)))]=_
  rw [this,ztz]
theorem zEd (a0:List Int)(ho:∀c∈zn [aS .u8 a0],CVOk c):∃N,zkH N a0=some [.one (.b true)]:=by
 have hb:zci big [aS .u8 a0]:=fun c hc=>CVB.of_ok (ho c hc);have hl:=(len0 hb);exact ⟨5,zVS (G:=fun a=>a=[.one (.b true)]) (zB6 5 a0 hl (by decide))⟩
theorem zBa:Tryz.f3.params.toList.map (zbZ Tryz.prog 4)=[some (false,[.s .u8])]:=by kernel_rfl
theorem zvC:zM6 3 Tryz.f3.params.toList:=by
 refine zLX zSF zbs ztJ zB (zeW (by kernel_rfl)) ?_
 intro avs hg;obtain ⟨h1,h2⟩:=hg;rw [zBa] at h1;obtain ⟨v0,r0,rfl,e0,h1⟩:=zKD h1;cases List.map_eq_nil_iff.1 h1;obtain ⟨a0,rfl⟩:=zYe e0;obtain ⟨N,hN⟩:=zEd a0 h2;exact ⟨zs3,N,12,(zIg N a0).trans hN⟩
theorem zDV (H:Type)(ds:List (DataW H))(h:ds.length=Tryz.f3.params.toList.length):Rows.fnNoMoreSpec.fn H ds={ results:=[.lit (.bool true)],args:=ds }:=by
 have hl:ds.length=1:=h.trans (by kernel_rfl)
 match ds,hl with
 | [d],_=>rfl
set_option maxRecDepth 100000 in
theorem zyp (os:Os)(started:os.Started)(H:Type)(enc:TypeId×Value->H) :
 ReturnsInHanded {} Tryz.checked os 3 .any (Rows.fnNoMoreSpec.pre6 enc Tryz.prog Tryz.f3 Rows.fnNoMoreRow.domain false) (Rows.fnNoMoreSpec.post enc Tryz.prog Tryz.f3 false true false false):=by
 refine returnsInHanded_of_change_shaped (C:=Tryz.checked) own started (by kernel_rfl) Tryz.func3
  (ChangeSpec.witness6 (enc:=enc) (C:=Tryz.checked) false ⟨#[],#[.slice none 0 0],[]⟩ 8 (by kernel_rfl) (by kernel_rfl) (by kernel_rfl) (by kernel_rfl)) ?_
 intro W base args ds gs before hval hW _ hsz _ _;exact zC6 (P:=Tryz.prog) zSf zS4 rfl zDV (by kernel_rfl) (B:=4) (by kernel_rfl) (by kernel_rfl) zvC W base args ds gs before hval hW hsz
end
section
open Go Go.ChangeShapes Go.WideShapes Go.ChangeAt
abbrev PP:=Tryz.pinned.checked.prog
abbrev cc:=Rows.fnNoMoreRow
abbrev ss:=Rows.fnNoMoreSpec
theorem jf1:cc.wf (OpenSpec.ofChange ss)=true:=by kernel_rfl
theorem jf2:laidOutB PP=true:=by kernel_rfl
theorem jf3:mapsRowed PP=true:=by kernel_rfl
theorem jf4:Tryz.f3.params.all (PP.readableRec ·)=true:=by kernel_rfl
theorem jf5:namedTie PP cc.named ss.vars=true:=by kernel_rfl
theorem jf6:(cc.inPlace==PP.inPlace 3)=true:=by kernel_rfl
theorem jf7:(cc.unfollowed==PP.unfollowed 3)=true:=by kernel_rfl
theorem jf8:(cc.recurses==PP.recurses 3)=true:=by kernel_rfl
theorem jf9:(cc.named==PP.varsNamed 3)=true:=by kernel_rfl
theorem zX8:(cc.lifted==PP.liftsFinal)=true:=by kernel_rfl
theorem zX9:PP.stopsHeard=true:=by kernel_rfl
theorem zYa:PP.mayEnter=true:=by kernel_rfl
theorem zYb:(cc.plainKeys==PP.plainKeys)=true:=by kernel_rfl
theorem zYc:(PP.make==some cc.make)=true:=by kernel_rfl
theorem zJR:joinedFacts PP 3 Tryz.f3 ss cc=true:=by
 unfold joinedFacts;simp only [Bool.and_eq_true]
 repeat' apply And.intro
 all_goals first|with_reducible exact jf1|with_reducible exact jf2|with_reducible exact jf3|with_reducible exact jf4|with_reducible exact jf5|with_reducible exact jf6|with_reducible exact jf7|with_reducible exact jf8|with_reducible exact jf9|with_reducible exact zX8|with_reducible exact zX9|with_reducible exact zYa|with_reducible exact zYb|with_reducible exact zYc|kernel_rfl
theorem said_fnNoMore:Rows.FnNoMoreSaid :=
 OpenClaim.holds_of_wide 3 Tryz.f3 rfl rfl rfl rfl rfl rfl rfl ⟨rfl,rfl,rfl,rfl,rfl⟩ rfl rfl rfl rfl rfl (by kernel_rfl) Tryz.func3 zJR
  (of_decide_eq_true (by kernel_rfl)) (by unfold Func.isWrapper;first|(rw [if_pos (by decide +kernel)];kernel_rfl)|(rw [if_neg (by decide +kernel)];exact ⟨rfl,rfl⟩))
  (fun os started H enc _=>zyp os started H enc)
end
end
end Go.Proofs.YtlilleghlfnipaaGreat.E
