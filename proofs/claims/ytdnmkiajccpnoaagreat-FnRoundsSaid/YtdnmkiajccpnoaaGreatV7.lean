/- What is proved here: a part of the proof that the statement of this claim holds (several texts of wip/, laid together). -/
import Derived.Test.YtdnmkiajccpnoaaGreatV6
namespace Go.Proofs.YtdnmkiajccpnoaaGreat.E
open Go
set_option linter.unusedVariables false
set_option maxRecDepth 100000
set_option linter.unusedSimpArgs false
set_option linter.unusedSectionVars false
noncomputable section
def zdz (h:Host):List Bare:=(List.range h.Mons.length).map fun (i:Nat)=>zy h (i:Int)
theorem zjI (h:Host):(zdz h).length=h.Mons.length:=by simp[zdz]
theorem zl4 (h:Host)(m:Int):hasB m (ln (zdz h))=hasB m (ln h.Mons):=by unfold ln;rw[zjI]
theorem zk9 {h:Host}{m:Int}(hm:hasB m (ln h.Mons)=true)(d:Bare):ix (zdz h) m d=zy h m:=by
 have hm':=zB.1 hm;unfold ln at hm';have hk:m.toNat<(zdz h).length:=by rw[zjI];omega
 have:=zmh hk d;rw[show ((m.toNat:Nat):Int)=m by omega] at this
 rw[this];simp[zdz,show max m 0=m by omega]
theorem zZT {h r:Host}(hl:r.Mons.length=h.Mons.length)(e:∀i,zy r i=zy h i):zdz r=zdz h:=by
 unfold zdz;rw[hl];exact List.map_congr_left fun i _=>e _
theorem zXn {h:Host}(S:Safe h)(a:GAct):zdz (zeu h a)=zKu (zdz h) a/\(zj9 a=true->zi2 h a=zZW (zdz h) a):=by
 obtain ⟨_,hl,hs,ht⟩:=z1O S a;have key:zj9 a=true->zdz (zeu h a)=(cond (hasB a.M (ln h.Mons)) (up (zdz h) a.M (zKs (zy h a.M) a)) (zdz h)):=by
  intro hi;rw[hi]at hs;cases hm:hasB a.M (ln h.Mons) with
  | false =>
   rw[cond_false];refine zPv ⟨[],[],[],0⟩ (by rw[zjI,zjI,hl]) fun i hi'=>?_
   rw[zl4]at hi';rw[zk9 hi'];have hi2:hasB i (ln h.Mons)=true:=by unfold ln at hi' ⊢;rwa [<- hl]
   rw[zk9 hi2,hs i];have:ieq i a.M=false:=zbN.2 fun e=>by rw[e,hm]at hi2;cases hi2
   rw[this];rfl
  | true =>
   rw[cond_true];refine zPv ⟨[],[],[],0⟩ (by rw[zbB,zjI,zjI,hl]) fun i hi'=>?_
   rw[zl4]at hi';rw[zk9 hi',hs i];have hi2:hasB i (ln h.Mons)=true:=by unfold ln at hi' ⊢;rwa [<- hl]
   by_cases e:i=a.M
   .rw [e,zbl.2 rfl,zZ (by rw[zl4];exact hm)];rfl
   .rw [zbN.2 e,zbm (zB.1 hm).1 (zB.1 hi2).1 (Ne.symm e),zk9 hi2];rfl
 have e2:zj9 a=false->zdz (zeu h a)=zdz h:=fun hi=>zZT hl fun i=>by rw[hs i,hi];rfl
 have ke:zj9 a=true->win a.Kind 1 17=true/\win a.Kind 13 17=false:=by
  intro hi;unfold zj9 at hi;cases h1:win a.Kind 1 17<;>cases h2:win a.Kind 13 17<;>rw [h1,h2]at hi<;>first|exact ⟨rfl,rfl⟩|cases hi
 constructor
 .unfold zKu;cases hi:zj9 a with
  | true =>
   obtain ⟨h1,h2⟩:=ke hi;rw[h1,h2,cond_true,cond_false,zl4,key hi];cases hm:hasB a.M (ln h.Mons) with
   | true=>rw[cond_true,cond_true,zk9 hm]
   | false=>rfl
  | false =>
   rw[e2 hi];unfold zj9 at hi;cases h1:win a.Kind 1 17 with
   | false=>rfl
   | true =>
    cases h2:win a.Kind 13 17 with
    | true=>rfl
    | false=>rw[h1,h2]at hi;cases hi
 .intro hi;rw[ht hi];obtain ⟨h1,h2⟩:=ke hi;unfold zZW;rw[h1,h2,cond_true,cond_false,zl4];cases hm:hasB a.M (ln h.Mons) with
  | true=>rw[cond_true,zk9 hm]
  | false =>
   rw[cond_false,seen_none hm];have hs1:=(zRE a.G).2;have hn:=zti;unfold zKt;simp only[hs1,ziY];unfold zxF zeS zk8 zrK zyN zTx zn0;simp only[hn,zts hn,cond_false];cases h10:ieq a.Kind 10 with
   | true =>
    have:a.Kind=10:=zbl.1 h10;rw[this];rfl
   | false =>
    cases ieq a.Kind 1<;>cases ieq a.Kind 2<;>cases ieq a.Kind 3<;>cases ieq a.Kind 4<;>cases ieq a.Kind 5<;>cases ieq a.Kind 6<;>cases ieq a.Kind 7<;>cases ieq a.Kind 8<;>cases ieq a.Kind 9<;>cases ieq a.Kind 11<;>rfl
def zLU:List GAct->List Told->List Told
 | a :: l,t :: ts=>bif zj9 a then t :: zLU l ts else zLU l ts
 | _,_=>[]
structure Live (u:Host×List Told) (v:List Bare×List Told):Prop where
 safe:Safe u.1
 seen:zdz u.1=v.1
def zEl:List GAct->Host->List Told
 | [],_=>[]
 | a :: l,h=>zi2 h a :: zEl l (zeu h a)
def z4q:List GAct->List Bare->List Told
 | [],_=>[]
 | a :: l,b=>zZW b a :: z4q l (zKu b a)
def zu6:List GAct->Host->Host
 | [],h=>h
 | a :: l,h=>zu6 l (zeu h a)
def z5n:List GAct->List Bare->List Bare
 | [],b=>b
 | a :: l,b=>z5n l (zKu b a)
theorem zZr:∀(l:List GAct) (u:Host×List Told),zC6 l u=(zu6 l u.1,u.2++zEl l u.1)
 | [],u=>by simp[zC6,zu6,zEl]
 | a :: l,u=>by rw[zC6,zZr l];simp[zu6,zEl,ap]
theorem z2I:∀(l:List GAct) {h:Host},Safe h->Safe (zu6 l h)/\zdz (zu6 l h)=z5n l (zdz h)/\zLU l (zEl l h)=zLU l (z4q l (zdz h))/\(zu6 l h).Mons.length=h.Mons.length
 | [],h,S=>⟨S,rfl,rfl,rfl⟩
 | a :: l,h,S=>by
  have h1:=z1O S a;have h2:=zXn S a;obtain ⟨e1,e2,e3,e4⟩:=z2I l h1.1;refine ⟨e1,by show zdz (zu6 l (zeu h a))=z5n l (zKu (zdz h) a);rw[e2,h2.1],?_,e4.trans h1.2.1⟩
  show (cond (zj9 a) _ _)=(cond (zj9 a) _ _)
  cases hi:zj9 a with
  | false=>rw[cond_false,cond_false,e3,h2.1]
  | true=>rw[cond_true,cond_true,e3,h2.1,h2.2 hi]
theorem cz8 (q:Int)(hq:0<=q):zuF.countP (fun s=>ieq s.Page q)=0:=by
 rw[uT];intro s hs;have:=(uG.1 hs).2;rw[this]
 show ¬ ieq (-1) q=true
 rw[zbl];omega
theorem zXA {p:List Ins}(h:zc4 p=true):GOk (zeK p):=⟨h,rfl,rfl,rfl,rfl,rfl,rfl,rfl,rfl⟩
theorem z3w {ps:List (List Ins)}(h1:1<=ps.length)(h:∀p∈ps,zc4 p=true):MOk (zgx ps):=by
 have e8:∀s∈zuF,s=noSlot:=fun s hs=>(uG.1 hs).2;refine ⟨?_,?_,?_,rfl,fun s hs=>.inl (e8 s hs),rfl,rfl,jQ _,rfl,rfl,rfl,fun g hg=>?_,fun p hp=>?_⟩
 .show 1<=((ps.take 2).map zeK).length
  simp;omega
 .show ((ps.take 2).map zeK).length<=2
  simp;omega
 .show ((ps.take 2).map (fun _=>zjP)).length=((ps.take 2).map zeK).length
  simp
 .obtain ⟨p,hp,rfl⟩:=q0.1 hg;exact ztb.2 (zXA (h p (jZ hp)))
 .have hp':=zB.1 hp;have e:p=0\/p=1\/p=2\/p=3\/p=4\/p=5\/p=6\/p=7:=by omega
  rcases e with rfl|rfl|rfl|rfl|rfl|rfl|rfl|rfl<;>rfl
def z8e (ps:List (List (List Ins))):Prop:=1<=ps.length/\∀p∈ps,1<=p.length/\∀x∈p,zc4 x=true
theorem z0C {ps:List (List (List Ins))}(h:z8e ps):Safe (zfm ps):=by
 have hmem:∀x∈(zfm ps).Mons,∃p∈ps,x=zgx p:=fun x hx=>by
  obtain ⟨p,hp,rfl⟩:=q0.1 hx;exact ⟨p,jZ hp,rfl⟩
 have hO:∀x∈(zfm ps).Mons,x.Outer=zuF:=fun x hx=>by
  obtain ⟨p,_,rfl⟩:=hmem x hx;rfl
 have H:HOk (zfm ps):=by
  refine ⟨rfl,fun c hc=>?_,?_,?_,rfl,rfl,fun x hx=>?_,fun q hq=>?_⟩
  .have:c=[0,0,0,0]:=(uG.1 hc).2;rw[this];rfl
  .show 1<=((ps.take 3).map zgx).length
   have:=h.1;simp;omega
  .show ((ps.take 3).map zgx).length<=3
   simp;omega
  .obtain ⟨p,hp,rfl⟩:=hmem x hx;exact z3w (h.2 p hp).1 (h.2 p hp).2
  .have:zeW (zfm ps).Mons q=0:=by
    unfold zeW;have:(zfm ps).Mons.map (fun x=>cPg x q)=(zfm ps).Mons.map (fun _=>0):=List.map_congr_left fun x hx=>by
     unfold cPg;rw[hO x hx];exact cz8 q hq
    rw[this];generalize (zfm ps).Mons=l
    induction l with
    | nil=>rfl
    | cons x l ih=>rw[q9,uA,ih]
   omega
 refine ⟨H,fun m hm g hg=>?_,fun e he=>(by cases he),fun e he=>(by cases he)⟩
 obtain ⟨p,hp,e⟩:=hmem _ (zlo hm mZ);rw[e]at hg ⊢;have hg1:hasB g (ln ((p.take 2).map zeK))=true:=hg;have ht:ix (zgx p).Tables g kZ=zjP:=by
  have:hasB g (ln ((p.take 2).map (fun _=>zjP)))=true:=by
   unfold ln at hg1 ⊢;simpa using hg1
  obtain ⟨k,hk,_,e2⟩:=zzl this kZ
  show ix ((p.take 2).map (fun _=>zjP)) g kZ=_
  rw[e2];simp
 have hl:(ix (zgx p).Guests g gZ).Live=zkX:=by
  obtain ⟨k,hk,_,e2⟩:=zzl hg1 gZ
  show (ix ((p.take 2).map zeK) g gZ).Live=_
  rw[e2];simp[zeK]
 rw[ht,hl]
 show KOk zjP zkX zuF
 refine ⟨rfl,rfl,fun i hi=>?_⟩;have hi':=zB.1 hi;have:ln zkX=4:=rfl;rw[this]at hi';have e4:i=0\/i=1\/i=2\/i=3:=by omega
 rcases e4 with rfl|rfl|rfl|rfl<;>rfl
theorem zZB:∀(l:List GAct) (u:Host×List Told),SmH u.1->SmH (zC6 l u).1
 | [],u,h=>h
 | a :: l,u,h=>zZB l (zeu u.1 a,ap u.2 [zi2 u.1 a]) (zZz h)
theorem z5C {h:Host}(L:zEq h):Safe h/\SmH h:=by
 obtain ⟨ps,l,hS,hp,rfl⟩:=L;refine ⟨?_,zZB _ _ (zZA hS)⟩;unfold zy0;rw[zZr];exact (z2I _ (z0C hp)).1
def zKG:zQ:=z16
theorem zq5:zI zKG:=z18
def zTO (l:List Int):Prop:=l.length=12/\∀i:Int,0<=i->i<12->0<=ix l i 0/\ix l i 0<10000
def zB6 (N:Nat)(c:Cur)  : OA :=
 let y0:=(zbE c [0,0,0,1,1,2,(-1),9223372036854775807]); (oN (zcD c [0,0,0,1,1,2,(-1),9223372036854775807]) (some [(.agg [(.s .u8 c.b),(.i .i64 y0.i),(.i .i64 y0.h)]),(aI (zdM c [0,0,0,1,1,2,(-1),9223372036854775807]))]))
theorem z0W (N:Nat)(c:Cur)  : zfN (cQ zKG zkB zTs zjm) (zq []) N 12 128 [false,true,true] (zbx c) []=zB6 N c:=by kernel_rfl
def zo8 (c:Cur)(s:Cur)(v0:Int):Prop:=(∃N,zB6 N c=some (AV.agg (zbx s) :: [aI v0]))/\(s.b=c.b/\0<=s.i)/\(True)
def zrx (c:Cur)  : Bool:=pc (∃s v0,zo8 c s v0)
def zwb (c:Cur)  : Cur×Int:=Classical.epsilon fun r=>zo8 c r.1 r.2
def znD (c:Cur)  : Cur:=bif zrx c then (zwb c).1 else ⟨[],0,0⟩
def zEQ (c:Cur)  : Int:=(zwb c).2
theorem z3V {c:Cur}(h:zrx c=true):zo8 c (znD c) (zEQ c):=by
 obtain ⟨s,v0,h2⟩:=zD.1 h;have h3:zo8 c (zwb c).1 (zwb c).2:=Classical.epsilon_spec (p:=fun r=>zo8 c r.1 r.2) ⟨(s,v0),h2⟩;unfold znD;rw[h,cT];exact h3
def zt5:List CV->List AV->Option (Bool×List CV×List AV)
 | [.s .u8 b,.i .i64 c,.i .i64 d],[]=>some ((zrx (⟨b,c,d⟩:Cur)),zbx (znD (⟨b,c,d⟩:Cur)),[aI (zEQ (⟨b,c,d⟩:Cur))])
 | _,_=>none
theorem zX3 (c:Cur)(hb:zbD big (.agg (zbx c) :: []))(hc:zrx c=true):∃N,zB6 N c=some (.agg (zbx (znD c)) :: [aI (zEQ c)]):=by
 exact (z3V hc).1
theorem zR2:zdx Tryz.prog 128 [false,true,true] zt5:=by
 refine zbT (zcT zq5 zbg zt3 zo) (zd2 (by kernel_rfl)) ?_
 intro cs avs cs' rs hl hr h;have hb:=zce hr;unfold zt5 at h;split at h
 .obtain ⟨hc,rfl,rfl⟩:=zct h;obtain ⟨N,hN⟩:=zX3 _ (by exact hb) hc
  exact ⟨rfl,_,N,12,(z0W N _ ).trans hN⟩
 .cases h
def z1f:zdy:=[(128,([false,true,true],zt5))]++zTs
theorem zWg:zcv z1f:=zdV zt3 (by
 intro x hx;simp only[qI,qU,or_false]at hx;rcases hx with rfl
 .exact zR2)
def zyB (N:Nat)(c:Cur)  : OA :=
 let y2:=(zkT c);let y1:=({ (zdY c) with b:=c.b }:Cur);let y4:=(zV y1 10);let y0:=({ (zC y1 10) with b:=c.b }:Cur);let y3:=(zbE y0 [(-1),4,8,16,100,9223372036854775807]); (oN (zfk c) (oN (zT y1 10) (cond (ieq y4 0) (oN (zT y0 20) (some [(.agg [(.s .u8 c.b),(.i .i64 (zC y0 20).i),(.i .i64 (zC y0 20).h)]),(.agg [(.i .i64 (wsub .i64 (zV y0 20) 1)),(.i .i64 y2.M),(.i .i64 y2.G),(.i .i64 y2.X),(.i .i64 y2.Y),(.i .i64 y2.Z)])])) (cond (ieq y4 1) (oN (zrx y0) (some [(.agg [(.s .u8 c.b),(.i .i64 (znD y0).i),(.i .i64 (znD y0).h)]),(.agg [(.i .i64 y2.Kind),(.i .i64 (zEQ y0)),(.i .i64 y2.G),(.i .i64 y2.X),(.i .i64 y2.Y),(.i .i64 y2.Z)])])) (cond (ieq y4 2) (oN (zcD y0 [(-1),4,8,16,100,9223372036854775807]) (some [(.agg [(.s .u8 c.b),(.i .i64 y3.i),(.i .i64 y3.h)]),(.agg [(.i .i64 y2.Kind),(.i .i64 y2.M),(.i .i64 y2.G),(.i .i64 (zdM y0 [(-1),4,8,16,100,9223372036854775807])),(.i .i64 y2.Y),(.i .i64 y2.Z)])])) (cond (ieq y4 3) (oN (zcD y0 [(-1),0,1,4]) (some [(.agg [(.s .u8 c.b),(.i .i64 (zbE y0 [(-1),0,1,4]).i),(.i .i64 (zbE y0 [(-1),0,1,4]).h)]),(.agg [(.i .i64 y2.Kind),(.i .i64 y2.M),(.i .i64 y2.G),(.i .i64 y2.X),(.i .i64 y2.Y),(.i .i64 (zdM y0 [(-1),0,1,4]))])])) (some [(.agg [(.s .u8 c.b),(.i .i64 (zC y1 10).i),(.i .i64 (zC y1 10).h)]),(.agg [(.i .i64 y2.Kind),(.i .i64 y2.M),(.i .i64 y2.G),(.i .i64 y2.X),(.i .i64 y2.Y),(.i .i64 y2.Z)])])))))))
theorem zYj (N:Nat)(c:Cur)  : zfN (cQ zKG zkB z1f zjm) (zq []) N 12 50 [false,true,true] (zbx c) []=zyB N c:=by kernel_rfl
def zmF (c:Cur)(s:Cur)(v0:GAct):Prop:=(∃N,zyB N c=some (AV.agg (zbx s) :: [aT .act v0]))/\(s.b=c.b/\0<=s.i)/\(True)
def zs3 (c:Cur)  : Bool:=pc (∃s v0,zmF c s v0)
def zs4 (c:Cur)  : Cur×GAct:=Classical.epsilon fun r=>zmF c r.1 r.2
def zs5 (c:Cur)  : Cur:=bif zs3 c then (zs4 c).1 else ⟨[],0,0⟩
def zJg (c:Cur)  : GAct:=(zs4 c).2
theorem z1s {c:Cur}(h:zs3 c=true):zmF c (zs5 c) (zJg c):=by
 obtain ⟨s,v0,h2⟩:=zD.1 h;have h3:zmF c (zs4 c).1 (zs4 c).2:=Classical.epsilon_spec (p:=fun r=>zmF c r.1 r.2) ⟨(s,v0),h2⟩;unfold zs5;rw[h,cT];exact h3
def zrZ:List CV->List AV->Option (Bool×List CV×List AV)
 | [.s .u8 b,.i .i64 c,.i .i64 d],[]=>some ((zs3 (⟨b,c,d⟩:Cur)),zbx (zs5 (⟨b,c,d⟩:Cur)),[aT .act (zJg (⟨b,c,d⟩:Cur))])
 | _,_=>none
theorem zVN (c:Cur)(hb:zbD big (.agg (zbx c) :: []))(hc:zs3 c=true):∃N,zyB N c=some (.agg (zbx (zs5 c)) :: [aT .act (zJg c)]):=by
 exact (z1s hc).1
theorem zOH:zdx Tryz.prog 50 [false,true,true] zrZ:=by
 refine zbT (zcT zq5 zbg zWg zo) (zd2 (by kernel_rfl)) ?_
 intro cs avs cs' rs hl hr h;have hb:=zce hr;unfold zrZ at h;split at h
 .obtain ⟨hc,rfl,rfl⟩:=zct h;obtain ⟨N,hN⟩:=zVN _ (by exact hb) hc
  exact ⟨rfl,_,N,12,(zYj N _ ).trans hN⟩
 .cases h
def zbaZ:zdy:=[(50,([false,true,true],zrZ))]++z1f
theorem z5R:zcv zbaZ:=zdV zWg (by
 intro x hx;simp only[qI,qU,or_false]at hx;rcases hx with rfl
 .exact zOH)
def zk6 (N:Nat)(a0:List Int):OA:=
 (iter (σ:=(Int×(Int×((List Int)×((List Int)×Unit))))) N (fun r2 s3=>let y4:=s3.2.2.1; (cond (ilt s3.2.1 (ln y4)) (cond (ilt s3.2.1 4000) (oN (inb s3.2.1 (ln y4)) (r2 ((wand .i64 (zG .i64 (zG .i64 (zlX .i64 s3.1 131) (wcv .i64 (ix y4 s3.2.1 0))) 7) 1073741823),((zG .i64 s3.2.1 1),(y4,(s3.2.2.2.1,())))))) (iter (σ:=(Int×(Int×(Int×((List Int)×((List Int)×Unit)))))) N (fun r4 s5=>let y0:=(⟨s5.2.2.2.2.1,s5.2.1,s5.2.2.1⟩:Cur);let y2:=(ap s5.2.2.2.1 [(zV y0 10000)]); (cond (ilt s5.1 12) (oN (zT y0 10000) (oN (few (ln y2)) (r4 ((zG .i64 s5.1 1),((zC y0 10000).i,((zC y0 10000).h,(y2,(s5.2.2.2.2.1,())))))))) (some [(aS .int s5.2.2.2.1)]))) (0,(0,(s3.1,([],(y4,()))))))) (iter (σ:=(Int×(Int×(Int×((List Int)×((List Int)×Unit)))))) N (fun r4 s5=>let y1:=(⟨s5.2.2.2.2.1,s5.2.1,s5.2.2.1⟩:Cur);let y3:=(ap s5.2.2.2.1 [(zV y1 10000)]); (cond (ilt s5.1 12) (oN (zT y1 10000) (oN (few (ln y3)) (r4 ((zG .i64 s5.1 1),((zC y1 10000).i,((zC y1 10000).h,(y3,(s5.2.2.2.2.1,())))))))) (some [(aS .int s5.2.2.2.1)]))) (0,(0,(s3.1,([],(y4,())))))))) ((zG .i64 94701 (ln a0)),(0,(a0,([],())))))
def zJt:FuncId->Nat->Option Tmpl:=zq [(16,0,{ n:=32,tm:=[(0,.sl 0 []),(3,ti),(4,ti)],lo:=[],ro:=[(0,.u8,false),(1,.int,true)],sk:=[(0,2,0,.sl 1 [])] }),(7,0,{ n:=19,tm:=[(3,.lp 0 0),(4,.sl 0 []),(5,ti)],lo:=[(0,[.sl 1 [],ti,ti])],ro:=[(0,.int,true),(1,.u8,false)] })]
def zhO (a0:List Int)(v0:List Int):Prop:=(∃N,zk6 N a0=some [aS .int v0])/\(zTO v0)
def zg6 (a0:List Int):Bool:=pc (∃v0,zhO a0 v0)
def zyn (a0:List Int):List Int:=Classical.epsilon fun r=>zhO a0 r
def zgg (a0:List Int):List Int:=(zyn a0)
theorem zym {a0:List Int}(h:zg6 a0=true):zhO a0 (zgg a0):=by
 obtain ⟨v0,h2⟩:=zD.1 h;have h3:zhO a0 (zyn a0):=Classical.epsilon_spec (p:=fun r=>zhO a0 r) ⟨v0,h2⟩;exact h3
theorem zPL (a0:List Int)(h:∃N,Ends (fun a=>∃v0,a=[aS .int v0]/\(zTO v0)) (zk6 N a0)):zg6 a0=true:=by
 obtain ⟨N,a,e,v0,rfl,h⟩:=h;exact zbe ⟨v0,⟨N,e⟩,h⟩
def zuf:Run:=rF1 (dS .u8) fun b=>(zg6 b,[aS .int (zgg b)])
theorem zIX (a0:List Int)(hc:zg6 a0=true):∃N,zk6 N a0=some [aS .int (zgg a0)]:=by
 exact (zym hc).1
theorem zCF:u3 7 zuf:=kF1 zq5 zbg z5R zo zJt zIX
theorem zWj {a0:List Int}(h:a0.length<=big):zg6 a0=true:=by
 refine zPL a0 (zb8 fun N hNN=>?_);unfold zk6 oN
 conv=>zeta
 have h12:12<N:=hNN (by rw[znm];omega)
 refine zxn (fun n s=>∃(t:Int) (i:Nat),s=(t,(i:Int),a0,[],())/\i+n=a0.length) ?_ N a0.length _ ⟨_,0,rfl,by omega⟩ (hNN h)
 rintro n s rec ⟨t,i,rfl,hi⟩ hrec
 dsimp only
 refine zdo (fun h1=>zdo (fun h2=>?_) (fun _=>?_)) (fun _=>?_)
 .have hlt:(i:Int)<ln a0:=qD h1;unfold ln at hlt;refine zbK (qJ ⟨by omega,by unfold ln;omega⟩) (hrec (n-1) _ (by omega) (by rw[zW (show i<a0.length by omega) h];exact ⟨_,i+1,rfl,by omega⟩))
 all_goals
  refine zxn (fun n s=>∃(k:Nat) (i x:Int) (l:List Int),s=((k:Int),i,x,l,a0,())/\k+n=12/\0<=i/\l.length=k/\∀y∈l,0<=y/\y<10000) ?_ N 12 _ ⟨0,0,t,[],rfl,rfl,jX 0,rfl,by simp⟩ h12
  rintro n' s rec' ⟨k,i',x,l,rfl,hk,hi0,hlk,hl⟩ hrec'
  dsimp only
  have hcur:zdK ⟨a0,i',x⟩:=⟨hi0,h⟩;have hx:=zmU hcur (n:=10000) (by omega)
  refine zdo (fun h3=>?_) (fun h3=>⟨_,rfl,l,rfl,?_⟩)
  .have h3':(k:Int)<12:=qD h3;have hnew:∀y∈ap l [zV ⟨a0,i',x⟩ 10000],0<=y/\y<10000:=by
    intro y hy;rcases jI.1 hy with hy|hy
    .exact hl y hy
    .rw [qF.1 hy];exact hx
   exact zbK (zik hcur _) (zbK (zxo (by rw[zqo];unfold ln;omega)) (hrec' (n'-1) _ (by omega) (by rw[znK (show -9223372036854775808<=(k:Int)+1 by omega) (by omega)];exact ⟨k+1,_,_,_,rfl,by omega,zcz _ _,by simp[ap,hlk],hnew⟩)))
  .have h3':¬ (k:Int)<12:=jP h3;exact ⟨by omega,fun j h0 h1=>hl _ (zbv (qJ ⟨h0,by unfold ln;omega⟩) 0)⟩
theorem zVT {α β:Type}{f:α->β}{l:List α}{x:β}{xs:List β}(h:l.map f=x :: xs):∃a r,l=a :: r/\f a=x/\r.map f=xs:=by
 cases l with
 | nil=>cases h
 | cons a r =>
  simp only[q9,List.cons.injEq]at h;exact ⟨a,r,rfl,h.1,h.2⟩
theorem zbay {a:AV}{ct:CTy}(h:some a.sh=some (false,[ct])):∃c,a = .one c/\c.ty=ct:=by
 cases a with
 | one c =>
  simp only[AV.sh,qC,jO,List.cons.injEq,and_true,true_and]at h;exact ⟨c,rfl,h⟩
 | agg l=>simp[AV.sh]at h
theorem sh_s {a:AV}{t:Ty}(h:some a.sh=some (false,[.s t])):∃l:List t.den,a = .one (.s t l):=by
 obtain ⟨c,rfl,hc⟩:=zbay h;obtain ⟨l,rfl⟩:=zlb hc;exact ⟨l,rfl⟩
section
open Go Go.ChangeShapes Go.WideShapes Go.ChangeAt
abbrev zOL (_:List Int):Bool:=true
abbrev zLY (l:List Int):Bool:=igt (ln l) 1048576
def zRo:Run:=rF1 (dS .u8) fun b=>(zOL b,[aB (zLY b)])
def zYP (N:Nat)(a0:List Int):OA:=
 (some [(aB (igt (ln a0) 1048576))])
theorem z3j (a0:List Int)(hc:zOL a0=true):∃N,zYP N a0=some [aB (zLY a0)]:=by
 refine ⟨0,?_⟩;unfold zYP
 first|rfl|(simp only [*,zLY,cT,cF]<;>rfl)|simp_all[Ty.cells,zLY]
theorem zXE:u3 5 zRo:=kF1 zq5 zbg zt3 zo (zq []) z3j
def z7B:zQ:=[(5,zRo),(7,zuf),(11,zxX),(14,zAr)]++zKG
theorem z5i:zI z7B:=zh zXE (zh zCF (zh zIg (zh zK5 zq5)))
theorem runs {h:Host}(hs:SmH h){a b:Int}(ha:0<=a/\a<3)(hb:0<=b/\b<3) :
 zc3 (zc3 h a) b=zc3 h (zG .i64 a b)/\zG .i64 (zfQ h a) (zfQ (zc3 h a) b)=zfQ h (zG .i64 a b) /\
 SmH (zc3 h a)/\(zc3 h (zG .i64 a b)).Mons.length=h.Mons.length:=by
 have e:zG .i64 a b=a+b:=znK (by omega) (by omega)
 have r:=rounds a.toNat b.toNat h;have n:(a+b).toNat=a.toNat+b.toNat:=by omega
 unfold zc3 zfQ;rw[e,zyE (r:=a) (by omega) (by omega),zyE (r:=b) (by omega) (by omega),zyE (r:=a+b) (by omega) (by omega),n]
 exact ⟨r.1.symm,r.2,(zJh _ (0,h) hs).sm,z9s hs⟩
def znN (N:Nat)(a0:List Int):OA:=
 let y3:=(zoL a0);let y2:=(zjo (ix (zgg a0) 1 0) 3);let y1:=(zjo (ix (zgg a0) 0 0) 3);let y4:=(zc3 y3 y1);let y0:=(zG .i64 y1 y2); (oN (zOL a0) (cond (zLY a0) oT (oN (ziG a0) (oN (zg6 a0) (oN (inb 0 (ln (zgg a0))) (oN (ine 3 0) (oN (inb 1 (ln (zgg a0))) (oN (ine 3 0) (oN (zl7 y3 y1) (oN (zl7 y4 y2) (oN (zl7 y3 y0) (oN (ztY (zc3 y4 y2) (zc3 y3 y0)) (cond (zsG (zc3 y4 y2) (zc3 y3 y0)) (cond (ieq (zG .i64 (zfQ y3 y1) (zfQ y4 y2)) (zfQ y3 y0)) (some [(aB (ieq (ln (zc3 y3 y0).Mons) (ln y3.Mons)))]) oF) oF)))))))))))))
theorem zS2 (N:Nat)(a0:List Int):evalFn (cQ z7B zkB zTs zjm) (zq []) N 12 4 [aS .u8 a0]=znN N a0:=by kernel_rfl
theorem zKL (N:Nat)(a0:List Int)(hl:a0.length<=big):Ends (fun a=>a=[.one (.b true)]) (znN N a0):=by
 unfold znN oN
 conv=>zeta
 refine zbK rfl (zdo (fun _=>zKK rfl) (fun _=>zbK (zKJ hl) (zbK (zWj hl) ?_)));obtain ⟨S,hs⟩:=z5C (zD2 (zKJ hl)).2;obtain ⟨hp1,hp2⟩:=(zym (zWj hl)).2;generalize zoL a0=h at S hs;generalize zgg a0=p at hp1 hp2;have hS:zcd h:=(zJ h).2 hs;have hlp:ln p=12:=by unfold ln;omega
 have ma:=zEV (hp2 0 (by omega) (by omega)).1 (show (0:Int)<3 by omega)
 have mb:=zEV (hp2 1 (by omega) (by omega)).1 (show (0:Int)<3 by omega)
 generalize zjo (ix p 0 0) 3=a at ma;generalize zjo (ix p 1 0) 3=b at mb;obtain ⟨r1,r2,r3,r4⟩:=runs hs ma mb;have c1:inb 0 (ln p)=true:=zx (zB.2 (by omega))
 have c2:inb 1 (ln p)=true:=zx (zB.2 (by omega))
 refine zbK c1 (zbK rfl (zbK c2 (zbK rfl (zbK (zbe hS) (zbK (zbe ((zJ _).2 r3)) (zbK (zbe hS) (zbK (zbe r1) (zbK rfl (zbK (by rw[r2];exact zdU _) (zKK ?_))))))))))
 show [AV.one (.b (ieq ((zc3 h (zG .i64 a b)).Mons.length:Int) (h.Mons.length:Int)))]=_
 rw[r4,zdU]
theorem zNv (a0:List Int)(ho:∀c∈zA [aS .u8 a0],CVOk c):∃N,znN N a0=some [.one (.b true)]:=by
 have hb:zbD big [aS .u8 a0]:=fun c hc=>CVB.of_ok (ho c hc);have hl:=(len0 hb);exact ⟨5,z8Q (G:=fun a=>a=[.one (.b true)]) (zKL 5 a0 hl)⟩
theorem zJk:Tryz.f4.params.toList.map (zcj Tryz.prog 4)=[some (false,[.s .u8])]:=by kernel_rfl
theorem zCc:zYL 4 Tryz.f4.params.toList:=by
 refine zXo z5i zbg zt3 zo (zd2 (by kernel_rfl)) ?_
 intro avs hg;obtain ⟨h1,h2⟩:=hg;rw[zJk]at h1;obtain ⟨v0,r0,rfl,e0,h1⟩:=zVT h1;cases List.map_eq_nil_iff.1 h1;obtain ⟨a0,rfl⟩:=sh_s e0;obtain ⟨N,hN⟩:=zNv a0 h2;exact ⟨zq [],N,12,(zS2 N a0).trans hN⟩
theorem zM6 (H:Type)(ds:List (DataW H))(h:ds.length=Tryz.f4.params.toList.length):Rows.fnRoundsSpec.fn H ds={ results:=[.lit (.bool true)],args:=ds }:=by
 have hl:ds.length=1:=h.trans (by kernel_rfl)
 match ds,hl with
 | [d],_=>rfl
set_option maxRecDepth 100000 in
theorem zFH (os:Os)(started:os.Started)(H:Type)(enc:TypeId×Value->H) :
 ReturnsInHanded {} Tryz.checked os 4 .any (Rows.fnRoundsSpec.pre6 enc Tryz.prog Tryz.f4 Rows.fnRoundsRow.domain false) (Rows.fnRoundsSpec.post enc Tryz.prog Tryz.f4 false true false false):=by
 refine returnsInHanded_of_change_shaped (C:=Tryz.checked) own started (by kernel_rfl) Tryz.func4
  (ChangeSpec.witness6 (enc:=enc) (C:=Tryz.checked) false ⟨#[],#[.slice none 0 0],[]⟩ 8 (by kernel_rfl) (by kernel_rfl) (by kernel_rfl) (by kernel_rfl)) ?_
 intro W base args ds gs before hval hW _ hsz _ _;exact zLZ (P:=Tryz.prog) z4F z5A rfl zM6 (by kernel_rfl) (B:=4) (by kernel_rfl) (by kernel_rfl) zCc W base args ds gs before hval hW hsz
end
section
open Go Go.ChangeShapes Go.WideShapes Go.ChangeAt
abbrev PP:=Tryz.pinned.checked.prog
abbrev cc:=Rows.fnRoundsRow
abbrev ss:=Rows.fnRoundsSpec
theorem jf1:cc.wf (OpenSpec.ofChange ss)=true:=by kernel_rfl
theorem jf2:laidOutB PP=true:=by kernel_rfl
theorem jf3:mapsRowed PP=true:=by kernel_rfl
theorem jf4:Tryz.f4.params.all (PP.readableRec ·)=true:=by kernel_rfl
theorem jf5:namedTie PP cc.named ss.vars=true:=by kernel_rfl
theorem jf6:(cc.inPlace==PP.inPlace 4)=true:=by kernel_rfl
theorem jf7:(cc.unfollowed==PP.unfollowed 4)=true:=by kernel_rfl
theorem jf8:(cc.recurses==PP.recurses 4)=true:=by kernel_rfl
theorem jf9:(cc.named==PP.varsNamed 4)=true:=by kernel_rfl
theorem jf10:(cc.lifted==PP.liftsFinal)=true:=by kernel_rfl
theorem jf11:PP.stopsHeard=true:=by kernel_rfl
theorem jf12:PP.mayEnter=true:=by kernel_rfl
theorem jf13:(cc.plainKeys==PP.plainKeys)=true:=by kernel_rfl
theorem jf14:(PP.make==some cc.make)=true:=by kernel_rfl
theorem zUJ:joinedFacts PP 4 Tryz.f4 ss cc=true:=by
 unfold joinedFacts;simp only[qE]
 repeat' apply And.intro
 all_goals first|with_reducible exact jf1|with_reducible exact jf2|with_reducible exact jf3|with_reducible exact jf4|with_reducible exact jf5|with_reducible exact jf6|with_reducible exact jf7|with_reducible exact jf8|with_reducible exact jf9|with_reducible exact jf10|with_reducible exact jf11|with_reducible exact jf12|with_reducible exact jf13|with_reducible exact jf14|kernel_rfl
theorem said_fnRounds:Rows.FnRoundsSaid :=
 OpenClaim.holds_of_wide 4 Tryz.f4 rfl rfl rfl rfl rfl rfl rfl ⟨rfl,rfl,rfl,rfl,rfl⟩ rfl rfl rfl rfl rfl (by kernel_rfl) Tryz.func4 zUJ
  (qD (by kernel_rfl)) (by unfold Func.isWrapper;first|(rw [if_pos (by decide +kernel)];kernel_rfl)|(rw [if_neg (by decide +kernel)];exact ⟨rfl,rfl⟩))
  (fun os started H enc _=>zFH os started H enc)
end
end
end Go.Proofs.YtdnmkiajccpnoaaGreat.E
