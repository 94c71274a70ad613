/- What is proved here: a part of the proof that the statement of this claim holds (several texts of wip/, laid together). -/
import Derived.Test.YtgjpbkhaaiffkaaGreatV4
import Derived.Shelf.Bits.Mul64
import Derived.Ground.NamesProg
import Derived.Laws.CopyOwn
import Derived.Deep.RegionLaw
import Derived.WalkKit
import Derived.Tactics2
namespace Go.Proofs.YtgjpbkhaaiffkaaGreat.E
open Go
set_option linter.constructorNameAsVariable false
set_option linter.unusedVariables false
set_option maxRecDepth 100000
set_option linter.unusedSimpArgs false
set_option linter.unusedSectionVars false
noncomputable section
def zbx (h:Host)(m p:Int):Host:={h with Mons:=up h.Mons m {ix h.Mons m mZ with Dirty:=up (ix h.Mons m mZ).Dirty p true}}
def opened (h:Host)(m p:Int):Host:=bif ieq (wand .i64 (ix (ix h.Mons m mZ).Outer p sZ).Rights 2) 0 then zb6 h m p ⟨(ix (ix h.Mons m mZ).Outer p sZ).Page,3⟩ else h
def zjl (h:Host)(m p n:Int):Host:=bif ieq (wand .i64 n 2) 0 then h else opened (zbx h m p) m p
def mended (h:Host)(m p n:Int):Host:=bif ieq (ix (ix h.Mons m mZ).Outer p sZ).Page (-1) then zjl (fetched h m p) m p n else zjl h m p n
theorem z3i {r:Int}(h0:0<=r)(h3:r<=3):enough r 2 = !ieq (wand .i64 r 2) 0:=by have:r=0\/r=1\/r=2\/r=3:=(by omega);rcases this with rfl|rfl|rfl|rfl<;>rfl
structure SlotFit (s:Slot):Prop where
 no:zcT s noSlot=ieq s.Page (-1)
 lo:0<=s.Rights
 hi:s.Rights<=3
theorem zWu {s:Slot}{n:Int}(h:zdV s n=true):SlotFit s:=by refine⟨zMS h,?_,?_⟩<;>unfold zdV at h<;>cases h1:zcT s noSlot;{rw [h1]at h;simp only[cF,zc7]at h;have:=(zfM.1 h.2.2).1;omega};{unfold zcT at h1;rw[qE]at h1;have:s.Rights=0:=qD h1.2;omega};{rw [h1]at h;simp only[cF,zc7]at h;have:=(zfM.1 h.2.2).2;omega};{unfold zcT at h1;rw[qE]at h1;have:s.Rights=0:=qD h1.2;omega}
theorem zmw {h:Host}{m p:Int}(hs:Shape h)(hm:hasB m (ln h.Mons)=true):Shape (zbx h m p):=by obtain⟨g1,g2⟩:=zco hs hm;exact zir hs ⟨g1.1,g1.2.1,by simpa using g1.2.2.1,g1.2.2.2⟩ ⟨g2.1,g2.2.1,by simpa using g2.2.2.1,g2.2.2.2⟩
theorem zRA {h:Host}{m p:Int}(hs:Shape h)(hm:hasB m (ln h.Mons)=true):Shape (opened h m p)/\hasB m (ln (opened h m p).Mons)=true:=by unfold opened;cases ieq (wand .i64 (ix (ix h.Mons m mZ).Outer p sZ).Rights 2) 0;{exact⟨hs,hm⟩};{exact⟨zq1 hm hs,zCU hm⟩}
theorem zDm {h:Host}{m p n:Int}(hs:Shape h)(hm:hasB m (ln h.Mons)=true):Shape (zjl h m p n)/\hasB m (ln (zjl h m p n).Mons)=true:=by unfold zjl;cases ieq (wand .i64 n 2) 0;{exact zRA (zmw hs hm) (zeL hm)};{exact⟨hs,hm⟩}
theorem zsI {h:Host}{m p n:Int}(hf:Fit h)(hm:hasB m (ln h.Mons)=true)(hp:hasB p 8=true):Shape (mended h m p n)/\hasB m (ln (mended h m p n).Mons)=true:=by unfold mended;cases ieq (ix (ix h.Mons m mZ).Outer p sZ).Page (-1);{exact zDm hf.1 hm};{obtain⟨h1,h2⟩:=zjL hf hm hp;exact zDm h1 h2}
theorem zPC {h:Host}{m p:Int}(hf:Fit h)(hm:hasB m (ln h.Mons)=true)(hp:hasB p 8=true):(ix (ix (fetched h m p).Mons m mZ).Outer p sZ).Rights=3:=by have hR:=room hf;have hrm:=zo4 hf hm;obtain⟨g1,g2⟩:=zco hR.shape hrm;obtain⟨k,rfl,hk⟩:=zdX (n:=(zc2 h).Mons.length) hrm;obtain⟨q,rfl,hq⟩:=zdX (n:=8) hp;unfold fetched zfb;rw[(zgu _ _ _ _).1];have hk':k<(landing (zc2 h) (k:Int) (q:Int)<|ix (zce<|zc2 h) 0 0).Mons.length:=(by simpa [landing] using hk);rw[zd5 hk'];have ho:q<(ix (landing (zc2 h) (k:Int) (q:Int)<|ix (zce<|zc2 h) 0 0).Mons (k:Int) mZ).Outer.length:=(by unfold landing;rw[zd5 hk];show q<(ix (zc2 h).Mons (k:Int) mZ).Outer.length;rw[g2.1];exact hq);show (ix (up (ix (landing (zc2 h) (k:Int) (q:Int)<|ix (zce<|zc2 h) 0 0).Mons (k:Int) mZ).Outer (q:Int) ⟨_,3⟩) (q:Int) sZ).Rights=3;rw[zd5 ho]
def zWJ (h:Host)(m p n:Int):Prop:=Fit h/\hasB m (ln h.Mons)=true/\hasB p 8=true/\(n=1\/n=2)/\SlotFit (ix (ix h.Mons m mZ).Outer p sZ)
@[simp] abbrev zhn (h:Host)(m p n:Int):Bool:=pc (zWJ h m p n)
@[simp] abbrev zgC (h:Host)(m p n:Int):Host:=mended h m p n
def zqR:List AV->Option (Bool×List AV)
 |[.agg [.s (.sl .int) b,.s .mon c,.s .entry d,.s .entry e],.one<|.i .i64 f,.one<|.i .i64 g,.one<|.i .i64 h]=>some (zhn (⟨b,c,d,e⟩:Host) f g h,[aH<|zgC (⟨b,c,d,e⟩:Host) f g h])
 |_=>none
def zt5 (N:Nat)(a0:Host)(a1 a2 a3:Int):OA:=
 let y3:=zlA a0 a1 a2;let y6:=ix y3.Mons a1 zf;let y0:=ix a0.Mons a1 zf;let y7:=ix y0.Outer a2 zO; (oN (inb a1<|ln a0.Mons)<|oN (inb a2<|ln y0.Outer)<|oN zbE<|cond (cond (ieq y7.Page zW.Page) (ieq y7.Rights zW.Rights) false) (oN (zkM a0 a1 a2)<|cond (ieq (wand .i64 a3 2) 0) (some [aH y3])<|oN (inb a1<|ln y3.Mons)<|oN (inb a2<|ln y6.Dirty)<|share (up y3.Mons a1 ({y6 with Dirty:=(up y6.Dirty a2 true)}:Mon)) (λx5=>let y8:=(ix x5 a1 zf).Outer;let y4:=({y3 with Mons:=x5}:Host);let y1:=ix y8 a2 zO;let y9:=({y1 with Rights:=3}:Slot); (oN (inb a1<|ln x5)<|oN (inb a2<|ln y8)<|cond (ieq (wand .i64 y1.Rights 2) 0) (oN (zfw y4 a1 a2 y9)<|some [aH<|zho y4 a1 a2 y9])<|some [aH y4])))<|cond (ieq (wand .i64 a3 2) 0) (some [aH a0])<|oN (inb a1<|ln a0.Mons)<|oN (inb a2<|ln y0.Dirty)<|share (up a0.Mons a1 ({y0 with Dirty:=(up y0.Dirty a2 true)}:Mon)) (λx5=>let y10:=(ix x5 a1 zf).Outer;let y5:=({a0 with Mons:=x5}:Host);let y2:=ix y10 a2 zO;let y11:=({y2 with Rights:=3}:Slot); (oN (inb a1<|ln x5)<|oN (inb a2<|ln y10)<|cond (ieq (wand .i64 y2.Rights 2) 0) (oN (zfw y5 a1 a2 y11)<|some [aH<|zho y5 a1 a2 y11])<|some [aH y5])))
theorem zQX (N:Nat)(a0:Host)(a1 a2 a3:Int):zAP (cQ zpv zny zV5 zRT) (zx []) N 12 371 [true,true,true,true,false,false,false] 1 1 [[0],[1],[2],[4],[7]] .mon [aH a0,aI a1,aI a2,aI a3]=zt5 N a0 a1 a2 a3:=by kernel_rfl
theorem zOa (a0:Host)(a1 a2 a3:Int)(hb:zbC big [aH a0,aI a1,aI a2,aI a3])(hc:zhn a0 a1 a2 a3=true):∃N,zt5 N a0 a1 a2 a3=some [aH<|zgC a0 a1 a2 a3]:=by
 obtain⟨hf,hm,hp,hn,hs⟩:=zK.1 hc;obtain⟨g1,g2⟩:=zco hf.1 hm;have tail:∀r,Shape r->hasB a1 (ln r.Mons)=true->(cond (ieq (wand .i64 a3 2) 0) (some [AV.agg<|zbf r])<|cond (inb a1<|ln r.Mons) (cond (inb a2<|ln (ix r.Mons a1 zf).Dirty) (share (up r.Mons a1 ({ (ix r.Mons a1 zf) with Dirty:=(up (ix r.Mons a1 zf).Dirty a2 true)}:Mon)) λx5=>cond (inb a1<|ln x5) (cond (inb a2<|ln (ix x5 a1 zf).Outer) (cond (ieq (wand .i64 (ix (ix x5 a1 zf).Outer a2 zO).Rights 2) 0) (cond (zfw ({r with Mons:=x5}:Host) a1 a2 ({ (ix (ix x5 a1 zf).Outer a2 zO) with Rights:=3}:Slot)) (some [AV.agg<|zbf<|zho ({r with Mons:=x5}:Host) a1 a2 ({ (ix (ix x5 a1 zf).Outer a2 zO) with Rights:=3}:Slot)]) none)<|some [AV.agg<|zbf ({r with Mons:=x5}:Host)]) none) none) none) none)=some [AV.agg<|zbf<|zjl r a1 a2 a3]:=(by intro r hr hrm;obtain⟨q1,q2⟩:=zco hr hrm;have hD:=zmw (p:=a2) hr hrm;unfold zjl;cases h0:ieq (wand .i64 a3 2) 0;{obtain⟨k,rfl,hk⟩:=zdX (n:=r.Mons.length) hrm;have ex:ix (zbx r (k:Int) a2).Mons (k:Int) mZ={ix r.Mons (k:Int) mZ with Dirty:=up (ix r.Mons (k:Int) mZ).Dirty a2 true}:=zd5 hk _ _;refine zcy rfl (must (zA hrm)<|must (zA<|zdE q2.2.2.1 hp)<|shr<|must (zA<|zeL hrm)<|must ?_ ?_);{rw [zd5 hk];exact zA (zdE q2.1 hp)};{unfold opened;show (cond (ieq (wand .i64 (ix (ix (zbx r (k:Int) a2).Mons (k:Int) mZ).Outer a2 sZ).Rights 2) 0) _ _)=_;cases h1:ieq (wand .i64 (ix (ix (zbx r (k:Int) a2).Mons (k:Int) mZ).Outer a2 sZ).Rights 2) 0;{rfl};{refine must rfl (must (zbe ⟨(zM _).2 hD.1,zeL hrm,?_,?_⟩) rfl);{show hasB a2 (ln (ix (zbx r (k:Int) a2).Mons (k:Int) mZ).Outer)=true;rw[ex];exact zdE q2.1 hp};{show (ix (zbx r (k:Int) a2).Mons (k:Int) mZ).Tables.length<=(ix (zbx r (k:Int) a2).Mons (k:Int) mZ).Guests.length;rw[ex];exact k7 q2.2.2.2}}}};{rfl});refine⟨0,?_⟩;unfold zt5 zgC mended oN;conv=>zeta
 refine must (zA hm) (must (zA<|zdE g2.1 hp) (must rfl ?_));have e:(cond (ieq (ix (ix a0.Mons a1 mZ).Outer a2 sZ).Page zW.Page) (ieq (ix (ix a0.Mons a1 mZ).Outer a2 sZ).Rights zW.Rights) false)=ieq (ix (ix a0.Mons a1 mZ).Outer a2 sZ).Page (-1):=(by rw[<- hs.no];unfold zcT zW;cases ieq (ix (ix a0.Mons a1 mZ).Outer a2 sZ).Page noSlot.Page<;>rfl);rw[e];cases h0:ieq (ix (ix a0.Mons a1 mZ).Outer a2 sZ).Page (-1);{exact tail a0 hf.1 hm};{obtain⟨h1,h2⟩:=zjL (p:=a2) hf hm hp;exact must rfl (must (zbe ⟨hf,hm,hp⟩)<|tail _ h1 h2)}
theorem zHq:zek Tryz.prog 371 [true,true,true,true,false,false,false] (some (1,1,[[0],[1],[2],[4],[7]])) zqR:=by refine zla (kt:=.mon) (zgF zhA zo zK7 zA7) (zje (by kernel_rfl)) (by kernel_rfl) ?_;intro avs rs hl hr h;have hb:=ziC hr;unfold zqR at h;split at h;{obtain⟨hc,rfl⟩:=zeb h;obtain⟨N,hN⟩:=zOa _ _ _ _ (by exact hb) hc;exact⟨⟨_,rfl⟩,rfl,_,N,12,(zQX N _ _ _ _ ).trans hN⟩};{cases h}
def zup:List CV->List AV->Option (Bool×List CV×List AV)
 |[.s (.sl .int) b,.s .mon c,.s .entry d,.s .entry e],[.one<|.i .i64 f,.one<|.i .i64 g,.one<|.i .i64 h]=>some (zhn (⟨b,c,d,e⟩:Host) f g h,zbf<|zgC (⟨b,c,d,e⟩:Host) f g h,[])
 |_,_=>none
def zDx (N:Nat)(c:Host)(a0 a1 a2:Int):OA:=
 let y3:=zlA c a0 a1;let y6:=ix y3.Mons a0 zf;let y2:=ix c.Mons a0 zf; (oN (inb a0<|ln c.Mons)<|oN (inb a1<|ln y2.Outer)<|cond (ieq (ix y2.Outer a1 zO).Page<|-1) (oN (zkM c a0 a1)<|oN (zbl a2 2)<|cond (nB<|zcE a2 2) (some [aH y3])<|oN (inb a0<|ln y3.Mons)<|oN (inb a1<|ln y6.Dirty)<|share (up y3.Mons a0 ({y6 with Dirty:=(up y6.Dirty a1 true)}:Mon)) (λx5=>let y4:=ix x5 a0 zf;let y0:=ix y4.Outer a1 zO; (oN (inb a1<|ln y4.Outer)<|oN (zbl y0.Rights 2)<|cond (nB<|zcE y0.Rights 2) (oN (inb a1<|ln y4.Outer)<|share (up x5 a0 ({y4 with Outer:=(up y4.Outer a1 ({y0 with Rights:=3}:Slot))}:Mon)) (λx6=>let y7:=({y3 with Mons:=x6}:Host); (oN (zeC y7 a0 a1 y0)<|some [aH<|zeD y7 a0 a1 y0])))<|some [aH ({y3 with Mons:=x5}:Host)])))<|oN (zbl a2 2)<|cond (nB<|zcE a2 2) (some [aH c])<|oN (inb a0<|ln c.Mons)<|oN (inb a1<|ln y2.Dirty)<|share (up c.Mons a0 ({y2 with Dirty:=(up y2.Dirty a1 true)}:Mon)) (λx5=>let y5:=ix x5 a0 zf;let y1:=ix y5.Outer a1 zO; (oN (inb a1<|ln y5.Outer)<|oN (zbl y1.Rights 2)<|cond (nB<|zcE y1.Rights 2) (oN (inb a1<|ln y5.Outer)<|share (up x5 a0 ({y5 with Outer:=(up y5.Outer a1 ({y1 with Rights:=3}:Slot))}:Mon)) (λx6=>let y8:=({c with Mons:=x6}:Host); (oN (zeC y8 a0 a1 y1)<|some [aH<|zeD y8 a0 a1 y1])))<|some [aH ({c with Mons:=x5}:Host)])))
theorem zX8 (N:Nat)(c:Host)(a0 a1 a2:Int):zpx (cQ zpv zny zV5 zRT) (zx []) N 12 134 [true,true,true,true] (zbf c) [aI a0,aI a1,aI a2]=zDx N c a0 a1 a2:=by kernel_rfl
theorem zVP (c:Host)(a0 a1 a2:Int)(hb:zbC big (.agg (zbf c)::[aI a0,aI a1,aI a2]))(hc:zhn c a0 a1 a2=true):∃N,zDx N c a0 a1 a2=some (.agg (zbf<|zgC c a0 a1 a2)::[]):=by
 obtain⟨hf,hm,hp,hn,hs⟩:=zK.1 hc;obtain⟨g1,g2⟩:=zco hf.1 hm;have en:enough a2 2 = !ieq (wand .i64 a2 2) 0:=(by rcases hn with rfl|rfl<;>rfl);have tail:∀r,Shape r->hasB a0 (ln r.Mons)=true->enough (ix (ix r.Mons a0 mZ).Outer a1 sZ).Rights 2=(!ieq (wand .i64 (ix (ix r.Mons a0 mZ).Outer a1 sZ).Rights 2) 0)->(cond (zbl a2 2) (cond (cond (zcE a2 2) false true) (some [AV.agg<|zbf r])<|cond (inb a0<|ln r.Mons) (cond (inb a1<|ln (ix r.Mons a0 zf).Dirty) (share (up r.Mons a0 ({ (ix r.Mons a0 zf) with Dirty:=(up (ix r.Mons a0 zf).Dirty a1 true)}:Mon)) λx5=>cond (inb a1<|ln (ix x5 a0 zf).Outer) (cond (zbl (ix (ix x5 a0 zf).Outer a1 zO).Rights 2) (cond (cond (zcE (ix (ix x5 a0 zf).Outer a1 zO).Rights 2) false true) (cond (inb a1<|ln (ix x5 a0 zf).Outer) (share (up x5 a0 ({ (ix x5 a0 zf) with Outer:=(up (ix x5 a0 zf).Outer a1 ({ (ix (ix x5 a0 zf).Outer a1 zO) with Rights:=3}:Slot))}:Mon)) λx6=>cond (zeC ({r with Mons:=x6}:Host) a0 a1<|ix (ix x5 a0 zf).Outer a1 zO) (some [AV.agg<|zbf<|zeD ({r with Mons:=x6}:Host) a0 a1<|ix (ix x5 a0 zf).Outer a1 zO]) none) none)<|some [AV.agg<|zbf ({r with Mons:=x5}:Host)]) none) none) none) none) none)=some [AV.agg<|zbf<|zjl r a0 a1 a2]:=(by intro r hr hrm her;obtain⟨q1,q2⟩:=zco hr hrm;have hD:=zmw (p:=a1) hr hrm;unfold zjl;simp only[zbl,zcE,en,cT];cases h0:ieq (wand .i64 a2 2) 0;{obtain⟨k,rfl,hk⟩:=zdX (n:=r.Mons.length) hrm;have ex:ix (zbx r (k:Int) a1).Mons (k:Int) mZ={ix r.Mons (k:Int) mZ with Dirty:=up (ix r.Mons (k:Int) mZ).Dirty a1 true}:=zd5 hk _ _;have hk':k<(zbx r (k:Int) a1).Mons.length:=(by simpa [zbx] using hk);have hi:inb a1 (ln (ix (zbx r (k:Int) a1).Mons (k:Int) mZ).Outer)=true:=(by rw[ex];exact zA (zdE q2.1 hp));refine zcy rfl (must (zA hrm)<|must (zA<|zdE q2.2.2.1 hp)<|shr<|must hi ?_);unfold opened;show (cond (cond (enough (ix (ix (zbx r (k:Int) a1).Mons (k:Int) mZ).Outer a1 sZ).Rights 2) false true) _ _)=_;have e2:(cond (enough (ix (ix (zbx r (k:Int) a1).Mons (k:Int) mZ).Outer a1 sZ).Rights 2) false true)=ieq (wand .i64 (ix (ix (zbx r (k:Int) a1).Mons (k:Int) mZ).Outer a1 sZ).Rights 2) 0:=(by rw[ex];show (cond (enough (ix (ix r.Mons (k:Int) mZ).Outer a1 sZ).Rights 2) false true)=ieq (wand .i64 (ix (ix r.Mons (k:Int) mZ).Outer a1 sZ).Rights 2) 0;rw[her];cases ieq (wand .i64 (ix (ix r.Mons (k:Int) mZ).Outer a1 sZ).Rights 2) 0<;>rfl);rw[e2];cases h1:ieq (wand .i64 (ix (ix (zbx r (k:Int) a1).Mons (k:Int) mZ).Outer a1 sZ).Rights 2) 0;{rfl};{have hX:Shape {zbx r (k:Int) a1 with Mons:=up (zbx r (k:Int) a1).Mons (k:Int) {ix (zbx r (k:Int) a1).Mons (k:Int) mZ with Outer:=up (ix (zbx r (k:Int) a1).Mons (k:Int) mZ).Outer a1 ⟨(ix (ix (zbx r (k:Int) a1).Mons (k:Int) mZ).Outer a1 sZ).Page,3⟩}}:=(by obtain⟨w1,w2⟩:=zco hD (zeL hrm);exact zir hD ⟨by simpa using w1.1,w1.2⟩ ⟨by simpa using w2.1,w2.2⟩);have hh:∀(x y:Mon),hasB (k:Int) (ln<|up (up r.Mons (k:Int) x) (k:Int) y)=true:=λx y=>(by simpa [ln] using hrm);refine must rfl (must hi<|shr<|must (zbe ⟨hX,hh _ _⟩) ?_);exact congrArg (λx=>some [AV.agg<|zbf x]) (zw2 (h:=zbx r (k:Int) a1) (p:=a1) (s:=⟨(ix (ix (zbx r (k:Int) a1).Mons (k:Int) mZ).Outer a1 sZ).Page,3⟩) hk' (by rw[ex];exact q2.2.2.2))}};{rfl});refine⟨0,?_⟩;unfold zDx zgC mended oN nB;conv=>zeta
 refine must (zA hm) (must (zA<|zdE g2.1 hp) ?_);cases h0:ieq (ix (ix c.Mons a0 mZ).Outer a1 sZ).Page (-1);{exact tail c hf.1 hm (z3i hs.lo hs.hi)};{obtain⟨h1,h2⟩:=zjL (p:=a1) hf hm hp;exact must rfl (must (zbe ⟨hf,hm,hp⟩)<|tail _ h1 h2 (by rw[zPC hf hm hp];rfl))}
theorem zPU:zdc Tryz.prog 134 [true,true,true,true] zup:=by refine zhv (zgF zhA zo zK7 zA7) (zje (by kernel_rfl)) ?_;intro cs avs cs' rs hl hr h;have hb:=zkk hr;unfold zup at h;split at h;{obtain⟨hc,rfl,rfl⟩:=zmd h;obtain⟨N,hN⟩:=zVP _ _ _ _ (by exact hb) hc;exact⟨rfl,_,N,12,(zX8 N _ _ _ _ ).trans hN⟩};{cases h}
def zV7:zdI:=[(134,[true,true,true,true],zup)]++zV5
theorem zbS:zcA zV7:=zec zK7 (by
 intro x hx;simp only[qI,qW,or_false]at hx;rcases hx with rfl
 .exact zPU)
def zWC:zfn:=[(371,[true,true,true,true,false,false,false],some (1,1,[[0],[1],[2],[4],[7]]),zqR)]++zRT
theorem zvV:zef zWC:=zpk zA7 (by
 intro x hx;simp only[qI,qW,or_false]at hx;rcases hx with rfl
 .exact zHq)
theorem zVF {h:Host}(hh:zb1 h=true):h.Memory.length=12:=by unfold zb1 at hh;simp only[zc7]at hh;have h1:=hh.1;unfold zh6 at h1;simp only[zc7]at h1;have:ln h.Memory=12:=qD h1.2;simp only[ln] at this;omega
theorem zhb {h:Host}(hh:zb1 h=true):∀x∈h.Mons,zeG x=true:=by unfold zb1 at hh;simp only[zc7]at hh;exact zww _ _ hh.2.2.2.2
theorem zEX {x:Mon}(hk:zeG x=true):ShM x:=by have ho:=zqv (zlY hk);unfold zeG at hk;simp only[zc7]at hk;have e1:ln x.Tables=ln x.Guests:=qD hk.2.1;have e2:ln x.Out=8:=qD hk.2.2.2.1;have e3:ln x.Dirty=8:=qD hk.2.2.2.2.1;simp only[ln] at *;exact⟨by omega,by omega,by omega,by omega⟩
theorem ze3 {h:Host}(hs:SmH h)(hh:zb1 h=true):Fit h:=by refine⟨⟨hs,λx hx=>zEX (zhb hh x hx)⟩,by rw[zVF hh];decide,?_⟩;unfold zb1 at hh;simp only[zc7]at hh;have:=zPZ _ _ rfl hh.2.2.2.2;omega
theorem zri {x:Mon}(hk:zeG x=true){p:Int}(hp:hasB p 8=true):SlotFit (ix x.Outer p sZ):=by have ht:=zlY hk;unfold zcV at ht;simp only[zc7]at ht;exact zWu (qM.1 ht.1 _<|zby (zdE (zEX hk).1 hp) _)
theorem zSG {h:Host}{m p:Int}(hf:Fit h)(hm:hasB m (ln h.Mons)=true):Fit (zbx h m p):=by refine⟨zmw hf.1 hm,hf.2.1,?_⟩;obtain⟨k,rfl,hk⟩:=zdX (n:=h.Mons.length) hm;have:=zSo h.Mons k (ix h.Mons (k:Int) mZ) {ix h.Mons (k:Int) mZ with Dirty:=up (ix h.Mons (k:Int) mZ).Dirty p true} (by rw[zbg hk];exact qB hk);have h3:=hf.2.2;unfold zbx;simp only[up,kV];dsimp only at this;simp only[up] at this;omega
abbrev gZ:Guest:=Ty.dflt .guest
@[simp] abbrev zeQ (h:Host)(m:Int):Bool:=pc (zcJ h)
@[simp] abbrev zcr (h:Host)(m:Int):Mon:=bif hasB m (ln h.Mons) then ix h.Mons m mZ else mZ
@[simp] abbrev zkr (h:Host)(m:Int):Bool:=hasB m (ln h.Mons)
def zC8:Run:=rF2 dH dI λb c=>(zeQ b c,[aT .mon<|zcr b c,aB<|zkr b c])
def zLE (N:Nat)(a0:Host)(a1:Int):OA:=
 let y0:=ix a0.Mons a1 zf; (oN (zbl a1<|ln a0.Mons)<|cond (nB<|zcR a1<|ln a0.Mons) (some [aT .mon (⟨[],[],[],[],[],0,0,[],0⟩:Mon),aB false])<|oN (inb a1<|ln a0.Mons)<|oN (zjT y0)<|some [aT .mon<|zks y0,aB true])
theorem zSS (a0:Host)(a1:Int)(hc:zeQ a0 a1=true):∃N,zLE N a0 a1=some [aT .mon<|zcr a0 a1,aB<|zkr a0 a1]:=by
 have hs:=(zM a0).1 (zK.1 hc);refine⟨0,?_⟩;unfold zLE zcr zkr oN nB;conv=>zeta
 refine must rfl ?_;rw[show zcR a1 (ln a0.Mons)=hasB a1 (ln a0.Mons) from rfl];cases hh:hasB a1 (ln a0.Mons);{rfl};{exact zcy rfl (must (zA hh) (must (zbe<|hs.2.1.2 _<|zby hh _) rfl))}
theorem zM8:vJ 68 zC8:=kF2 zhA zo zbS zvV (zx []) zSS
def zbK (h:Host)(m g:Int):Bool:=bif zb1 h then (cond (hasB m<|ln h.Mons) (hasB g<|ln (ix h.Mons m mZ).Guests) false) else false
@[simp] abbrev zcH (h:Host)(m g:Int):Bool:=pc (zcJ h)
@[simp] abbrev ziZ (h:Host)(m g:Int):Bool:=zbK h m g
def zDe:Run:=rF3 dH dI dI λb c d=>(zcH b c d,[aB<|ziZ b c d])
def zLX (N:Nat)(a0:Host)(a1 a2:Int):OA:=
 let y0:=wsub .i64 (ln (ix a0.Mons a1 zf).Guests) 1; (oN (zdn a0)<|cond (zdw a0) (oN (zI a1 0<|wsub .i64 (ln a0.Mons) 1)<|cond (zi a1 0<|wsub .i64 (ln a0.Mons) 1) (oN (inb a1<|ln a0.Mons)<|oN (zI a2 0 y0)<|some [aB<|zi a2 0 y0]) oF) oF)
theorem zTa (a0:Host)(a1 a2:Int)(hc:zcH a0 a1 a2=true):∃N,zLX N a0 a1 a2=some [aB<|ziZ a0 a1 a2]:=by
 have hs:=(zM a0).1 (zK.1 hc);refine⟨0,?_⟩;unfold zLX ziZ zbK oN;conv=>zeta
 refine must rfl ?_;rw[show zdw a0=zb1 a0 from rfl];cases hh:zb1 a0;{rfl};{rw [show zi a1 0 (wsub .i64 (ln a0.Mons) 1)=hasB a1 (ln a0.Mons) from zpn hs.2.1.1 a1];refine must rfl (must rfl ?_);cases h1:hasB a1 (ln a0.Mons);{rfl};{have hg:(ix a0.Mons a1 mZ).Guests.length<=1048576:=(hs.2.1.2 _<|zby h1 _).2.2.2.1.1;rw[show zi a2 0 (wsub .i64 (ln (ix a0.Mons a1 zf).Guests) 1)=hasB a2 (ln (ix a0.Mons a1 mZ).Guests) from zpn hg a2];exact must rfl (must (zA h1) (must rfl rfl))}}
theorem zNt:vJ 361 zDe:=kF3 zhA zo zbS zvV (zx []) zTa
def zcq (h:Host)(m:Int):Nat->Nat->List (List Int)
 | 0,_=>[]
 |n+1,i=>zcm h m (i:Int)::zcq h m n (i+1)
theorem zwS (h:Host)(m:Int):∀(n i:Nat),(zcq h m n i).length=n
 | 0,_=>rfl
 |n+1,i=>by simp[zcq,zwS h m n]
def zy (h:Host)(m:Int):Bare:=bif hasB m (ln h.Mons) then ⟨zcq h m 8 0,(ix h.Mons m mZ).Guests,(ix h.Mons m mZ).Outs,(ix h.Mons m mZ).Pending⟩ else ⟨[],[],[],0⟩
theorem zzp {ρ:Type}(h:Host)(m:Int)(K:List (List Int)->Option ρ):∀(n i:Nat) (acc:List (List Int)),acc.length+n<=2147483648->
 goN (λi acc κ=>bif few (ln<|ap acc [zcm h m (i:Int)]) then κ (ap acc [zcm h m (i:Int)]) else none) K n i acc=K (acc++zcq h m n i)
 | 0,_,acc,_=>by simp[goN,zcq]
 |n+1,i,acc,hl=>by simp only[goN,zcq];rw[zgt (by simp[ap];omega),cT,zzp h m K n (i+1) _ (by simp[ap];omega)];simp[ap]
@[simp] abbrev zgK (h:Host)(m:Int):Bare:=zy h m
def z1y:zS:=[(68,zC8),(361,zDe)]++zpv
theorem zPm:zL z1y:=zh zM8 (zh zNt zhA)
def znE:Run:=rF2 dH dI λb c=>(zeQ b c,[aT .bare<|zgK b c])
def zFt (N:Nat)(a0:Host)(a1:Int):OA:=
 (oN (zeQ a0 a1)<|cond (nB<|zkr a0 a1) (some [aT .bare (⟨[],[],[],0⟩:Bare)])<|iter (σ:=(Int×Int×Int×Int×lM×lN×lE×lE×lM×lG×(List Int)×lM×lG×(List Int)×Unit)) N (λr3 s4=>let y3:=s4.2.2.2.2.2.2.2.2.2.2.2.2.1;let y2:=s4.2.2.2.2.2.2.2.2.2.2.2.2.2.1;let y0:=(⟨s4.2.2.2.2.1,s4.2.2.2.2.2.1,s4.2.2.2.2.2.2.1,s4.2.2.2.2.2.2.2.1⟩:Host);let y1:=ap s4.2.2.2.2.2.2.2.2.2.2.2.1 [zmN y0 s4.1 s4.2.1]; (cond (ilt s4.2.1 8) (oN (zoj y0 s4.1 s4.2.1)<|oN (few<|ln y1)<|r3 (s4.1,zD .i64 s4.2.1 1,s4.2.2.1,s4.2.2.2.1,s4.2.2.2.2.1,s4.2.2.2.2.2.1,s4.2.2.2.2.2.2.1,s4.2.2.2.2.2.2.2.1,s4.2.2.2.2.2.2.2.2.1,s4.2.2.2.2.2.2.2.2.2.1,s4.2.2.2.2.2.2.2.2.2.2.1,y1,y3,y2,()))<|some [aT .bare (⟨s4.2.2.2.2.2.2.2.2.2.2.2.1,y3,y2,s4.2.2.2.1⟩:Bare)])) (a1,0,0,(zcr a0 a1).Pending,a0.Memory,a0.Mons,a0.Buffer,a0.IoBuffer,[],[],[],[],(zcr a0 a1).Guests,(zcr a0 a1).Outs,()))
def zR0:=zx [(84,0,{n:=39,tm:=[(1,ti),(2,.lp 0 0),(4,.lp 1 0),(7,.lp 2 0),(8,ti)],lo:=[(0,[.sl 0 [],.sl 1 [],.sl 2 [],.sl 3 []]),(1,[.sl 4 [],.sl 5 [],.sl 6 [],ti]),(2,[.sl 7 [],.sl 8 [],.sl 9 [],ti])],ro:=[(0,.sl .int,false),(1,.mon,false),(2,.entry,false),(3,.entry,false),(4,.sl .int,true),(5,.guest,true),(6,.int,true),(7,.sl .int,true),(8,.guest,true),(9,.int,true)]})]
theorem zQk (a0:Host)(a1:Int)(hc:zeQ a0 a1=true):∃N,zFt N a0 a1=some [aT .bare<|zgK a0 a1]:=by
 have hs:=zK.1 hc;refine zb0 λN hNN=>?_;unfold zFt zgK zy oN nB;conv=>zeta
 refine must (zbe hs) ?_;rw[show zkr a0 a1=hasB a1 (ln a0.Mons) from rfl];cases hh:hasB a1 (ln a0.Mons);{rfl};{refine zcy rfl ?_;refine(zsf 8 (λi (t:lM)=>(a1,(i:Int),0,(zcr a0 a1).Pending,a0.Memory,a0.Mons,a0.Buffer,a0.IoBuffer,[],[],[],t,(zcr a0 a1).Guests,(zcr a0 a1).Outs,())) _ (λi (acc:List (List Int)) κ=>bif few (ln<|ap acc [zcm a0 a1 (i:Int)]) then κ (ap acc [zcm a0 a1 (i:Int)]) else none) (λ(t:lM)=>some [.agg<|Ty.cells .bare (⟨t,(zcr a0 a1).Guests,(zcr a0 a1).Outs,(zcr a0 a1).Pending⟩:Bare)]) (λi hi t rec=>?_) (λt rec=>?_) _ ([])<|hNN (by decide)).trans ?_;{simp only [show ilt (i:Int) 8=true from qJ (by omega),zU hi (show 8<=big by decide),cT];exact must (zbe hs) rfl};{simp only [show ilt ((8:Nat):Int) 8=false from qG (by omega),cF]};rw[zzp a0 a1 _ 8 0 [] (by decide)];simp only[zcr,hh,cT,jO]}
theorem zJC:vJ 84 znE:=kF2 zPm zo zbS zvV zR0 zQk
theorem zTc:zcn zw9=true:=by decide
theorem zTL {p:Nat->Bool}:∀{n i q:Nat},zng p n i=true->i<=q->q<i+n->p q=true
 | 0,i,q,_,h1,h2=>by omega
 |n+1,i,q,h,h1,h2=>by simp only[zng,qE]at h;by_cases he:i=q;{subst he;exact h.1};{exact zTL h.2 (by omega) (by omega)}
theorem zYj {h:Host}{m:Int}(hh:zb1 h=true)(hm:hasB m (ln h.Mons)=true){p:Int}(hp:hasB p 8=true):zcn (zcm h m p)=true:=by have hk:=zhb hh _ (zby hm mZ);have hsh:=zEX hk;have hmem:h.Memory.all zcn=true:=(by unfold zb1 at hh;simp only[zc7]at hh;have h1:=hh.1;unfold zh6 at h1;simp only[zc7]at h1;exact h1.1);unfold zcm;rw[hm,hp];simp only[cT];have hsl:zbs (ix h.Mons m mZ).Outer p=ix (ix h.Mons m mZ).Outer p sZ:=(by unfold zbs;rw[zdE hsh.1 hp];rfl);rw[hsl];have hAt:∀(mm:List (List Int)) (q:Int),(hasB q (ln mm)=true->zcn (ix mm q [])=true)->zcn (zcp mm q)=true:=(by intro mm q hq;unfold zcp;cases h1:hasB q (ln mm);{exact zTc};{exact hq h1});cases hpg:ine (ix (ix h.Mons m mZ).Outer p sZ).Page (-1);{refine hAt _ _ (λhq=>?_);obtain⟨q,rfl,hq8⟩:=zdX (n:=8) hp;have hfit:fits (ix h.Mons m mZ) q=true:=(by unfold zeG at hk;simp only[zc7]at hk;exact zTL hk.2.2.2.2.2.2.2.2.2.2 (by omega) (by omega));unfold fits zlf at hfit;have hno:zcT (ix (ix h.Mons m mZ).Outer (q:Int) sZ) noSlot=true:=(by rw[(zri (zhb hh _<|zby hm mZ) hp).no];rw[zjU]at hpg;cases h1:ieq (ix (ix h.Mons m mZ).Outer (q:Int) sZ).Page (-1);{rw [h1]at hpg;cases hpg};{rfl});rw[hno]at hfit;exact hfit};{exact hAt _ _ (λhq=>qM.1 hmem _ (zby hq _))}
theorem zMD {h:Host}{m:Int}(hh:zb1 h=true)(hm:hasB m (ln h.Mons)=true):∀(n i:Nat),i+n<=8->(zcq h m n i).all zcn=true
 | 0,_,_=>rfl
 |n+1,i,hi=>by simp only[zcq,kU,qE];exact⟨zYj hh hm<|qJ (by omega),zMD hh hm n (i+1) (by omega)⟩
theorem zua {h:Host}{m:Int}(hh:zb1 h=true)(hm:hasB m (ln h.Mons)=true):zbI (zy h m)=true:=by have hk:=zhb hh _ (zby hm mZ);unfold zeG at hk;simp only[zc7]at hk;unfold zy zbI zh6;rw[hm];simp only[cT,hk.2.2.2.2.2.2.2.2.2.1,zMD hh hm 8 0 (by decide),ln,zwS];simp only[ln]at hk;rw[hk.1,hk.2.2.2.2.2.1,hk.2.2.2.2.2.2.1];rfl
def zmf:zS:=[(84,znE)]++z1y
theorem zhB:zL zmf:=zh zJC zPm
def zel (l:List Mon):List (List Guest):=l.map λx=>x.Guests
theorem zwv {l:List Mon}{m:Int}{x:Mon}(hm:hasB m (ln l)=true)(hx:x.Guests=(ix l m mZ).Guests):zel (up l m x)=zel l:=by obtain⟨k,rfl,hk⟩:=zdX (n:=l.length) hm;unfold zel up;rw[List.map_set,kV,hx,zbg hk];have:=@u0 _ (l.map λx=>x.Guests) k (by simpa using hk);simpa using this
theorem zGE {l l':List Mon}(h:zel l'=zel l)(m:Int):(ix l' m mZ).Guests=(ix l m mZ).Guests:=by unfold zel at h;have h2:(l'.map λx=>x.Guests)[m.toNat]?=(l.map λx=>x.Guests)[m.toNat]?:=(by rw[h]);rw[qO,qO]at h2;unfold ix;simp only[j4];cases h3:l'[m.toNat]? <;> cases h4:l[m.toNat]? <;> rw [h3,h4]at h2<;>simp at h2 ⊢;exact h2
theorem zwu {h:Host}{m p:Int}{s:Slot}(hm:hasB m (ln h.Mons)=true):zel (zb6 h m p s).Mons=zel h.Mons:=by rw[(zgu h m p s).1];exact zwv hm rfl
theorem z3p {h:Host}{m p:Int}(hm:hasB m (ln h.Mons)=true):zel (zdk h m p).Mons=zel h.Mons:=(zwu (h:=zeR h m p)<|zeL hm).trans (zwv hm rfl)
theorem z3o {h:Host}(hf:Fit h):zel (zc2 h).Mons=zel h.Mons:=by unfold zc2;cases h0:ieq (ln<|zce h) 0;{rfl};{exact z3p (zA1 hf h0).1}
theorem zVC {h:Host}{m p:Int}(hf:Fit h)(hm:hasB m (ln h.Mons)=true):zel (fetched h m p).Mons=zel h.Mons:=by have hr:=zo4 hf hm;exact((zwu (h:=landing (zc2 h) m p (ix (zce<|zc2 h) 0 0))<|zeL hr).trans (zwv hr rfl)).trans (z3o hf)
theorem zPO {h:Host}{m p n:Int}(hm:hasB m (ln h.Mons)=true):zel (zjl h m p n).Mons=zel h.Mons:=by have hd:zel (zbx h m p).Mons=zel h.Mons:=zwv hm rfl;unfold zjl;cases ieq (wand .i64 n 2) 0;{unfold opened;cases ieq (wand .i64 (ix (ix (zbx h m p).Mons m mZ).Outer p sZ).Rights 2) 0;{exact hd};{exact(zwu (h:=zbx h m p)<|zeL hm).trans hd}};{rfl}
theorem zXI {h:Host}{m p n:Int}(hf:Fit h)(hm:hasB m (ln h.Mons)=true)(hp:hasB p 8=true):zel (mended h m p n).Mons=zel h.Mons:=by unfold mended;cases ieq (ix (ix h.Mons m mZ).Outer p sZ).Page (-1);{exact zPO hm};{exact(zPO (zjL hf hm hp).2).trans (zVC hf hm)}
theorem z4I {l l':List Mon}(h:zel l'=zel l):l'.length=l.length:=by have:=congrArg List.length h;simpa [zel] using this
abbrev kZ:Kept:=Ty.dflt .kept
theorem z5P {x:Guest}(hk:zdC x=true){p n:Int}(hw:zet x.Live p n=true):hasB (zb2 x.Live p n) 8=true:=by have ht:zcV x.Live 4 8=true:=(by unfold zdC at hk;simp only[qE]at hk;exact hk.2.2.2.2.1);unfold zb2;rw[hw];simp only[cT];unfold zet at hw;cases h1:ieq (zbs x.Live p).Page (-1);{unfold zbs at h1 ⊢;cases h2:hasB p (ln x.Live);{rw [h2]at h1;cases h1};{rw [h2]at h1;simp only[cT]at h1 ⊢;unfold zcV at ht;simp only[zc7]at ht;have hs:=qM.1 ht.1 _ (zby h2 sZ);unfold zdV at hs;cases h3:zcT (ix x.Live p sZ) noSlot;{rw [h3]at hs;simp only[cF,zc7]at hs;have:=zfM.1 hs.2.1;rw[show wsub .i64 8 1=7 from rfl] at this;show hasB (ix x.Live p sZ).Page 8=true;exact qJ (by omega)};{unfold zcT at h3;rw[qE]at h3;have:(ix x.Live p sZ).Page = -1:=qD h3.1;rw[show ieq (ix x.Live p zO).Page (-1)=true from qJ this]at h1;cases h1}}};{rw [h1]at hw;cases hw}
def zci (h:Host)(m g:Int):List Slot:=(ix (ix h.Mons m mZ).Guests g gZ).Live
def zbV (h:Host)(m g:Int):Kept:=ix (ix h.Mons m mZ).Tables g kZ
def zrb (h:Host)(io:Bool):List Entry:=bif io then h.IoBuffer else h.Buffer
def zqd (b:List Entry)(m g page:Int):Option Entry:=zwk b (zd1 m g) page
def zhS (b:List Entry)(m g page need:Int):Bool:=bif (zqd b m g page).isSome then enough ((zqd b m g page).getD ⟨0,0,0,0⟩).Rights need else false
def zer (h:Host)(m g page need:Int):Bool:=bif zjE (zbV h m g) page then (cond (ieq (zdT (zbV h m g) page).Page<|-1) true<|!enough (zdT (zbV h m g) page).Rights need) else true
def zck (h:Host)(m g page:Int):Host:={h with Mons:=up h.Mons m {ix h.Mons m mZ with Tables:=up (ix h.Mons m mZ).Tables g (filled (zbV h m g) (zci h m g) (ix h.Mons m mZ).Outer page)}}
def zOz (h:Host)(m g page:Int):Entry:=⟨zd1 m g,page,(zdT (zbV h m g) page).Page,(zdT (zbV h m g) page).Rights⟩
def ztx (h:Host)(m g page:Int)(io:Bool):Host:=bif io then {h with IoBuffer:=zqL h.IoBuffer (zOz h m g page)} else {h with Buffer:=zqL h.Buffer (zOz h m g page)}
def zeF (h:Host)(m g page:Int)(io:Bool):Host×Int×Bool:=(ztx h m g page io,(zdT (zbV h m g) page).Page,true)
def zgf (h:Host)(b:List Entry)(m g page need q:Int)(io:Bool):Host×Int×Bool :=
 bif zhS b m g page need then (h,((zqd b m g page).getD ⟨0,0,0,0⟩).Host,true)
 else (cond (zer h m g page need) (zeF (zck (mended h m q need) m g page) m g page io)<|zeF h m g page io)
def zf1 (need:Int):Bool:=bif ieq need 1 then true else ieq need 2
def zbO (h:Host)(m g page need:Int):Bool:=bif zbK h m g then (cond (zf1 need) (zet (zci h m g) page need) false) else false
def lookOf (h:Host)(b:List Entry)(m g page need:Int)(io:Bool):Host×Int×Bool :=
 bif zbO h m g page need then zgf (cond (ieq need 2) (zbx h m<|zb2 (zci h m g) page need) h) b m g page need (zb2 (zci h m g) page need) io else (h,-1,false)
structure Kp (h r:Host):Prop where
 shape:Shape r
 gs:zel r.Mons=zel h.Mons
theorem Kp.has {h r:Host}(k:Kp h r){m:Int}(hm:hasB m (ln h.Mons)=true):hasB m (ln r.Mons)=true:=by rw[ln,z4I k.gs];exact hm
theorem zWr {h:Host}{m g page:Int}(hs:Shape h)(hm:hasB m (ln h.Mons)=true)(hg:hasB g (ln (ix h.Mons m mZ).Guests)=true):Shape (zck h m g page):=by obtain⟨g1,g2⟩:=zco hs hm;have ht:hasB g (ln (ix h.Mons m mZ).Tables)=true:=(by rw[ln,g2.2.2.2];exact hg);exact zir hs ⟨g1.1,g1.2.1,g1.2.2.1,g1.2.2.2.1,g1.2.2.2.2.1,zvS g1.2.2.2.2.2<|zWw<|g1.2.2.2.2.2.2 _<|zby ht _⟩ ⟨g2.1,g2.2.1,g2.2.2.1,by simpa using g2.2.2.2⟩
theorem zXQ {h r:Host}{m g page:Int}{io:Bool}(k:Kp h r):Kp h (ztx r m g page io):=by obtain⟨⟨h1,h2,h3,h4⟩,h5⟩:=k.shape;unfold ztx;cases io;{exact⟨⟨⟨h1,h2,(zwT _ h3).1,h4⟩,h5⟩,k.gs⟩};{exact⟨⟨⟨h1,h2,h3,(zwT _ h4).1⟩,h5⟩,k.gs⟩}
structure LookAt (h:Host) (m g q need:Int):Prop where
 fit:Fit h
 hm:hasB m (ln h.Mons)=true
 hg:hasB g (ln (ix h.Mons m mZ).Guests)=true
 hq:hasB q 8=true
 hn:need=1\/need=2
 hs:SlotFit (ix (ix h.Mons m mZ).Outer q sZ)
theorem LookAt.mend {h:Host}{m g q need:Int}(A:LookAt h m g q need):zWJ h m q need:=⟨A.fit,A.hm,A.hq,A.hn,A.hs⟩
theorem LookAt.kp {h:Host}{m g q need:Int}(A:LookAt h m g q need):Kp h (mended h m q need):=⟨(zsI A.fit A.hm A.hq).1,zXI A.fit A.hm A.hq⟩
theorem LookAt.fill {h:Host}{m g q need:Int}(A:LookAt h m g q need)(page:Int):Kp h (zck (mended h m q need) m g page):=by have k:=A.kp;have hg:hasB g (ln (ix (mended h m q need).Mons m mZ).Guests)=true:=(by rw[zGE k.gs];exact A.hg);have e:zel (zck (mended h m q need) m g page).Mons=zel (mended h m q need).Mons:=zwv (k.has A.hm) rfl;exact⟨zWr k.shape (k.has A.hm) hg,e.trans k.gs⟩
theorem zP5 {h:Host}{b:List Entry}{m g page need q:Int}{io:Bool}(A:LookAt h m g q need):Kp h (zgf h b m g page need q io).1:=by unfold zgf;cases zhS b m g page need;{cases zer h m g page need;{exact zXQ ⟨A.fit.1,rfl⟩};{exact zXQ (A.fill page)}};{exact⟨A.fit.1,rfl⟩}
theorem zcS {h:Host}{m g:Int}(hh:zbK h m g=true):zb1 h=true/\hasB m (ln h.Mons)=true/\hasB g (ln (ix h.Mons m mZ).Guests)=true:=by unfold zbK at hh;simp only[zc7]at hh;exact hh
theorem zVD {h:Host}{m g:Int}(hh:zbK h m g=true):zdC (ix (ix h.Mons m mZ).Guests g gZ)=true:=by obtain⟨h1,h2,h3⟩:=zcS hh;have hk:=zhb h1 _ (zby h2 mZ);unfold zeG at hk;simp only[zc7]at hk;exact qM.1 hk.2.2.2.2.2.2.2.2.2.1 _ (zby h3 _)
theorem zHZ {n:Int}(h:zf1 n=true):n=1\/n=2:=by unfold zf1 at h;cases h1:ieq n 1;{rw [h1]at h;exact .inr (qD h)};{exact .inl (qD h1)}
theorem zzW {h:Host}{m g page need:Int}(hs:SmH h)(hh:zbO h m g page need=true) :
 LookAt h m g (zb2 (zci h m g) page need) need/\LookAt (zbx h m<|zb2 (zci h m g) page need) m g (zb2 (zci h m g) page need) need:=by
 unfold zbO at hh;simp only[zc7]at hh;obtain⟨h1,h2,h3⟩:=hh;obtain⟨g1,g2,g3⟩:=zcS h1;have hq:hasB (zb2 (zci h m g) page need) 8=true:=z5P (zVD h1) h3;have hsl:=zri (zhb g1 _<|zby g2 mZ) hq;have hf:=ze3 hs g1;refine⟨⟨hf,g2,g3,hq,zHZ h2,hsl⟩,⟨zSG hf g2,zeL g2,?_,hq,zHZ h2,?_⟩⟩
 .have e:zel (zbx h m<|zb2 (zci h m g) page need).Mons=zel h.Mons:=zwv g2 rfl;rw[zGE e];exact g3
 .obtain⟨k,rfl,hk⟩:=zdX (n:=h.Mons.length) g2;unfold zbx;rw[zd5 hk];exact hsl
theorem zrH {h:Host}{b:List Entry}{m g page need:Int}{io:Bool}(hs:SmH h)(hh:zbK h m g=true):Kp h (lookOf h b m g page need io).1:=by have hf:=ze3 hs (zcS hh).1;unfold lookOf;cases h1:zbO h m g page need;{exact⟨hf.1,rfl⟩};{obtain⟨A,B⟩:=zzW hs h1;simp only[cT];cases ieq need 2;{exact zP5 A};{have k:=zP5 (b:=b) (page:=page) (io:=io) B;have e:zel (zbx h m<|zb2 (zci h m g) page need).Mons=zel h.Mons:=zwv A.hm rfl;exact⟨k.shape,k.gs.trans e⟩}}
def zjn (x:Host×Int×Bool):List AV:=[.agg<|zbf x.1,.one<|.i .i64 x.2.1,.one<|.b x.2.2]
theorem zhw {h:Host}{b:List Entry}{m g page need:Int}{io:Bool}(hh:zbO h m g page need=false):lookOf h b m g page need io=(h,-1,false):=by unfold lookOf;rw[hh];rfl
theorem zm5 {h:Host}{m g page need:Int}(hh:zbK h m g=false):zbO h m g page need=false:=by unfold zbO;rw[hh];rfl
theorem zJe {h:Host}{m g:Int}(hh:zb1 h=false):zbK h m g=false:=by unfold zbK;rw[hh];rfl
theorem zJf {h:Host}{m g:Int}(hh:hasB m (ln h.Mons)=false):zbK h m g=false:=by unfold zbK;rw[hh];cases zb1 h<;>rfl
theorem zJg {h:Host}{m g:Int}(hh:hasB g (ln (ix h.Mons m mZ).Guests)=false):zbK h m g=false:=by unfold zbK;rw[hh];cases zb1 h<;>cases hasB m (ln h.Mons)<;>rfl
theorem zJh {h:Host}{m g:Int}(h1:zb1 h=true)(h2:hasB m (ln h.Mons)=true)(h3:hasB g (ln (ix h.Mons m mZ).Guests)=true):zbK h m g=true:=by unfold zbK;rw[h1,h2,h3];rfl
structure LookF (r:Host) (m g:Int):Prop where
 hm:hasB m (ln r.Mons)=true
 hg:hasB g (ln (ix r.Mons m mZ).Guests)=true
 ht:hasB g (ln (ix r.Mons m mZ).Tables)=true
 hk:SmK (zbV r m g)
 hb:r.Buffer.length<=1048576
 hi:r.IoBuffer.length<=1048576
theorem zld {h r:Host}{m g:Int}(k:Kp h r)(hm:hasB m (ln h.Mons)=true)(hg:hasB g (ln (ix h.Mons m mZ).Guests)=true):LookF r m g:=by obtain⟨g1,g2⟩:=zco k.shape (k.has hm);have hg':hasB g (ln (ix r.Mons m mZ).Guests)=true:=(by rw[zGE k.gs];exact hg);have ht:hasB g (ln (ix r.Mons m mZ).Tables)=true:=(by rw[ln,g2.2.2.2];exact hg');exact⟨k.has hm,hg',ht,g1.2.2.2.2.2.2 _<|zby ht _,k.shape.1.2.2.1,k.shape.1.2.2.2⟩
@[simp] abbrev zj4 (h:Host)(b:List Entry)(m g page need:Int)(io:Bool):Bool:=pc (zcJ h)
@[simp] abbrev zfx (h:Host)(b:List Entry)(m g page need:Int)(io:Bool):Host:=(lookOf h b m g page need io).1
@[simp] abbrev zj3 (h:Host)(b:List Entry)(m g page need:Int)(io:Bool):Int:=(lookOf h b m g page need io).2.1
@[simp] abbrev zhp (h:Host)(b:List Entry)(m g page need:Int)(io:Bool):Bool:=(lookOf h b m g page need io).2.2
def zqT:List AV->Option (Bool×List AV)
 |[.agg [.s (.sl .int) c,.s .mon d,.s .entry e,.s .entry f],.one<|.s .entry g,.one<|.i .i64 h,.one<|.i .i64 j,.one<|.i .i64 k,.one<|.i .i64 l,.one<|.b m]=>some (zj4 (⟨c,d,e,f⟩:Host) g h j k l m,[aH<|zfx (⟨c,d,e,f⟩:Host) g h j k l m,aI<|zj3 (⟨c,d,e,f⟩:Host) g h j k l m,aB<|zhp (⟨c,d,e,f⟩:Host) g h j k l m])
 |_=>none
abbrev zMZ (u9_11:lM)(u9_12:lN)(u9_13:lE)(u9_14:lE)(u9_0:Int)(u9_5:Int)(u9_3:Int):Mon :=
 (ix (zgC (⟨u9_11,u9_12,u9_13,u9_14⟩:Host) u9_0 u9_5 u9_3).Mons u9_0 zf)
abbrev zM0 (a0:Host)(a2 a3:Int)(a4 a5:Int):Int :=
 (zew (ix (ix a0.Mons a2 zf).Guests a3 zn).Live a4 a5)
def zIZ (N:Nat)(u11_0:Int)(u11_2:lM)(u11_3:lN)(u11_4:lE)(u11_5:lE):OA:=
 (some [aH (⟨u11_2,u11_3,u11_4,u11_5⟩:Host),aI u11_0,aB true])
def zoK (N:Nat)(u10_0:Int)(u10_1:Bool)(u10_2:Int)(u10_7:Int)(u10_8:Int)(u10_9:lM)(u10_10:lN)(u10_11:lE)(u10_12:lE)(u10_13:lM)(u10_14:lN)(u10_15:lE)(u10_16:lE):OA:=
 let y0:=(⟨u10_2,u10_0,u10_7,u10_8⟩:Entry); (share (λ(s11:(Int×Int×lM×lN×lE×lE×lM×lN×lE×lE×Unit))=>zIZ N s11.1 s11.2.2.1 s11.2.2.2.1 s11.2.2.2.2.1 s11.2.2.2.2.2.1) λr11=>cond u10_1 (oN (zhK u10_12 y0)<|r11 (u10_7,u10_8,u10_9,u10_10,u10_11,zg7 u10_12 y0,u10_13,u10_14,u10_15,u10_16,()))<|oN (zhK u10_11 y0)<|r11 (u10_7,u10_8,u10_9,u10_10,zg7 u10_11 y0,u10_12,u10_13,u10_14,u10_15,u10_16,()))
def zqE (N:Nat)(u9_11:lM)(u9_12:lN)(u9_13:lE)(u9_14:lE)(u9_0:Int)(u9_5:Int)(u9_3:Int)(u9_1:Int)(u9_2:Int)(r10:(Int×Bool×Int×Int×Int×Int×Int×Int×Int×lM×lN×lE×lE×lM×lN×lE×lE×Unit)->OA)(u9_4:Bool)(u9_6:Int)(u9_7:Int)(u9_8:Int)(u9_9:Int)(u9_10:Int)(u9_15:lM)(u9_16:lN)(u9_17:lE)(u9_18:lE):OA:=
 let y7:=(⟨u9_11,u9_12,u9_13,u9_14⟩:Host);let y1:=zgC y7 u9_0 u9_5 u9_3;let y3:=inb u9_0<|ln y1.Mons;let y0:=zMZ u9_11 u9_12 u9_13 u9_14 u9_0 u9_5 u9_3;let y6:=ix y0.Tables u9_1 ze2;let y4:=(ix y0.Guests u9_1 zn).Live; (oN (zhn y7 u9_0 u9_5 u9_3)<|oN y3<|oN y3<|oN (inb u9_1<|ln y0.Tables)<|oN y3<|oN (inb u9_1<|ln y0.Guests)<|oN y3<|oN (zsv y6 y4 y0.Outer u9_2)<|oN (inb u9_1<|ln y0.Tables)<|share (up y1.Mons u9_0 ({y0 with Tables:=(up y0.Tables u9_1<|zsu y6 y4 y0.Outer u9_2)}:Mon)) (λx11=>let y5:=(ix x11 u9_0 zf).Tables;let y2:=ix y5 u9_1 ze2; (oN (inb u9_0<|ln x11)<|oN (inb u9_1<|ln y5)<|oN (zdv y2 u9_2)<|r10 (u9_2,u9_4,u9_6,u9_7,u9_8,u9_9,u9_10,(zhV y2 u9_2).Page,(zhV y2 u9_2).Rights,y1.Memory,x11,y1.Buffer,y1.IoBuffer,u9_15,u9_16,u9_17,u9_18,()))))
def zk1 (N:Nat)(u9_0:Int)(u9_1:Int)(u9_2:Int)(u9_3:Int)(u9_4:Bool)(u9_5:Int)(u9_6:Int)(u9_7:Int)(u9_8:Int)(u9_9:Int)(u9_10:Int)(u9_11:lM)(u9_12:lN)(u9_13:lE)(u9_14:lE)(u9_15:lM)(u9_16:lN)(u9_17:lE)(u9_18:lE):OA:=
 let y3:=(ix u9_12 u9_0 zf).Tables;let y0:=ix y3 u9_1 ze2;let y2:=zhV y0 u9_2; (oN (inb u9_0<|ln u9_12)<|oN (inb u9_1<|ln y3)<|oN (zdv y0 u9_2)<|share (λ(s10:(Int×Bool×Int×Int×Int×Int×Int×Int×Int×lM×lN×lE×lE×lM×lN×lE×lE×Unit))=>zoK N s10.1 s10.2.1 s10.2.2.1 s10.2.2.2.2.2.2.2.1 s10.2.2.2.2.2.2.2.2.1 s10.2.2.2.2.2.2.2.2.2.1 s10.2.2.2.2.2.2.2.2.2.2.1 s10.2.2.2.2.2.2.2.2.2.2.2.1 s10.2.2.2.2.2.2.2.2.2.2.2.2.1 s10.2.2.2.2.2.2.2.2.2.2.2.2.2.1 s10.2.2.2.2.2.2.2.2.2.2.2.2.2.2.1 s10.2.2.2.2.2.2.2.2.2.2.2.2.2.2.2.1 s10.2.2.2.2.2.2.2.2.2.2.2.2.2.2.2.2.1) (λr10=>let y1:=zqE N u9_11 u9_12 u9_13 u9_14 u9_0 u9_5 u9_3 u9_1 u9_2 r10 u9_4 u9_6 u9_7 u9_8 u9_9 u9_10 u9_15 u9_16 u9_17 u9_18; (cond (nB<|zm8 y0 u9_2) y1<|cond (ieq y2.Page<|-1) y1<|oN (zbl y2.Rights u9_3)<|cond (nB<|zcE y2.Rights u9_3) y1<|r10 (u9_2,u9_4,u9_6,u9_7,u9_8,u9_9,u9_10,y2.Page,y2.Rights,u9_11,u9_12,u9_13,u9_14,u9_15,u9_16,u9_17,u9_18,()))))
def zqF (N:Nat)(a2:Int)(a0:Host)(a3 a4 a5:Int)(a1:lE)(a6:Bool):OA:=
 let y3:=zjZ a2 a3;let y2:=zM0 a0 a2 a3 a4 a5;let y1:=ix a0.Mons a2 zf;let y5:=(ix y1.Guests a3 zn).Live;let y0:=zfV a1 y3 a4;let y4:=y0.Rights; (oN (inb a2<|ln a0.Mons)<|oN (inb a3<|ln y1.Guests)<|oN (zgM y5 a4 a5)<|cond (nB<|zd3 y5 a4 a5) (some [aH a0,aI<|-1,aB false])<|oN (zhj a2 a3)<|cond (ieq a5 2) (oN (inb a2<|ln a0.Mons)<|oN (inb y2<|ln y1.Dirty)<|share (up a0.Mons a2 ({y1 with Dirty:=(up y1.Dirty y2 true)}:Mon)) λx8=>oN (zgS a1 y3 a4)<|share (λ(s9:(Int×Int×Int×Int×Bool×Int×Int×Int×Int×Int×Int×lM×lN×lE×lE×lM×lN×lE×lE×Unit))=>zk1 N s9.1 s9.2.1 s9.2.2.1 s9.2.2.2.1 s9.2.2.2.2.1 s9.2.2.2.2.2.1 s9.2.2.2.2.2.2.1 s9.2.2.2.2.2.2.2.1 s9.2.2.2.2.2.2.2.2.1 s9.2.2.2.2.2.2.2.2.2.1 s9.2.2.2.2.2.2.2.2.2.2.1 s9.2.2.2.2.2.2.2.2.2.2.2.1 s9.2.2.2.2.2.2.2.2.2.2.2.2.1 s9.2.2.2.2.2.2.2.2.2.2.2.2.2.1 s9.2.2.2.2.2.2.2.2.2.2.2.2.2.2.1 s9.2.2.2.2.2.2.2.2.2.2.2.2.2.2.2.1 s9.2.2.2.2.2.2.2.2.2.2.2.2.2.2.2.2.1 s9.2.2.2.2.2.2.2.2.2.2.2.2.2.2.2.2.2.1 s9.2.2.2.2.2.2.2.2.2.2.2.2.2.2.2.2.2.2.1) λr9=>cond (ze5 a1 y3 a4) (oN (zbl y4 a5)<|cond (zcE y4 a5) (some [aH ({a0 with Mons:=x8}:Host),aI y0.Host,aB true])<|r9 (a2,a3,a4,a5,a6,y2,y3,y0.Tag,y0.Page,y0.Host,y4,a0.Memory,x8,a0.Buffer,a0.IoBuffer,[],[],[],[],()))<|r9 (a2,a3,a4,a5,a6,y2,y3,y0.Tag,y0.Page,y0.Host,y4,a0.Memory,x8,a0.Buffer,a0.IoBuffer,[],[],[],[],()))<|oN (zgS a1 y3 a4)<|share (λ(s8:(Int×Int×Int×Int×Bool×Int×Int×Int×Int×Int×Int×lM×lN×lE×lE×lM×lN×lE×lE×Unit))=>zk1 N s8.1 s8.2.1 s8.2.2.1 s8.2.2.2.1 s8.2.2.2.2.1 s8.2.2.2.2.2.1 s8.2.2.2.2.2.2.1 s8.2.2.2.2.2.2.2.1 s8.2.2.2.2.2.2.2.2.1 s8.2.2.2.2.2.2.2.2.2.1 s8.2.2.2.2.2.2.2.2.2.2.1 s8.2.2.2.2.2.2.2.2.2.2.2.1 s8.2.2.2.2.2.2.2.2.2.2.2.2.1 s8.2.2.2.2.2.2.2.2.2.2.2.2.2.1 s8.2.2.2.2.2.2.2.2.2.2.2.2.2.2.1 s8.2.2.2.2.2.2.2.2.2.2.2.2.2.2.2.1 s8.2.2.2.2.2.2.2.2.2.2.2.2.2.2.2.2.1 s8.2.2.2.2.2.2.2.2.2.2.2.2.2.2.2.2.2.1 s8.2.2.2.2.2.2.2.2.2.2.2.2.2.2.2.2.2.2.1) λr8=>cond (ze5 a1 y3 a4) (oN (zbl y4 a5)<|cond (zcE y4 a5) (some [aH a0,aI y0.Host,aB true])<|r8 (a2,a3,a4,a5,a6,y2,y3,y0.Tag,y0.Page,y0.Host,y4,a0.Memory,a0.Mons,a0.Buffer,a0.IoBuffer,[],[],[],[],()))<|r8 (a2,a3,a4,a5,a6,y2,y3,y0.Tag,y0.Page,y0.Host,y4,a0.Memory,a0.Mons,a0.Buffer,a0.IoBuffer,[],[],[],[],()))
def zpp (N:Nat)(a0:Host)(a1:lE)(a2 a3:Int)(a4 a5:Int)(a6:Bool):OA:=
 let y1:=zqF N a2 a0 a3 a4 a5 a1 a6;let y0:=wsub .i64 (ln (ix a0.Mons a2 zf).Guests) 1; (oN (zdn a0)<|cond (nB<|zdw a0) (some [aH a0,aI<|-1,aB false])<|oN (zI a2 0<|wsub .i64 (ln a0.Mons) 1)<|cond (nB<|zi a2 0<|wsub .i64 (ln a0.Mons) 1) (some [aH a0,aI<|-1,aB false])<|oN (inb a2<|ln a0.Mons)<|oN (zI a3 0 y0)<|cond (nB<|zi a3 0 y0) (some [aH a0,aI<|-1,aB false])<|cond (ine a5 1) (cond (ine a5 2) (some [aH a0,aI<|-1,aB false]) y1) y1)
def zq3:=zx [(372,999999,{n:=0,tm:=[],lo:=[],ro:=[]}),(372,1007023,{n:=210,tm:=[(2,ti),(3,ti),(4,ti),(5,ti),(6,.b),(7,.lp 0 0),(14,.lp 1 0),(17,ti),(19,ti),(20,.lp 2 0)],lo:=[(0,[.sl 0 [],.sl 1 [],.sl 2 [],.sl 3 []]),(1,[.sl 4 [],.sl 5 [],.sl 6 [],.sl 7 []]),(2,[ti,ti,ti,ti])],ro:=[(0,.sl .int,true),(1,.mon,true),(2,.entry,true),(3,.entry,true),(4,.sl .int,true),(5,.mon,true),(6,.entry,true),(7,.entry,true)],kr:=1}),(372,1009011,{n:=210,tm:=[(4,ti),(6,.b),(7,.lp 0 0),(14,.lp 1 0),(19,ti),(20,.lp 2 0),(22,.lp 3 0)],lo:=[(0,[.sl 0 [],.sl 1 [],.sl 2 [],.sl 3 []]),(1,[.sl 4 [],.sl 5 [],.sl 6 [],.sl 7 []]),(2,[ti,ti,ti,ti]),(3,[ti,ti])],ro:=[(0,.sl .int,true),(1,.mon,true),(2,.entry,true),(3,.entry,true),(4,.sl .int,true),(5,.mon,true),(6,.entry,true),(7,.entry,true)],kr:=1}),(372,1005003,{n:=210,tm:=[(7,.lp 0 0),(14,.lp 1 0),(22,.lp 2 0)],lo:=[(0,[.sl 0 [],.sl 1 [],.sl 2 [],.sl 3 []]),(1,[.sl 4 [],.sl 5 [],.sl 6 [],.sl 7 []]),(2,[ti,ti])],ro:=[(0,.sl .int,true),(1,.mon,true),(2,.entry,true),(3,.entry,true),(4,.sl .int,true),(5,.mon,true),(6,.entry,true),(7,.entry,true)],kr:=1})]
theorem zKZ (N:Nat)(a0:Host)(a2 a3:Int)(a4 a5:Int)(a6:Bool):zOA (cQ zmf zny zV7 zWC) zq3 N 12 372 [true,true,true,true,false,false,false,false,false,false] [(4,2)] 1 1 [[0],[1],[2],[4],[7]] .mon [aH a0,aS .entry a0.Buffer,aI a2,aI a3,aI a4,aI a5,aB a6]=zpp N a0 a0.Buffer a2 a3 a4 a5 a6:=by kernel_rfl
theorem zK1 (N:Nat)(a0:Host)(a2 a3:Int)(a4 a5:Int)(a6:Bool):zOA (cQ zmf zny zV7 zWC) zq3 N 12 372 [true,true,true,true,false,false,false,false,false,false] [(4,3)] 1 1 [[0],[1],[2],[4],[7]] .mon [aH a0,aS .entry a0.IoBuffer,aI a2,aI a3,aI a4,aI a5,aB a6]=zpp N a0 a0.IoBuffer a2 a3 a4 a5 a6:=by kernel_rfl
theorem zAQ {N:Nat}{r:Host}{m g page:Int}{io:Bool}{z1 z2 z3 z4}(hb:r.Buffer.length<=1048576)(hi:r.IoBuffer.length<=1048576) :
 zoK N page io (zd1 m g) (zdT (zbV r m g) page).Page (zdT (zbV r m g) page).Rights r.Memory r.Mons r.Buffer r.IoBuffer z1 z2 z3 z4=some (zjn<|zeF r m g page io):=by
 unfold zoK oN
 conv=>zeta
 refine shr ?_;cases io
 .exact zcy rfl (must (zbe hb) rfl)
 .exact must rfl (must (zbe hi) rfl)
theorem zPD {N:Nat}{r:Host}{m g page need q:Int}{io:Bool}{R:OA}{r11}{u6 u7 u8 u9 u10 z1 z2 z3 z4}(A:LookAt r m g q need)(hr:r11 (page,io,u6,u7,u8,u9,u10,(zdT (zbV (zck (mended r m q need) m g page) m g) page).Page,(zdT (zbV (zck (mended r m q need) m g page) m g) page).Rights,(zck (mended r m q need) m g page).Memory,(zck (mended r m q need) m g page).Mons,(zck (mended r m q need) m g page).Buffer,(zck (mended r m q need) m g page).IoBuffer,z1,z2,z3,z4,())=R) :
 zqE N r.Memory r.Mons r.Buffer r.IoBuffer m q need g page r11 io u6 u7 u8 u9 u10 z1 z2 z3 z4=R:=by
 have M:=zld A.kp A.hm A.hg;have F:=zld (A.fill page) A.hm A.hg;unfold zqE oN
 conv=>zeta
 exact must (zbe A.mend) (must (zA M.hm)<|must (zA M.hm)<|must (zA M.ht)<|must (zA M.hm)<|must (zA M.hg)<|must (zA M.hm)<|must (zbe M.hk)<|must (zA M.ht)<|shr<|must (zA F.hm)<|must (zA F.ht)<|must (zbe F.hk) hr)
theorem zUz {r:Host}{m g page need:Int}(h:zjE (zbV r m g) page=false):zer r m g page need=true:=by unfold zer;rw[h];rfl
theorem zUA {r:Host}{m g page need:Int}(h:ieq (zdT (zbV r m g) page).Page (-1)=true):zer r m g page need=true:=by unfold zer;rw[h];cases zjE (zbV r m g) page<;>rfl
theorem zUB {r:Host}{m g page need:Int}(h:enough (zdT (zbV r m g) page).Rights need=false):zer r m g page need=true:=by unfold zer;rw[h];cases zjE (zbV r m g) page<;>cases ieq (zdT (zbV r m g) page).Page (-1)<;>rfl
theorem zUC {r:Host}{m g page need:Int}(h1:zjE (zbV r m g) page=true)(h2:ieq (zdT (zbV r m g) page).Page (-1)=false)(h3:enough (zdT (zbV r m g) page).Rights need=true):zer r m g page need=false:=by unfold zer;rw[h1,h2,h3];rfl
theorem zrI {r:Host}{m g page need q:Int}{io:Bool}(h:zer r m g page need=true):(cond (zer r m g page need) (zeF (zck (mended r m q need) m g page) m g page io)<|zeF r m g page io)=zeF (zck (mended r m q need) m g page) m g page io:=by rw[h];rfl
theorem zT9 {r:Host}{m g page need q:Int}{io:Bool}(h:zer r m g page need=false):(cond (zer r m g page need) (zeF (zck (mended r m q need) m g page) m g page io)<|zeF r m g page io)=zeF r m g page io:=by rw[h];rfl
theorem zAR {N:Nat}{r:Host}{m g page need q:Int}{io:Bool}{u7 u8 u9 u10 z1 z2 z3 z4}(A:LookAt r m g q need) :
 zk1 N m g page need io q (zd1 m g) u7 u8 u9 u10 r.Memory r.Mons r.Buffer r.IoBuffer z1 z2 z3 z4=some (zjn<|cond (zer r m g page need) (zeF (zck (mended r m q need) m g page) m g page io)<|zeF r m g page io):=by
 have M:=zld ⟨A.fit.1,rfl⟩ A.hm A.hg;have F:=zld (A.fill page) A.hm A.hg;unfold zk1 oN nB
 conv=>zeta
 refine must (zA M.hm) (must (zA M.ht)<|must (zbe M.hk)<|shr<|brN (λh1=>?_) λh1=>br (λh2=>?_) λh2=>must rfl (brN (λh3=>?_) λh3=>?_))
 .rw [zrI<|zUz h1];exact zPD A (zAQ (r:=zck (mended r m q need) m g page) (m:=m) (g:=g) F.hb F.hi)
 .rw [zrI<|zUA h2];exact zPD A (zAQ (r:=zck (mended r m q need) m g page) (m:=m) (g:=g) F.hb F.hi)
 .rw [zrI<|zUB h3];exact zPD A (zAQ (r:=zck (mended r m q need) m g page) (m:=m) (g:=g) F.hb F.hi)
 .rw [zT9<|zUC h1 h2 h3];exact zAQ (r:=r) (m:=m) (g:=g) M.hb M.hi
theorem zAU {b:List Entry}{m g page need:Int}(h:(zqd b m g page).isSome=false):zhS b m g page need=false:=by unfold zhS;rw[h];rfl
theorem zm1 {b:List Entry}{m g page need:Int}{x:Bool}(h1:(zqd b m g page).isSome=true)(h:enough ((zqd b m g page).getD ⟨0,0,0,0⟩).Rights need=x):zhS b m g page need=x:=by unfold zhS;rw[h1,h];rfl
theorem zm4 {r:Host}{b:List Entry}{m g page need q:Int}{io:Bool}(h:zhS b m g page need=false):zgf r b m g page need q io=bif zer r m g page need then zeF (zck (mended r m q need) m g page) m g page io else zeF r m g page io:=by unfold zgf;rw[h];rfl
theorem zAY {r:Host}{b:List Entry}{m g page need q:Int}{io:Bool}(h:zhS b m g page need=true):zgf r b m g page need q io=(r,((zqd b m g page).getD ⟨0,0,0,0⟩).Host,true):=by unfold zgf;rw[h];rfl
theorem zEW {h:Host}{b:List Entry}{m g page need:Int}{io:Bool}(hh:zbO h m g page need=true):lookOf h b m g page need io=zgf (cond (ieq need 2) (zbx h m<|zb2 (zci h m g) page need) h) b m g page need (zb2 (zci h m g) page need) io:=by unfold lookOf;rw[hh];rfl
theorem zXu {N:Nat}{r:Host}{b:List Entry}{m g page need:Int}{io:Bool}(hs:SmH r)(hg:zbK r m g=true)(hn:zf1 need=true) :
 zqF N m r g page need b io=some (zjn (lookOf r b m g page need io)):=by
 obtain⟨g1,g2,g3⟩:=zcS hg;unfold zqF oN nB
 conv=>zeta
 refine must (zA g2) (must (zA g3) (must rfl (brN (fun hw=>?_) (fun hw=>must rfl ?_))))
 .have:zbO r m g page need=false:=by
   unfold zbO;rw[hg,hn,show zet (zci r m g) page need=false from hw];rfl
  rw[zhw this];rfl
 .have hl:zbO r m g page need=true:=by
   unfold zbO;rw[hg,hn,show zet (zci r m g) page need=true from hw];rfl
  obtain⟨A,B⟩:=zzW hs hl;rw[zEW hl];have hd:hasB (zb2 (zci r m g) page need) (ln (ix r.Mons m mZ).Dirty)=true:=zdE (zco A.fit.1 g2).2.2.2.1 A.hq;refine br (fun h2=>?_) (fun h2=>?_)
  .rw [h2]
   show _=some (zjn (zgf (zbx r m (zb2 (zci r m g) page need)) b m g page need (zb2 (zci r m g) page need) io))
   refine must (zA g2) (must (zA hd) (shr (must rfl (shr (br (fun f1=>must rfl (br (fun f2=>?_) (fun f2=>?_))) (fun f1=>?_))))))
   .rw [zAY (zm1 f1 f2)];rfl
   .rw [zm4 (zm1 f1 f2)];exact zAR (r:=zbx r m (zb2 (zci r m g) page need)) B
   .rw [zm4 (zAU f1)];exact zAR (r:=zbx r m (zb2 (zci r m g) page need)) B
  .rw [h2]
   show _=some (zjn (zgf r b m g page need (zb2 (zci r m g) page need) io))
   refine must rfl (shr (br (fun f1=>must rfl (br (fun f2=>?_) (fun f2=>?_))) (fun f1=>?_)))
   .rw [zAY (zm1 f1 f2)];rfl
   .rw [zm4 (zm1 f1 f2)];exact zAR A
   .rw [zm4 (zAU f1)];exact zAR A
theorem zOc (a0:Host)(a1:List Entry)(a2 a3:Int)(a4 a5:Int)(a6:Bool)(hb:zbC big [aH a0,aS .entry a1,aI a2,aI a3,aI a4,aI a5,aB a6])(hc:zj4 a0 a1 a2 a3 a4 a5 a6=true):∃N,zpp N a0 a1 a2 a3 a4 a5 a6=some [aH<|zfx a0 a1 a2 a3 a4 a5 a6,aI<|zj3 a0 a1 a2 a3 a4 a5 a6,aB<|zhp a0 a1 a2 a3 a4 a5 a6]:=by
 have hs:=(zM a0).1 (zK.1 hc);refine⟨0,?_⟩;show _=some (zjn<|lookOf a0 a1 a2 a3 a4 a5 a6);unfold zpp oN nB;conv=>zeta
 refine must rfl (brN (λh1=>?_) λh1=>must rfl ?_);{rw [zhw<|zm5<|zJe h1];rfl};rw[show zi a2 0 (wsub .i64 (ln a0.Mons) 1)=hasB a2 (ln a0.Mons) from zpn hs.2.1.1 a2];refine brN (λh2=>?_) (λh2=>must (zA h2) (must rfl ?_));{rw [zhw<|zm5<|zJf h2];rfl};have hl:(ix a0.Mons a2 mZ).Guests.length<=1048576:=(hs.2.1.2 _<|zby h2 _).2.2.2.1.1;rw[show zi a3 0 (wsub .i64 (ln (ix a0.Mons a2 zf).Guests) 1)=hasB a3 (ln (ix a0.Mons a2 mZ).Guests) from zpn hl a3];refine brN (λh3=>?_) (λh3=>?_);{rw [zhw<|zm5<|zJg h3];rfl};have hg:=zJh h1 h2 h3;have hno:∀{n:Int},zf1 n=false->zbO a0 a2 a3 a4 n=false:=λ{n} h=>(by unfold zbO;rw[hg,h];rfl);rw[zjU,zjU];cases h4:ieq a5 1;{cases h5:ieq a5 2;{have:zf1 a5=false:=(by unfold zf1;rw[h4,h5];rfl);rw[zhw<|hno this];rfl};{exact zXu hs hg (by unfold zf1;rw[h4,h5];rfl)}};{exact zXu hs hg (by unfold zf1;rw[h4];rfl)}
theorem zHs:zek Tryz.prog 372 [true,true,true,true,false,false,false,false,false,false] (some (1,1,[[0],[1],[2],[4],[7]])) zqT:=by refine zJi (kt:=.mon) (zgF zhB zo zbS zvV) (zje (by kernel_rfl)) ?_;intro al avs rs hal heq hl hr h;have hb:=ziC hr;have hal':al=[(4,2)]\/al=[(4,3)]:=(by rw[show zh0 372=[[(4,2)],[(4,3)]] from by kernel_rfl]at hal;simpa using hal);unfold zqT at h;split at h;{rename_i a0_0 a0_1 a0_2 a0_3 a1 a2 a3 a4 a5 a6;obtain⟨hc,rfl⟩:=zeb h;obtain⟨N,hN⟩:=zOc (⟨a0_0,a0_1,a0_2,a0_3⟩:Host) a1 a2 a3 a4 a5 a6 hb hc;refine⟨⟨_,rfl⟩,rfl,zq3,N,12,?_⟩;rcases hal' with rfl|rfl;{have e:=heq 4 2 (by simp);simp only[zB,j3,AV.cvs] at e;cases e;exact(zKZ N (⟨a0_0,a0_1,a0_2,a0_3⟩:Host) a2 a3 a4 a5 a6).trans hN};{have e:=heq 4 3 (by simp);simp only[zB,j3,AV.cvs] at e;cases e;exact(zK1 N (⟨a0_0,a0_1,a0_2,a0_3⟩:Host) a2 a3 a4 a5 a6).trans hN}};{cases h}
def z0E:zfn:=[(372,[true,true,true,true,false,false,false,false,false,false],some (1,1,[[0],[1],[2],[4],[7]]),zqT)]++zWC
theorem zfQ:zef z0E:=zpk zvV (by
 intro x hx;simp only[qI,qW,or_false]at hx;rcases hx with rfl
 .exact zHs)
def gOf (h:Host)(m g:Int):Guest:=ix (ix h.Mons m mZ).Guests g gZ
def zfX (h:Host)(m g:Int)(x:Guest):Host:={h with Mons:=up h.Mons m {ix h.Mons m mZ with Guests:=up (ix h.Mons m mZ).Guests g x}}
def zhM (h:Host)(m g:Int)(x:Guest)(w:Bool):Host×Int×Bool:=lookOf h h.Buffer m g (zbc<|address x) (zbW w) false
def zgW (L:Host×Int×Bool)(m g:Int)(x:Guest)(w:Bool):Host :=
 bif L.2.2 then (cond w (zfX {L.1 with Memory:=zbB L.1.Memory L.2.1 (zdd<|address x) x.A} m g<|zbU x)<|zfX L.1 m g<|loaded x<|cellAt L.1.Memory L.2.1<|zdd<|address x)
 else zfX L.1 m g (stopped x<|zqb (zbc<|address x) w)
def owned (h:Host)(m:Int):Host:=bif ilt (ix h.Mons m mZ).Own 1000000000 then {h with Mons:=up h.Mons m {ix h.Mons m mZ with Own:=zD .i64 (ix h.Mons m mZ).Own 1}} else h
def zhH (h:Host)(m n:Int):Host:=bif ilt (ln (ix h.Mons m mZ).Outs) 40 then {h with Mons:=up h.Mons m {ix h.Mons m mZ with Outs:=ap (ix h.Mons m mZ).Outs [n]}} else h
def zej (h:Host)(m:Int)(x:Guest)(w:Int):Host:=bif (cond (ine w 6) (ieq (zlG (ix h.Mons m mZ).Traps x.Ctl.Traps<|zfl w) 2) false) then owned h m else h
def zgp (h:Host)(m:Int)(x:Guest)(w:Int):Host:=bif (cond (zgJ x.Ctl.Traps w) (ieq w 5) false) then zhH h m (zb7 x.Prog x.Pc).X else h
def zjA (h:Host)(m g:Int)(x:Guest)(w:Int):Host:=zfX (zgp (zej h m x w) m x w) m g (zfm x x.Ctl.Traps w)
def zIC (h:Host)(m g:Int)(x:Guest)(w:Int):Host×Bool :=
 bif ieq w 0 then (h,false) else (bif ieq w 1 then (zfX h m g<|interrupted x,true) else (bif ieq w 2 then (zfX h m g<|plainly x,true) else
  (cond (cond (ieq w 3) true<|ieq w 4) (zgW (zhM h m g x<|ieq w 4) m g x<|ieq w 4,true) (zjA h m g x w,true))))
def zbL (h:Host)(m g:Int):Host×Bool:=bif zbK h m g then zIC h m g (gOf h m g) (zG<|gOf h m g) else (h,false)
def zed (x:Host×Bool):List AV:=[.agg<|zbf x.1,.one<|.b x.2]
theorem zjM {h:Host}{m g:Int}(hs:SmH h)(hm:hasB m (ln h.Mons)=true)(hg:hasB g (ln (ix h.Mons m mZ).Guests)=true):SmG (gOf h m g):=(hs.2.1.2 _<|zby hm _).2.2.2.1.2 _ (zby hg _)
theorem zWs {h:Host}{m g:Int}{x:Guest}(hs:Shape h)(hm:hasB m (ln h.Mons)=true)(hx:SmG x):Shape (zfX h m g x):=by obtain⟨g1,g2⟩:=zco hs hm;exact zir hs ⟨g1.1,g1.2.1,g1.2.2.1,zA6 g1.2.2.2.1 hx,g1.2.2.2.2⟩ ⟨g2.1,g2.2.1,g2.2.2.1,by simpa using g2.2.2.2⟩
theorem z4X (o i t:Int):ieq (zlG o i t) 1=zdD i t:=by unfold zlG;cases zdD i t;{cases zdD o t<;>rfl};{rfl}
theorem z4Y {o i t:Int}(h:zdD i t=true):ieq (zlG o i t) 2=false:=by unfold zlG;rw[h];rfl
theorem znz {h:Host}{m:Int}(hm:hasB m (ln h.Mons)=true)(x:Mon):ix (up h.Mons m x) m mZ=x:=by obtain⟨k,rfl,hk⟩:=zdX (n:=h.Mons.length) hm;exact zd5 hk _ _
@[simp] abbrev zb9 (h:Host)(m g:Int):Host:=(zbL h m g).1
@[simp] abbrev zca (h:Host)(m g:Int):Bool:=(zbL h m g).2
theorem zOB {α:Type}{l:List α}{x:α}(h:ilt (ln l) 40=true):few (ln<|ap l [x])=true:=by have:=qD h;simp only[ln] at this;exact zgt (by simp[ap];omega)
theorem zUF {h:Host}{m:Int}{x:Guest}{w:Int}(hh:(cond (zgJ x.Ctl.Traps w) (ieq w 5) false)=false):zgp h m x w=h:=by unfold zgp;rw[hh];rfl
theorem zMU {h:Host}{m:Int}{x:Guest}{w:Int}(hh:ilt (ln (ix h.Mons m mZ).Outs) 40=false):zgp h m x w=h:=by unfold zgp zhH;rw[hh];cases (cond (zgJ x.Ctl.Traps w) (ieq w 5) false)<;>rfl
theorem zRU {h:Host}{m:Int}{x:Guest}{w:Int}(h1:zgJ x.Ctl.Traps w=true)(h2:ieq w 5=true)(hh:ilt (ln (ix h.Mons m mZ).Outs) 40=true):zgp h m x w={h with Mons:=up h.Mons m {ix h.Mons m mZ with Outs:=ap (ix h.Mons m mZ).Outs [(zb7 x.Prog x.Pc).X]}}:=by unfold zgp zhH;rw[h1,h2,hh];rfl
theorem zII {h:Host}{m:Int}{x:Guest}{w:Int}(h1:zgJ x.Ctl.Traps w=false):zgp h m x w=h:=zUF (by rw[h1];rfl)
theorem zAz {h:Host}{m:Int}{x:Guest}{w:Int}(h1:ieq w 5=false):zgp h m x w=h:=zUF (by rw[h1];cases zgJ x.Ctl.Traps w<;>rfl)
theorem zHw (a:Int):(cond (ieq a a) true false)=true:=by rw[zgO];rfl
theorem zhX {h:Host}{m g:Int}(hh:zbK h m g=false):zbL h m g=(h,false):=by unfold zbL;rw[hh];rfl
theorem zis {h:Host}{m g:Int}(hh:zbK h m g=true):zbL h m g=zIC h m g (gOf h m g) (zG<|gOf h m g):=by unfold zbL;rw[hh];rfl
theorem zlE {a b:Bool}(h:(cond a b false)=true):a=true/\b=true:=by cases a;{cases h};{exact⟨rfl,h⟩}
theorem ziv {a b:Bool}(ha:a=true)(hb:b=true):(cond a b false)=true:=by rw[ha];exact hb
theorem zUI {h:Host}{m:Int}{x:Guest}{w:Int}(h6:ine w 6=true)(h0:ieq (zlG (ix h.Mons m mZ).Traps x.Ctl.Traps<|zfl w) 2=true)(h9:ilt (ix h.Mons m mZ).Own 1000000000=true):zej h m x w={h with Mons:=up h.Mons m {ix h.Mons m mZ with Own:=zD .i64 (ix h.Mons m mZ).Own 1}}:=by unfold zej owned;rw[h6,h0,h9];rfl
theorem zUG {h:Host}{m:Int}{x:Guest}{w:Int}(h0:ieq (zlG (ix h.Mons m mZ).Traps x.Ctl.Traps<|zfl w) 2=false):zej h m x w=h:=by unfold zej;rw[h0];cases ine w 6<;>rfl
theorem zUH {h:Host}{m:Int}{x:Guest}{w:Int}(h9:ilt (ix h.Mons m mZ).Own 1000000000=false):zej h m x w=h:=by unfold zej owned;rw[h9];cases (cond (ine w 6) (ieq (zlG (ix h.Mons m mZ).Traps x.Ctl.Traps<|zfl w) 2) false)<;>rfl
theorem z3X {h:Host}{m:Int}{x:Guest}:zej h m x 6=h:=rfl
theorem zmU {h h':Host}{m g:Int}{x:Guest}{w:Int}(e:zej h m x w=h'):zjA h m g x w=zfX (zgp h' m x w) m g (zfm x x.Ctl.Traps w):=by unfold zjA;rw[e]
theorem z0G (x:Guest):ieq (zG x) 0=true\/ieq (zG x) 1=true\/ieq (zG x) 2=true\/ieq (zG x) 3=true\/ieq (zG x) 4=true\/ieq (zG x) 5=true\/ieq (zG x) 6=true\/ieq (zG x) 7=true:=by cases h0:ieq (zG x) 0;{cases h1:ieq (zG x) 1;{cases h2:ieq (zG x) 2;{cases h3:ieq (zG x) 3;{cases h4:ieq (zG x) 4;{cases h5:ieq (zG x) 5;{cases h6:ieq (zG x) 6;{exact .inr (.inr<|.inr<|.inr<|.inr<|.inr<|.inr<|zWE x h0 h1 h2 h3 h4 h5 h6)};{exact .inr (.inr<|.inr<|.inr<|.inr<|.inr (.inl rfl))}};{exact .inr (.inr<|.inr<|.inr<|.inr (.inl rfl))}};{exact .inr (.inr<|.inr<|.inr (.inl rfl))}};{exact .inr (.inr<|.inr (.inl rfl))}};{exact .inr (.inr (.inl rfl))}};{exact .inr (.inl rfl)}};{exact .inl rfl}
abbrev zx3 (x:Guest):Bool:=bif zbk x then ieq (zG x) 0 else false
def zn0:List AV->Option (Bool×List AV)
 |[.agg [.s .ins c,.i .i64 d,.i .i64 e,.s .slot f,.s .slot g,.i .i64 h,.i .i64 j,.b k,.i .i64 l,.i .i64 m,.i .i64 n,.b o,.i .i64 p,.b q,.s .int r]]=>some (zx3 (⟨c,d,e,f,g,⟨h,j,k⟩,l,⟨m,n,o,p⟩,q,r⟩:Guest),[.one<|.i .i64 0])
 |_=>none
theorem zBv:vJ 201 zn0:=by refine⟨zcg.1,λw avs xs rs hrep h=>?_⟩;unfold zn0 at h;split at h;{obtain⟨hc,rfl⟩:=zeb h;obtain⟨h1,h2⟩:=zlE hc;exact zcg.2 w _ xs _ hrep (congr (congrArg (λc v=>some (c,[AV.one<|CV.i .i64 v])) h1) (qD h2))};{cases h}
def z2Q:zS:=[(201,zn0)]++zmf
theorem zU9:zL z2Q:=zh zBv zhB
@[simp] abbrev ztK (h:Host)(m g:Int):Bool:=bif zcH h m g then ieq (zG<|gOf h m g) 0 else false
def zBQ:Run:=rF3 dH dI dI λb c d=>(ztK b c d,[aH<|zb9 b c d,aB<|zca b c d])
def zsQ (N:Nat)(a0:Host)(a1 a2:Int):OA:=
 let y1:=zk a0;let y0:=(ix y1.Mons a1 zf).Guests; (oN (zba a0)<|oN (zcH y1 a1 a2)<|cond (nB<|ziZ y1 a1 a2) (some [aH y1,aB false])<|oN (inb a1<|ln y1.Mons)<|oN (inb a2<|ln y0)<|oN (zx3<|ix y0 a2 zn)<|some [aH y1,aB false])
abbrev zx4 (x:Guest):Bool:=bif zbk x then ieq (zG x) 1 else false
def zn1:List AV->Option (Bool×List AV)
 |[.agg [.s .ins c,.i .i64 d,.i .i64 e,.s .slot f,.s .slot g,.i .i64 h,.i .i64 j,.b k,.i .i64 l,.i .i64 m,.i .i64 n,.b o,.i .i64 p,.b q,.s .int r]]=>some (zx4 (⟨c,d,e,f,g,⟨h,j,k⟩,l,⟨m,n,o,p⟩,q,r⟩:Guest),[.one<|.i .i64 1])
 |_=>none
theorem zBw:vJ 201 zn1:=by refine⟨zcg.1,λw avs xs rs hrep h=>?_⟩;unfold zn1 at h;split at h;{obtain⟨hc,rfl⟩:=zeb h;obtain⟨h1,h2⟩:=zlE hc;exact zcg.2 w _ xs _ hrep (congr (congrArg (λc v=>some (c,[AV.one<|CV.i .i64 v])) h1) (qD h2))};{cases h}
def z2R:zS:=[(201,zn1)]++zmf
theorem zVa:zL z2R:=zh zBw zhB
@[simp] abbrev ztL (h:Host)(m g:Int):Bool:=bif zcH h m g then ieq (zG<|gOf h m g) 1 else false
def zBR:Run:=rF3 dH dI dI λb c d=>(ztL b c d,[aH<|zb9 b c d,aB<|zca b c d])
def zsR (N:Nat)(a0:Host)(a1 a2:Int):OA:=
 let y2:=zk a0;let y0:=ix y2.Mons a1 zf;let y1:=ix y0.Guests a2 zn; (oN (zba a0)<|oN (zcH y2 a1 a2)<|cond (nB<|ziZ y2 a1 a2) (some [aH y2,aB false])<|oN (inb a1<|ln y2.Mons)<|oN (inb a2<|ln y0.Guests)<|oN (zx4 y1)<|oN (inb a1<|ln y2.Mons)<|oN (zJ y1)<|oN (inb a2<|ln y0.Guests)<|share (up y2.Mons a1 ({y0 with Guests:=(up y0.Guests a2<|zez y1)}:Mon)) λx4=>some [aH ({y2 with Mons:=x4}:Host),aB true])
abbrev zx5 (x:Guest):Bool:=bif zbk x then ieq (zG x) 2 else false
def zn2:List AV->Option (Bool×List AV)
 |[.agg [.s .ins c,.i .i64 d,.i .i64 e,.s .slot f,.s .slot g,.i .i64 h,.i .i64 j,.b k,.i .i64 l,.i .i64 m,.i .i64 n,.b o,.i .i64 p,.b q,.s .int r]]=>some (zx5 (⟨c,d,e,f,g,⟨h,j,k⟩,l,⟨m,n,o,p⟩,q,r⟩:Guest),[.one<|.i .i64 2])
 |_=>none
theorem zBx:vJ 201 zn2:=by refine⟨zcg.1,λw avs xs rs hrep h=>?_⟩;unfold zn2 at h;split at h;{obtain⟨hc,rfl⟩:=zeb h;obtain⟨h1,h2⟩:=zlE hc;exact zcg.2 w _ xs _ hrep (congr (congrArg (λc v=>some (c,[AV.one<|CV.i .i64 v])) h1) (qD h2))};{cases h}
def z2S:zS:=[(201,zn2)]++zmf
theorem zVb:zL z2S:=zh zBx zhB
@[simp] abbrev ztM (h:Host)(m g:Int):Bool:=bif zcH h m g then ieq (zG<|gOf h m g) 2 else false
def zBS:Run:=rF3 dH dI dI λb c d=>(ztM b c d,[aH<|zb9 b c d,aB<|zca b c d])
def zsS (N:Nat)(a0:Host)(a1 a2:Int):OA:=
 let y2:=zk a0;let y0:=ix y2.Mons a1 zf;let y1:=ix y0.Guests a2 zn; (oN (zba a0)<|oN (zcH y2 a1 a2)<|cond (nB<|ziZ y2 a1 a2) (some [aH y2,aB false])<|oN (inb a1<|ln y2.Mons)<|oN (inb a2<|ln y0.Guests)<|oN (zx5 y1)<|oN (inb a1<|ln y2.Mons)<|oN (zJ y1)<|oN (inb a2<|ln y0.Guests)<|share (up y2.Mons a1 ({y0 with Guests:=(up y0.Guests a2<|zhc y1)}:Mon)) λx4=>some [aH ({y2 with Mons:=x4}:Host),aB true])
abbrev zx6 (x:Guest):Bool:=bif zbk x then ieq (zG x) 3 else false
def zn3:List AV->Option (Bool×List AV)
 |[.agg [.s .ins c,.i .i64 d,.i .i64 e,.s .slot f,.s .slot g,.i .i64 h,.i .i64 j,.b k,.i .i64 l,.i .i64 m,.i .i64 n,.b o,.i .i64 p,.b q,.s .int r]]=>some (zx6 (⟨c,d,e,f,g,⟨h,j,k⟩,l,⟨m,n,o,p⟩,q,r⟩:Guest),[.one<|.i .i64 3])
 |_=>none
theorem zBy:vJ 201 zn3:=by refine⟨zcg.1,λw avs xs rs hrep h=>?_⟩;unfold zn3 at h;split at h;{obtain⟨hc,rfl⟩:=zeb h;obtain⟨h1,h2⟩:=zlE hc;exact zcg.2 w _ xs _ hrep (congr (congrArg (λc v=>some (c,[AV.one<|CV.i .i64 v])) h1) (qD h2))};{cases h}
def z2T:zS:=[(201,zn3)]++zmf
theorem zVc:zL z2T:=zh zBy zhB
@[simp] abbrev ztN (h:Host)(m g:Int):Bool:=bif zcH h m g then ieq (zG<|gOf h m g) 3 else false
def zBT:Run:=rF3 dH dI dI λb c d=>(ztN b c d,[aH<|zb9 b c d,aB<|zca b c d])
def zsU (N:Nat)(a0:Host)(a1 a2:Int):OA:=
 let y6:=zk a0;let y9:=(ix y6.Mons a1 zf).Guests;let y1:=ix y9 a2 zn;let y7:=zgx y1;let y8:=zbN y7;let y4:=zj3 y6 y6.Buffer a1 a2 y8 (zcP false) false;let y0:=zfx y6 y6.Buffer a1 a2 y8 (zcP false) false;let y3:=ix y0.Mons a1 zf;let y5:=ix y3.Guests a2 zn;let y2:=({y1 with Prog:=y5.Prog,Written:=y5.Written,Live:=y5.Live,Seen:=y5.Seen}:Guest); (oN (zba a0)<|oN (zcH y6 a1 a2)<|cond (nB<|ziZ y6 a1 a2) (some [aH y6,aB false])<|oN (inb a1<|ln y6.Mons)<|oN (inb a2<|ln y9)<|oN (zx6 y1)<|oN (zbk y1)<|oN (zbJ y7)<|oN (zju false)<|oN (zj4 y6 y6.Buffer a1 a2 y8 (zcP false) false)<|cond (nB<|zhp y6 y6.Buffer a1 a2 y8 (zcP false) false) (oN (inb a1<|ln y0.Mons)<|oN (zbJ y7)<|oN (zgR y8 false)<|oN (zcw y2<|zeY y8 false)<|oN (inb a2<|ln y3.Guests)<|share (up y0.Mons a1 ({y3 with Guests:=(up y3.Guests a2<|zcj y2<|zeY y8 false)}:Mon)) λx4=>some [aH ({y0 with Mons:=x4}:Host),aB true])<|oN (inb a1<|ln y0.Mons)<|oN (zbJ y7)<|oN (ze8 y0.Memory y4<|zcX y7)<|oN (zlu y2<|zf7 y0.Memory y4<|zcX y7)<|oN (inb a2<|ln y3.Guests)<|share (up y0.Mons a1 ({y3 with Guests:=(up y3.Guests a2<|zjs y2<|zf7 y0.Memory y4<|zcX y7)}:Mon)) λx4=>some [aH ({y0 with Mons:=x4}:Host),aB true])
abbrev zx7 (x:Guest):Bool:=bif zbk x then ieq (zG x) 4 else false
def zn4:List AV->Option (Bool×List AV)
 |[.agg [.s .ins c,.i .i64 d,.i .i64 e,.s .slot f,.s .slot g,.i .i64 h,.i .i64 j,.b k,.i .i64 l,.i .i64 m,.i .i64 n,.b o,.i .i64 p,.b q,.s .int r]]=>some (zx7 (⟨c,d,e,f,g,⟨h,j,k⟩,l,⟨m,n,o,p⟩,q,r⟩:Guest),[.one<|.i .i64 4])
 |_=>none
theorem zBz:vJ 201 zn4:=by refine⟨zcg.1,λw avs xs rs hrep h=>?_⟩;unfold zn4 at h;split at h;{obtain⟨hc,rfl⟩:=zeb h;obtain⟨h1,h2⟩:=zlE hc;exact zcg.2 w _ xs _ hrep (congr (congrArg (λc v=>some (c,[AV.one<|CV.i .i64 v])) h1) (qD h2))};{cases h}
def z2U:zS:=[(201,zn4)]++zmf
theorem zVd:zL z2U:=zh zBz zhB
@[simp] abbrev ztO (h:Host)(m g:Int):Bool:=bif zcH h m g then ieq (zG<|gOf h m g) 4 else false
def zBU:Run:=rF3 dH dI dI λb c d=>(ztO b c d,[aH<|zb9 b c d,aB<|zca b c d])
def zsV (N:Nat)(a0:Host)(a1 a2:Int):OA:=
 let y4:=zk a0;let y8:=(ix y4.Mons a1 zf).Guests;let y1:=ix y8 a2 zn;let y9:=zgx y1;let y5:=zbN y9;let y7:=zj3 y4 y4.Buffer a1 a2 y5 (zcP true) false;let y0:=zfx y4 y4.Buffer a1 a2 y5 (zcP true) false;let y3:=ix y0.Mons a1 zf;let y6:=ix y3.Guests a2 zn;let y2:=({y1 with Prog:=y6.Prog,Written:=y6.Written,Live:=y6.Live,Seen:=y6.Seen}:Guest); (oN (zba a0)<|oN (zcH y4 a1 a2)<|cond (nB<|ziZ y4 a1 a2) (some [aH y4,aB false])<|oN (inb a1<|ln y4.Mons)<|oN (inb a2<|ln y8)<|oN (zx7 y1)<|oN (zbk y1)<|oN (zbJ y9)<|oN (zju true)<|oN (zj4 y4 y4.Buffer a1 a2 y5 (zcP true) false)<|cond (nB<|zhp y4 y4.Buffer a1 a2 y5 (zcP true) false) (oN (inb a1<|ln y0.Mons)<|oN (zbJ y9)<|oN (zgR y5 true)<|oN (zcw y2<|zeY y5 true)<|oN (inb a2<|ln y3.Guests)<|share (up y0.Mons a1 ({y3 with Guests:=(up y3.Guests a2<|zcj y2<|zeY y5 true)}:Mon)) λx4=>some [aH ({y0 with Mons:=x4}:Host),aB true])<|oN (zbJ y9)<|oN (zeZ y0.Memory y7 (zcX y9) y1.A)<|oN (inb a1<|ln y0.Mons)<|oN (zJ y2)<|oN (inb a2<|ln y3.Guests)<|share (up y0.Mons a1 ({y3 with Guests:=(up y3.Guests a2<|zb4 y2)}:Mon)) λx4=>some [aH ({y0 with Memory:=(ze7 y0.Memory y7 (zcX y9) y1.A),Mons:=x4}:Host),aB true])
abbrev zx8 (x:Guest):Bool:=bif zbk x then ieq (zG x) 5 else false
def zn5:List AV->Option (Bool×List AV)
 |[.agg [.s .ins c,.i .i64 d,.i .i64 e,.s .slot f,.s .slot g,.i .i64 h,.i .i64 j,.b k,.i .i64 l,.i .i64 m,.i .i64 n,.b o,.i .i64 p,.b q,.s .int r]]=>some (zx8 (⟨c,d,e,f,g,⟨h,j,k⟩,l,⟨m,n,o,p⟩,q,r⟩:Guest),[.one<|.i .i64 5])
 |_=>none
theorem zBA:vJ 201 zn5:=by refine⟨zcg.1,λw avs xs rs hrep h=>?_⟩;unfold zn5 at h;split at h;{obtain⟨hc,rfl⟩:=zeb h;obtain⟨h1,h2⟩:=zlE hc;exact zcg.2 w _ xs _ hrep (congr (congrArg (λc v=>some (c,[AV.one<|CV.i .i64 v])) h1) (qD h2))};{cases h}
def z2V:zS:=[(201,zn5)]++zmf
theorem zVe:zL z2V:=zh zBA zhB
@[simp] abbrev ztP (h:Host)(m g:Int):Bool:=bif zcH h m g then ieq (zG<|gOf h m g) 5 else false
def zBV:Run:=rF3 dH dI dI λb c d=>(ztP b c d,[aH<|zb9 b c d,aB<|zca b c d])
def zsW (N:Nat)(a0:Host)(a1 a2:Int):OA:=
 let y8:=zk a0;let y4:=inb a1<|ln y8.Mons;let y2:=ix y8.Mons a1 zf;let y10:=inb a2<|ln y2.Guests;let y0:=ix y2.Guests a2 zn;let y9:=ap y2.Outs [(zdj y0.Prog y0.Pc).X];let y16:=up y8.Mons a1 ({y2 with Outs:=y9}:Mon);let y7:=y0.Ctl.Traps;let y5:=up y8.Mons a1 ({y2 with Guests:=(up y2.Guests a2<|zcd y0 y7 5)}:Mon); (oN (zba a0)<|oN (zcH y8 a1 a2)<|cond (nB<|ziZ y8 a1 a2) (some [aH y8,aB false])<|oN y4<|oN y10<|oN (zx8 y0)<|oN y4<|oN (zl6 y2.Traps y7 1)<|cond (ieq (zi7 y2.Traps y7 1) 2) (oN y4<|cond (ilt y2.Own 1000000000) (oN y4<|oN y4<|share (up y8.Mons a1 ({y2 with Own:=(zD .i64 y2.Own 1)}:Mon)) (λx4=>let y12:=inb a1<|ln x4;let y3:=ix x4 a1 zf;let y6:=ix y3.Guests a2 zn;let y17:=ap y3.Outs [(zdj y6.Prog y0.Pc).X];let y1:=({y0 with Prog:=y6.Prog,Written:=y6.Written,Live:=y6.Live,Seen:=y6.Seen}:Guest);let y11:=up x4 a1 ({y3 with Guests:=(up y3.Guests a2<|zcd y1 y7 5)}:Mon); (oN (zea y1 y7 5)<|cond (zdB y1 y7 5) (oN y12<|cond (ilt (ln y3.Outs) 40) (oN y12<|oN (zds y6.Prog y0.Pc)<|oN (few<|ln y17)<|oN y12<|oN (cond (ieq a1 a1) true false)<|share (up x4 a1 ({y3 with Outs:=y17}:Mon)) (λx5=>let y13:=ix x5 a1 zf; (oN (inb a1<|ln x5)<|oN (inb a2<|ln y13.Guests)<|share (up x5 a1 ({y13 with Guests:=(up y13.Guests a2<|zcd y1 y7 5)}:Mon)) λx6=>some [aH ({y8 with Mons:=x6}:Host),aB true])))<|oN y12<|oN (inb a2<|ln y3.Guests)<|share y11 λx5=>some [aH ({y8 with Mons:=x5}:Host),aB true])<|oN y12<|oN (inb a2<|ln y3.Guests)<|share y11 λx5=>some [aH ({y8 with Mons:=x5}:Host),aB true])))<|oN (zea y0 y7 5)<|cond (zdB y0 y7 5) (oN y4<|cond (ilt (ln y2.Outs) 40) (oN y4<|oN (zds y0.Prog y0.Pc)<|oN (few<|ln y9)<|oN y4<|oN (cond (ieq a1 a1) true false)<|share y16 (λx4=>let y14:=ix x4 a1 zf; (oN (inb a1<|ln x4)<|oN (inb a2<|ln y14.Guests)<|share (up x4 a1 ({y14 with Guests:=(up y14.Guests a2<|zcd y0 y7 5)}:Mon)) λx5=>some [aH ({y8 with Mons:=x5}:Host),aB true])))<|oN y4<|oN y10<|share y5 λx4=>some [aH ({y8 with Mons:=x4}:Host),aB true])<|oN y4<|oN y10<|share y5 λx4=>some [aH ({y8 with Mons:=x4}:Host),aB true])<|oN (zea y0 y7 5)<|cond (zdB y0 y7 5) (oN y4<|cond (ilt (ln y2.Outs) 40) (oN y4<|oN (zds y0.Prog y0.Pc)<|oN (few<|ln y9)<|oN y4<|oN (cond (ieq a1 a1) true false)<|share y16 (λx4=>let y15:=ix x4 a1 zf; (oN (inb a1<|ln x4)<|oN (inb a2<|ln y15.Guests)<|share (up x4 a1 ({y15 with Guests:=(up y15.Guests a2<|zcd y0 y7 5)}:Mon)) λx5=>some [aH ({y8 with Mons:=x5}:Host),aB true])))<|oN y4<|oN y10<|share y5 λx4=>some [aH ({y8 with Mons:=x4}:Host),aB true])<|oN y4<|oN y10<|share y5 λx4=>some [aH ({y8 with Mons:=x4}:Host),aB true])
abbrev zx9 (x:Guest):Bool:=bif zbk x then ieq (zG x) 6 else false
def zn6:List AV->Option (Bool×List AV)
 |[.agg [.s .ins c,.i .i64 d,.i .i64 e,.s .slot f,.s .slot g,.i .i64 h,.i .i64 j,.b k,.i .i64 l,.i .i64 m,.i .i64 n,.b o,.i .i64 p,.b q,.s .int r]]=>some (zx9 (⟨c,d,e,f,g,⟨h,j,k⟩,l,⟨m,n,o,p⟩,q,r⟩:Guest),[.one<|.i .i64 6])
 |_=>none
theorem zBB:vJ 201 zn6:=by refine⟨zcg.1,λw avs xs rs hrep h=>?_⟩;unfold zn6 at h;split at h;{obtain⟨hc,rfl⟩:=zeb h;obtain⟨h1,h2⟩:=zlE hc;exact zcg.2 w _ xs _ hrep (congr (congrArg (λc v=>some (c,[AV.one<|CV.i .i64 v])) h1) (qD h2))};{cases h}
def z2W:zS:=[(201,zn6)]++zmf
theorem zVf:zL z2W:=zh zBB zhB
@[simp] abbrev ztQ (h:Host)(m g:Int):Bool:=bif zcH h m g then ieq (zG<|gOf h m g) 6 else false
def zBW:Run:=rF3 dH dI dI λb c d=>(ztQ b c d,[aH<|zb9 b c d,aB<|zca b c d])
def zsX (N:Nat)(a0:Host)(a1 a2:Int):OA:=
 let y3:=zk a0;let y4:=inb a1<|ln y3.Mons;let y0:=ix y3.Mons a1 zf;let y5:=inb a2<|ln y0.Guests;let y1:=ix y0.Guests a2 zn;let y2:=up y3.Mons a1 ({y0 with Guests:=(up y0.Guests a2<|zcd y1 y1.Ctl.Traps 6)}:Mon); (oN (zba a0)<|oN (zcH y3 a1 a2)<|cond (nB<|ziZ y3 a1 a2) (some [aH y3,aB false])<|oN y4<|oN y5<|oN (zx9 y1)<|oN (zea y1 y1.Ctl.Traps 6)<|cond (zdB y1 y1.Ctl.Traps 6) (oN y4<|oN y5<|share y2 λx4=>some [aH ({y3 with Mons:=x4}:Host),aB true])<|oN y4<|oN y5<|share y2 λx4=>some [aH ({y3 with Mons:=x4}:Host),aB true])
abbrev zya (x:Guest):Bool:=bif zbk x then ieq (zG x) 7 else false
def zn7:List AV->Option (Bool×List AV)
 |[.agg [.s .ins c,.i .i64 d,.i .i64 e,.s .slot f,.s .slot g,.i .i64 h,.i .i64 j,.b k,.i .i64 l,.i .i64 m,.i .i64 n,.b o,.i .i64 p,.b q,.s .int r]]=>some (zya (⟨c,d,e,f,g,⟨h,j,k⟩,l,⟨m,n,o,p⟩,q,r⟩:Guest),[.one<|.i .i64 7])
 |_=>none
theorem zBC:vJ 201 zn7:=by refine⟨zcg.1,λw avs xs rs hrep h=>?_⟩;unfold zn7 at h;split at h;{obtain⟨hc,rfl⟩:=zeb h;obtain⟨h1,h2⟩:=zlE hc;exact zcg.2 w _ xs _ hrep (congr (congrArg (λc v=>some (c,[AV.one<|CV.i .i64 v])) h1) (qD h2))};{cases h}
def z2X:zS:=[(201,zn7)]++zmf
theorem zVg:zL z2X:=zh zBC zhB
@[simp] abbrev ztR (h:Host)(m g:Int):Bool:=bif zcH h m g then ieq (zG<|gOf h m g) 7 else false
def zBX:Run:=rF3 dH dI dI λb c d=>(ztR b c d,[aH<|zb9 b c d,aB<|zca b c d])
def zsY (N:Nat)(a0:Host)(a1 a2:Int):OA:=
 let y9:=zk a0;let y4:=inb a1<|ln y9.Mons;let y2:=ix y9.Mons a1 zf;let y8:=inb a2<|ln y2.Guests;let y0:=ix y2.Guests a2 zn;let y6:=y0.Ctl.Traps;let y3:=up y9.Mons a1 ({y2 with Guests:=(up y2.Guests a2<|zcd y0 y6 7)}:Mon); (oN (zba a0)<|oN (zcH y9 a1 a2)<|cond (nB<|ziZ y9 a1 a2) (some [aH y9,aB false])<|oN y4<|oN y8<|oN (zya y0)<|oN y4<|oN (zl6 y2.Traps y6 2)<|cond (ieq (zi7 y2.Traps y6 2) 2) (oN y4<|cond (ilt y2.Own 1000000000) (oN y4<|oN y4<|share (up y9.Mons a1 ({y2 with Own:=(zD .i64 y2.Own 1)}:Mon)) (λx4=>let y5:=ix x4 a1 zf;let y7:=ix y5.Guests a2 zn;let y1:=({y0 with Prog:=y7.Prog,Written:=y7.Written,Live:=y7.Live,Seen:=y7.Seen}:Guest);let y10:=up x4 a1 ({y5 with Guests:=(up y5.Guests a2<|zcd y1 y6 7)}:Mon); (oN (zea y1 y6 7)<|cond (zdB y1 y6 7) (oN (inb a1<|ln x4)<|oN (inb a2<|ln y5.Guests)<|share y10 λx5=>some [aH ({y9 with Mons:=x5}:Host),aB true])<|oN (inb a1<|ln x4)<|oN (inb a2<|ln y5.Guests)<|share y10 λx5=>some [aH ({y9 with Mons:=x5}:Host),aB true])))<|oN (zea y0 y6 7)<|cond (zdB y0 y6 7) (oN y4<|oN y8<|share y3 λx4=>some [aH ({y9 with Mons:=x4}:Host),aB true])<|oN y4<|oN y8<|share y3 λx4=>some [aH ({y9 with Mons:=x4}:Host),aB true])<|oN (zea y0 y6 7)<|cond (zdB y0 y6 7) (oN y4<|oN y8<|share y3 λx4=>some [aH ({y9 with Mons:=x4}:Host),aB true])<|oN y4<|oN y8<|share y3 λx4=>some [aH ({y9 with Mons:=x4}:Host),aB true])
theorem zBG (a0:Host)(a1 a2:Int)(hc:ztK a0 a1 a2=true):∃N,zsQ N a0 a1 a2=some [aH<|zb9 a0 a1 a2,aB<|zca a0 a1 a2]:=by
 obtain⟨hc,hw⟩:=zlE hc;have hs:=(zM a0).1 (zK.1 hc);refine⟨0,?_⟩;show _=some (zed<|zbL a0 a1 a2);unfold zsQ oN nB;conv=>zeta
 refine must (zbe<|(zM _).2 hs) (must (zbe<|(zM _).2 hs)<|brN (λhh=>?_) λhh=>?_);{rw [zhX hh];rfl};obtain⟨g1,g2,g3⟩:=zcS hh;have hx:=zjM hs g2 g3;have hk:zG (gOf a0 a1 a2)=0:=qD hw;rw[zis hh,hk];refine must (zA g2) (must (zA g3)<|must (ziv rfl hw) ?_);rfl
theorem zoF:vJ 319 zBQ:=kF3 zU9 zo zbS zfQ (zx []) zBG
theorem zBH (a0:Host)(a1 a2:Int)(hc:ztL a0 a1 a2=true):∃N,zsR N a0 a1 a2=some [aH<|zb9 a0 a1 a2,aB<|zca a0 a1 a2]:=by
 obtain⟨hc,hw⟩:=zlE hc;have hs:=(zM a0).1 (zK.1 hc);refine⟨0,?_⟩;show _=some (zed<|zbL a0 a1 a2);unfold zsR oN nB;conv=>zeta
 refine must (zbe<|(zM _).2 hs) (must (zbe<|(zM _).2 hs)<|brN (λhh=>?_) λhh=>?_);{rw [zhX hh];rfl};obtain⟨g1,g2,g3⟩:=zcS hh;have hx:=zjM hs g2 g3;have hk:zG (gOf a0 a1 a2)=1:=qD hw;rw[zis hh,hk];refine must (zA g2) (must (zA g3)<|must (ziv rfl hw) ?_);show _=some (zed (zfX a0 a1 a2<|interrupted<|gOf a0 a1 a2,true));exact must (zA g2) (must (zbe hx) (must (zA g3) rfl))
theorem zyj:vJ 319 zBR:=kF3 zVa zo zbS zfQ (zx []) zBH
theorem zBI (a0:Host)(a1 a2:Int)(hc:ztM a0 a1 a2=true):∃N,zsS N a0 a1 a2=some [aH<|zb9 a0 a1 a2,aB<|zca a0 a1 a2]:=by
 obtain⟨hc,hw⟩:=zlE hc;have hs:=(zM a0).1 (zK.1 hc);refine⟨0,?_⟩;show _=some (zed<|zbL a0 a1 a2);unfold zsS oN nB;conv=>zeta
 refine must (zbe<|(zM _).2 hs) (must (zbe<|(zM _).2 hs)<|brN (λhh=>?_) λhh=>?_);{rw [zhX hh];rfl};obtain⟨g1,g2,g3⟩:=zcS hh;have hx:=zjM hs g2 g3;have hk:zG (gOf a0 a1 a2)=2:=qD hw;rw[zis hh,hk];refine must (zA g2) (must (zA g3)<|must (ziv rfl hw) ?_);show _=some (zed (zfX a0 a1 a2<|plainly<|gOf a0 a1 a2,true));exact must (zA g2) (must (zbe hx) (must (zA g3) rfl))
theorem zyk:vJ 319 zBS:=kF3 zVb zo zbS zfQ (zx []) zBI
theorem zBJ (a0:Host)(a1 a2:Int)(hc:ztN a0 a1 a2=true):∃N,zsU N a0 a1 a2=some [aH<|zb9 a0 a1 a2,aB<|zca a0 a1 a2]:=by
 obtain⟨hc,hw⟩:=zlE hc;have hs:=(zM a0).1 (zK.1 hc);refine⟨0,?_⟩;show _=some (zed<|zbL a0 a1 a2);unfold zsU oN nB;conv=>zeta
 refine must (zbe<|(zM _).2 hs) (must (zbe<|(zM _).2 hs)<|brN (λhh=>?_) λhh=>?_);{rw [zhX hh];rfl};obtain⟨g1,g2,g3⟩:=zcS hh;have hx:=zjM hs g2 g3;have hk:zG (gOf a0 a1 a2)=3:=qD hw;rw[zis hh,hk];refine must (zA g2) (must (zA g3)<|must (ziv rfl hw) ?_);show _=some (zed (zgW (zhM a0 a1 a2 (gOf a0 a1 a2) false) a1 a2 (gOf a0 a1 a2) false,true));have k:=zrH (b:=a0.Buffer) (page:=zbc (address<|gOf a0 a1 a2)) (need:=zbW false) (io:=false) hs hh;have F:=zld k g2 g3;have e3:(ix (ix (zfx (zk a0) (zk a0).Buffer a1 a2 (zbN<|zgx<|ix (ix (zk a0).Mons a1 zf).Guests a2 zn) (zcP false) false).Mons a1 zf).Guests a2 zn)=(ix (ix (zk a0).Mons a1 zf).Guests a2 zn):=congrArg (λl=>ix l a2 gZ) (zGE k.gs a1);rw[e3];unfold zgW;refine must rfl (must rfl (must rfl (must (zbe<|(zM _).2 hs)<|brN (λh=>?_) λh=>?_)));{rw [show (zhM a0 a1 a2 (gOf a0 a1 a2) false).2.2=false from h];exact must (zA F.hm) (must rfl (must rfl (must (zbe hx) (must (zA F.hg) rfl))))};{rw [show (zhM a0 a1 a2 (gOf a0 a1 a2) false).2.2=true from h];exact must (zA F.hm) (must rfl (must rfl (must (zbe hx) (must (zA F.hg) rfl))))}
theorem zyl:vJ 319 zBT:=kF3 zVc zo zbS zfQ (zx []) zBJ
theorem zBK (a0:Host)(a1 a2:Int)(hc:ztO a0 a1 a2=true):∃N,zsV N a0 a1 a2=some [aH<|zb9 a0 a1 a2,aB<|zca a0 a1 a2]:=by
 obtain⟨hc,hw⟩:=zlE hc;have hs:=(zM a0).1 (zK.1 hc);refine⟨0,?_⟩;show _=some (zed<|zbL a0 a1 a2);unfold zsV oN nB;conv=>zeta
 refine must (zbe<|(zM _).2 hs) (must (zbe<|(zM _).2 hs)<|brN (λhh=>?_) λhh=>?_);{rw [zhX hh];rfl};obtain⟨g1,g2,g3⟩:=zcS hh;have hx:=zjM hs g2 g3;have hk:zG (gOf a0 a1 a2)=4:=qD hw;rw[zis hh,hk];refine must (zA g2) (must (zA g3)<|must (ziv rfl hw) ?_);show _=some (zed (zgW (zhM a0 a1 a2 (gOf a0 a1 a2) true) a1 a2 (gOf a0 a1 a2) true,true));have k:=zrH (b:=a0.Buffer) (page:=zbc (address<|gOf a0 a1 a2)) (need:=zbW true) (io:=false) hs hh;have F:=zld k g2 g3;have e3:(ix (ix (zfx (zk a0) (zk a0).Buffer a1 a2 (zbN<|zgx<|ix (ix (zk a0).Mons a1 zf).Guests a2 zn) (zcP true) false).Mons a1 zf).Guests a2 zn)=(ix (ix (zk a0).Mons a1 zf).Guests a2 zn):=congrArg (λl=>ix l a2 gZ) (zGE k.gs a1);rw[e3];unfold zgW;refine must rfl (must rfl (must rfl (must (zbe<|(zM _).2 hs)<|brN (λh=>?_) λh=>?_)));{rw [show (zhM a0 a1 a2 (gOf a0 a1 a2) true).2.2=false from h];exact must (zA F.hm) (must rfl (must rfl (must (zbe hx) (must (zA F.hg) rfl))))};{rw [show (zhM a0 a1 a2 (gOf a0 a1 a2) true).2.2=true from h];exact must rfl (must (zbe k.shape.1.1)<|must (zA F.hm)<|must (zbe hx) (must (zA F.hg) rfl))}
theorem zym:vJ 319 zBU:=kF3 zVd zo zbS zfQ (zx []) zBK
theorem z1P {a0:Host}{a1 a2:Int}(hx:SmG (gOf a0 a1 a2))(g2:hasB a1 (ln a0.Mons)=true)(g3:hasB a2 (ln (ix a0.Mons a1 mZ).Guests)=true) :
 (cond (zea (ix (ix (zk a0).Mons a1 zf).Guests a2 zn) (ix (ix (zk a0).Mons a1 zf).Guests a2 zn).Ctl.Traps 5) (cond (zdB (ix (ix (zk a0).Mons a1 zf).Guests a2 zn) (ix (ix (zk a0).Mons a1 zf).Guests a2 zn).Ctl.Traps 5) (cond (inb a1<|ln (zk a0).Mons) (cond (ilt (ln (ix (zk a0).Mons a1 zf).Outs) 40) (cond (inb a1<|ln (zk a0).Mons) (cond (zds (ix (ix (zk a0).Mons a1 zf).Guests a2 zn).Prog (ix (ix (zk a0).Mons a1 zf).Guests a2 zn).Pc) (cond (few<|ln<|ap (ix (zk a0).Mons a1 zf).Outs [(zdj (ix (ix (zk a0).Mons a1 zf).Guests a2 zn).Prog (ix (ix (zk a0).Mons a1 zf).Guests a2 zn).Pc).X]) (cond (inb a1<|ln (zk a0).Mons) (cond (cond (ieq a1 a1) true false) (share (up (zk a0).Mons a1 ({ (ix (zk a0).Mons a1 zf) with Outs:=(ap (ix (zk a0).Mons a1 zf).Outs [(zdj (ix (ix (zk a0).Mons a1 zf).Guests a2 zn).Prog (ix (ix (zk a0).Mons a1 zf).Guests a2 zn).Pc).X])}:Mon)) λx4=>cond (inb a1<|ln x4) (cond (inb a2<|ln (ix x4 a1 zf).Guests) (share (up x4 a1 ({ (ix x4 a1 zf) with Guests:=(up (ix x4 a1 zf).Guests a2<|zcd (ix (ix (zk a0).Mons a1 zf).Guests a2 zn) (ix (ix (zk a0).Mons a1 zf).Guests a2 zn).Ctl.Traps 5)}:Mon)) λx5=>some [.agg<|zbf ({ (zk a0) with Mons:=x5}:Host),.one<|.b true]) none) none) none) none) none) none) none)<|cond (inb a1<|ln (zk a0).Mons) (cond (inb a2<|ln (ix (zk a0).Mons a1 zf).Guests) (share (up (zk a0).Mons a1 ({ (ix (zk a0).Mons a1 zf) with Guests:=(up (ix (zk a0).Mons a1 zf).Guests a2<|zcd (ix (ix (zk a0).Mons a1 zf).Guests a2 zn) (ix (ix (zk a0).Mons a1 zf).Guests a2 zn).Ctl.Traps 5)}:Mon)) λx4=>some [.agg<|zbf ({ (zk a0) with Mons:=x4}:Host),.one<|.b true]) none) none) none)<|cond (inb a1<|ln (zk a0).Mons) (cond (inb a2<|ln (ix (zk a0).Mons a1 zf).Guests) (share (up (zk a0).Mons a1 ({ (ix (zk a0).Mons a1 zf) with Guests:=(up (ix (zk a0).Mons a1 zf).Guests a2<|zcd (ix (ix (zk a0).Mons a1 zf).Guests a2 zn) (ix (ix (zk a0).Mons a1 zf).Guests a2 zn).Ctl.Traps 5)}:Mon)) λx4=>some [.agg<|zbf ({ (zk a0) with Mons:=x4}:Host),.one<|.b true]) none) none) none)=some (zed (zfX (zgp a0 a1 (gOf a0 a1 a2) 5) a1 a2<|zfm (gOf a0 a1 a2) (gOf a0 a1 a2).Ctl.Traps 5,true)):=by
 refine must (zbe hx) (br (λh1=>must (zA g2) (br (λh3=>?_) λh3=>?_)) λh1=>?_)
 .rw [zRU (h:=a0) (m:=a1) (x:=gOf a0 a1 a2) (w:=5) h1 rfl h3];refine must (zA g2) (must rfl (must (zOB h3)<|must (zA g2)<|must (zHw _)<|shr<|must (zA<|zeL g2) (must ?_ rfl)));rw[znz g2];exact zA g3
 .rw [zMU (h:=a0) (m:=a1) (x:=gOf a0 a1 a2) (w:=5) h3];exact must (zA g2) (must (zA g3) rfl)
 .rw [zII (h:=a0) (m:=a1) (x:=gOf a0 a1 a2) (w:=5) h1];exact must (zA g2) (must (zA g3) rfl)
theorem z5x {a0:Host}{x4:List Mon}{a1 a2:Int}(hx:SmG (gOf a0 a1 a2))(g2:hasB a1 (ln x4)=true)(g3:hasB a2 (ln (ix x4 a1 mZ).Guests)=true)(e:(ix (ix x4 a1 zf).Guests a2 zn)=gOf a0 a1 a2) :
 (cond (zea ({ (ix (ix (zk a0).Mons a1 zf).Guests a2 zn) with Prog:=(ix (ix x4 a1 zf).Guests a2 zn).Prog,Written:=(ix (ix x4 a1 zf).Guests a2 zn).Written,Live:=(ix (ix x4 a1 zf).Guests a2 zn).Live,Seen:=(ix (ix x4 a1 zf).Guests a2 zn).Seen}:Guest) (ix (ix (zk a0).Mons a1 zf).Guests a2 zn).Ctl.Traps 5) (cond (zdB ({ (ix (ix (zk a0).Mons a1 zf).Guests a2 zn) with Prog:=(ix (ix x4 a1 zf).Guests a2 zn).Prog,Written:=(ix (ix x4 a1 zf).Guests a2 zn).Written,Live:=(ix (ix x4 a1 zf).Guests a2 zn).Live,Seen:=(ix (ix x4 a1 zf).Guests a2 zn).Seen}:Guest) (ix (ix (zk a0).Mons a1 zf).Guests a2 zn).Ctl.Traps 5) (cond (inb a1<|ln x4) (cond (ilt (ln (ix x4 a1 zf).Outs) 40) (cond (inb a1<|ln x4) (cond (zds (ix (ix x4 a1 zf).Guests a2 zn).Prog (ix (ix (zk a0).Mons a1 zf).Guests a2 zn).Pc) (cond (few<|ln<|ap (ix x4 a1 zf).Outs [(zdj (ix (ix x4 a1 zf).Guests a2 zn).Prog (ix (ix (zk a0).Mons a1 zf).Guests a2 zn).Pc).X]) (cond (inb a1<|ln x4) (cond (cond (ieq a1 a1) true false) (share (up x4 a1 ({ (ix x4 a1 zf) with Outs:=(ap (ix x4 a1 zf).Outs [(zdj (ix (ix x4 a1 zf).Guests a2 zn).Prog (ix (ix (zk a0).Mons a1 zf).Guests a2 zn).Pc).X])}:Mon)) λx5=>cond (inb a1<|ln x5) (cond (inb a2<|ln (ix x5 a1 zf).Guests) (share (up x5 a1 ({ (ix x5 a1 zf) with Guests:=(up (ix x5 a1 zf).Guests a2<|zcd ({ (ix (ix (zk a0).Mons a1 zf).Guests a2 zn) with Prog:=(ix (ix x4 a1 zf).Guests a2 zn).Prog,Written:=(ix (ix x4 a1 zf).Guests a2 zn).Written,Live:=(ix (ix x4 a1 zf).Guests a2 zn).Live,Seen:=(ix (ix x4 a1 zf).Guests a2 zn).Seen}:Guest) (ix (ix (zk a0).Mons a1 zf).Guests a2 zn).Ctl.Traps 5)}:Mon)) λx6=>some [.agg<|zbf ({ (zk a0) with Mons:=x6}:Host),.one<|.b true]) none) none) none) none) none) none) none)<|cond (inb a1<|ln x4) (cond (inb a2<|ln (ix x4 a1 zf).Guests) (share (up x4 a1 ({ (ix x4 a1 zf) with Guests:=(up (ix x4 a1 zf).Guests a2<|zcd ({ (ix (ix (zk a0).Mons a1 zf).Guests a2 zn) with Prog:=(ix (ix x4 a1 zf).Guests a2 zn).Prog,Written:=(ix (ix x4 a1 zf).Guests a2 zn).Written,Live:=(ix (ix x4 a1 zf).Guests a2 zn).Live,Seen:=(ix (ix x4 a1 zf).Guests a2 zn).Seen}:Guest) (ix (ix (zk a0).Mons a1 zf).Guests a2 zn).Ctl.Traps 5)}:Mon)) λx5=>some [.agg<|zbf ({ (zk a0) with Mons:=x5}:Host),.one<|.b true]) none) none) none)<|cond (inb a1<|ln x4) (cond (inb a2<|ln (ix x4 a1 zf).Guests) (share (up x4 a1 ({ (ix x4 a1 zf) with Guests:=(up (ix x4 a1 zf).Guests a2<|zcd ({ (ix (ix (zk a0).Mons a1 zf).Guests a2 zn) with Prog:=(ix (ix x4 a1 zf).Guests a2 zn).Prog,Written:=(ix (ix x4 a1 zf).Guests a2 zn).Written,Live:=(ix (ix x4 a1 zf).Guests a2 zn).Live,Seen:=(ix (ix x4 a1 zf).Guests a2 zn).Seen}:Guest) (ix (ix (zk a0).Mons a1 zf).Guests a2 zn).Ctl.Traps 5)}:Mon)) λx5=>some [.agg<|zbf ({ (zk a0) with Mons:=x5}:Host),.one<|.b true]) none) none) none)=some (zed (zfX (zgp {a0 with Mons:=x4} a1 (gOf a0 a1 a2) 5) a1 a2<|zfm (gOf a0 a1 a2) (gOf a0 a1 a2).Ctl.Traps 5,true)):=by
 rw[e];refine must (zbe hx) (br (λh1=>must (zA g2) (br (λh3=>?_) λh3=>?_)) λh1=>?_)
 .rw [zRU (h:={a0 with Mons:=x4}) (m:=a1) (x:=gOf a0 a1 a2) (w:=5) h1 rfl h3];refine must (zA g2) (must rfl (must (zOB h3)<|must (zA g2)<|must (zHw _)<|shr<|must (zA<|zeL (h:={a0 with Mons:=x4}) g2) (must ?_ rfl)));rw[znz (h:={a0 with Mons:=x4}) g2];exact zA g3
 .rw [zMU (h:={a0 with Mons:=x4}) (m:=a1) (x:=gOf a0 a1 a2) (w:=5) h3];exact must (zA g2) (must (zA g3) rfl)
 .rw [zII (h:={a0 with Mons:=x4}) (m:=a1) (x:=gOf a0 a1 a2) (w:=5) h1];exact must (zA g2) (must (zA g3) rfl)
theorem zBL (a0:Host)(a1 a2:Int)(hc:ztP a0 a1 a2=true):∃N,zsW N a0 a1 a2=some [aH<|zb9 a0 a1 a2,aB<|zca a0 a1 a2]:=by
 obtain⟨hc,hw⟩:=zlE hc;have hs:=(zM a0).1 (zK.1 hc);refine⟨0,?_⟩;show _=some (zed<|zbL a0 a1 a2);unfold zsW oN nB;conv=>zeta
 refine must (zbe<|(zM _).2 hs) (must (zbe<|(zM _).2 hs)<|brN (λhh=>?_) λhh=>?_);{rw [zhX hh];rfl};obtain⟨g1,g2,g3⟩:=zcS hh;have hx:=zjM hs g2 g3;have hk:zG (gOf a0 a1 a2)=5:=qD hw;rw[zis hh,hk];refine must (zA g2) (must (zA g3)<|must (ziv rfl hw) ?_);show _=some (zed (zjA a0 a1 a2 (gOf a0 a1 a2) 5,true));refine must (zA g2) (must rfl (br (λh0=>must (zA g2) (br (λh9=>must (zA g2) (must (zA g2)<|shr ?_)) λh9=>?_)) λh0=>?_));{rw [zmU (zUI (h:=a0) (m:=a1) (x:=gOf a0 a1 a2) (w:=5) rfl h0 h9)];have eM:=znz g2 {ix a0.Mons a1 mZ with Own:=zD .i64 (ix a0.Mons a1 mZ).Own 1};refine z5x hx (zeL g2) ?_ ?_;{show hasB a2 (ln (ix (up a0.Mons a1 _) a1 mZ).Guests)=true;rw[eM];exact g3};{show ix (ix (up a0.Mons a1 _) a1 mZ).Guests a2 gZ=_;rw[eM];rfl}};{rw [zmU<|zUH (h:=a0) (m:=a1) (x:=gOf a0 a1 a2) (w:=5) h9];exact z1P hx g2 g3};{rw [zmU<|zUG (h:=a0) (m:=a1) (x:=gOf a0 a1 a2) (w:=5) h0];exact z1P hx g2 g3}
theorem zyn:vJ 319 zBV:=kF3 zVe zo zbS zfQ (zx []) zBL
theorem zBM (a0:Host)(a1 a2:Int)(hc:ztQ a0 a1 a2=true):∃N,zsX N a0 a1 a2=some [aH<|zb9 a0 a1 a2,aB<|zca a0 a1 a2]:=by
 obtain⟨hc,hw⟩:=zlE hc;have hs:=(zM a0).1 (zK.1 hc);refine⟨0,?_⟩;show _=some (zed<|zbL a0 a1 a2);unfold zsX oN nB;conv=>zeta
 refine must (zbe<|(zM _).2 hs) (must (zbe<|(zM _).2 hs)<|brN (λhh=>?_) λhh=>?_);{rw [zhX hh];rfl};obtain⟨g1,g2,g3⟩:=zcS hh;have hx:=zjM hs g2 g3;have hk:zG (gOf a0 a1 a2)=6:=qD hw;rw[zis hh,hk];refine must (zA g2) (must (zA g3)<|must (ziv rfl hw) ?_);show _=some (zed (zjA a0 a1 a2 (gOf a0 a1 a2) 6,true));rw[zmU<|z3X (h:=a0) (m:=a1) (x:=gOf a0 a1 a2),zAz (w:=6) rfl];exact must (zbe hx) (br (λh1=>must (zA g2) (must (zA g3) rfl)) λh1=>must (zA g2) (must (zA g3) rfl))
theorem zyo:vJ 319 zBW:=kF3 zVf zo zbS zfQ (zx []) zBM
theorem z1Q {a0:Host}{a1 a2:Int}(hx:SmG (gOf a0 a1 a2))(g2:hasB a1 (ln a0.Mons)=true)(g3:hasB a2 (ln (ix a0.Mons a1 mZ).Guests)=true) :
 (cond (zea (ix (ix (zk a0).Mons a1 zf).Guests a2 zn) (ix (ix (zk a0).Mons a1 zf).Guests a2 zn).Ctl.Traps 7) (cond (zdB (ix (ix (zk a0).Mons a1 zf).Guests a2 zn) (ix (ix (zk a0).Mons a1 zf).Guests a2 zn).Ctl.Traps 7) (cond (inb a1<|ln (zk a0).Mons) (cond (inb a2<|ln (ix (zk a0).Mons a1 zf).Guests) (share (up (zk a0).Mons a1 ({ (ix (zk a0).Mons a1 zf) with Guests:=(up (ix (zk a0).Mons a1 zf).Guests a2<|zcd (ix (ix (zk a0).Mons a1 zf).Guests a2 zn) (ix (ix (zk a0).Mons a1 zf).Guests a2 zn).Ctl.Traps 7)}:Mon)) λx4=>some [.agg<|zbf ({ (zk a0) with Mons:=x4}:Host),.one<|.b true]) none) none)<|cond (inb a1<|ln (zk a0).Mons) (cond (inb a2<|ln (ix (zk a0).Mons a1 zf).Guests) (share (up (zk a0).Mons a1 ({ (ix (zk a0).Mons a1 zf) with Guests:=(up (ix (zk a0).Mons a1 zf).Guests a2<|zcd (ix (ix (zk a0).Mons a1 zf).Guests a2 zn) (ix (ix (zk a0).Mons a1 zf).Guests a2 zn).Ctl.Traps 7)}:Mon)) λx4=>some [.agg<|zbf ({ (zk a0) with Mons:=x4}:Host),.one<|.b true]) none) none) none)=some (zed (zfX a0 a1 a2<|zfm (gOf a0 a1 a2) (gOf a0 a1 a2).Ctl.Traps 7,true)):=
 must (zbe hx) (br (λh1=>must (zA g2) (must (zA g3) rfl)) λh1=>must (zA g2) (must (zA g3) rfl))
theorem z5y {a0:Host}{x4:List Mon}{a1 a2:Int}(hx:SmG (gOf a0 a1 a2))(g2:hasB a1 (ln x4)=true)(g3:hasB a2 (ln (ix x4 a1 mZ).Guests)=true)(e:(ix (ix x4 a1 zf).Guests a2 zn)=gOf a0 a1 a2) :
 (cond (zea ({ (ix (ix (zk a0).Mons a1 zf).Guests a2 zn) with Prog:=(ix (ix x4 a1 zf).Guests a2 zn).Prog,Written:=(ix (ix x4 a1 zf).Guests a2 zn).Written,Live:=(ix (ix x4 a1 zf).Guests a2 zn).Live,Seen:=(ix (ix x4 a1 zf).Guests a2 zn).Seen}:Guest) (ix (ix (zk a0).Mons a1 zf).Guests a2 zn).Ctl.Traps 7) (cond (zdB ({ (ix (ix (zk a0).Mons a1 zf).Guests a2 zn) with Prog:=(ix (ix x4 a1 zf).Guests a2 zn).Prog,Written:=(ix (ix x4 a1 zf).Guests a2 zn).Written,Live:=(ix (ix x4 a1 zf).Guests a2 zn).Live,Seen:=(ix (ix x4 a1 zf).Guests a2 zn).Seen}:Guest) (ix (ix (zk a0).Mons a1 zf).Guests a2 zn).Ctl.Traps 7) (cond (inb a1<|ln x4) (cond (inb a2<|ln (ix x4 a1 zf).Guests) (share (up x4 a1 ({ (ix x4 a1 zf) with Guests:=(up (ix x4 a1 zf).Guests a2<|zcd ({ (ix (ix (zk a0).Mons a1 zf).Guests a2 zn) with Prog:=(ix (ix x4 a1 zf).Guests a2 zn).Prog,Written:=(ix (ix x4 a1 zf).Guests a2 zn).Written,Live:=(ix (ix x4 a1 zf).Guests a2 zn).Live,Seen:=(ix (ix x4 a1 zf).Guests a2 zn).Seen}:Guest) (ix (ix (zk a0).Mons a1 zf).Guests a2 zn).Ctl.Traps 7)}:Mon)) λx5=>some [.agg<|zbf ({ (zk a0) with Mons:=x5}:Host),.one<|.b true]) none) none)<|cond (inb a1<|ln x4) (cond (inb a2<|ln (ix x4 a1 zf).Guests) (share (up x4 a1 ({ (ix x4 a1 zf) with Guests:=(up (ix x4 a1 zf).Guests a2<|zcd ({ (ix (ix (zk a0).Mons a1 zf).Guests a2 zn) with Prog:=(ix (ix x4 a1 zf).Guests a2 zn).Prog,Written:=(ix (ix x4 a1 zf).Guests a2 zn).Written,Live:=(ix (ix x4 a1 zf).Guests a2 zn).Live,Seen:=(ix (ix x4 a1 zf).Guests a2 zn).Seen}:Guest) (ix (ix (zk a0).Mons a1 zf).Guests a2 zn).Ctl.Traps 7)}:Mon)) λx5=>some [.agg<|zbf ({ (zk a0) with Mons:=x5}:Host),.one<|.b true]) none) none) none)=some (zed (zfX {a0 with Mons:=x4} a1 a2<|zfm (gOf a0 a1 a2) (gOf a0 a1 a2).Ctl.Traps 7,true)):=by
 rw[e];exact must (zbe hx) (br (λh1=>must (zA g2) (must (zA g3) rfl)) λh1=>must (zA g2) (must (zA g3) rfl))
theorem zBN (a0:Host)(a1 a2:Int)(hc:ztR a0 a1 a2=true):∃N,zsY N a0 a1 a2=some [aH<|zb9 a0 a1 a2,aB<|zca a0 a1 a2]:=by
 obtain⟨hc,hw⟩:=zlE hc;have hs:=(zM a0).1 (zK.1 hc);refine⟨0,?_⟩;show _=some (zed<|zbL a0 a1 a2);unfold zsY oN nB;conv=>zeta
 refine must (zbe<|(zM _).2 hs) (must (zbe<|(zM _).2 hs)<|brN (λhh=>?_) λhh=>?_);{rw [zhX hh];rfl};obtain⟨g1,g2,g3⟩:=zcS hh;have hx:=zjM hs g2 g3;have hk:zG (gOf a0 a1 a2)=7:=qD hw;rw[zis hh,hk];refine must (zA g2) (must (zA g3)<|must (ziv rfl hw) ?_);show _=some (zed (zjA a0 a1 a2 (gOf a0 a1 a2) 7,true));refine must (zA g2) (must rfl (br (λh0=>must (zA g2) (br (λh9=>must (zA g2) (must (zA g2)<|shr ?_)) λh9=>?_)) λh0=>?_));{rw [zmU (zUI (h:=a0) (m:=a1) (x:=gOf a0 a1 a2) (w:=7) rfl h0 h9),zAz (w:=7) rfl];have eM:=znz g2 {ix a0.Mons a1 mZ with Own:=zD .i64 (ix a0.Mons a1 mZ).Own 1};refine z5y hx (zeL g2) ?_ ?_;{show hasB a2 (ln (ix (up a0.Mons a1 _) a1 mZ).Guests)=true;rw[eM];exact g3};{show ix (ix (up a0.Mons a1 _) a1 mZ).Guests a2 gZ=_;rw[eM];rfl}};{rw [zmU<|zUH (h:=a0) (m:=a1) (x:=gOf a0 a1 a2) (w:=7) h9,zAz (w:=7) rfl];exact z1Q hx g2 g3};{rw [zmU<|zUG (h:=a0) (m:=a1) (x:=gOf a0 a1 a2) (w:=7) h0,zAz (w:=7) rfl];exact z1Q hx g2 g3}
theorem zyp:vJ 319 zBX:=kF3 zVg zo zbS zfQ (zx []) zBN
def zo8:List AV->Option (Bool×List AV)
 |[.agg [.s (.sl .int) b,.s .mon c,.s .entry d,.s .entry e],.one<|.i .i64 f,.one<|.i .i64 g]=>some (zcH (⟨b,c,d,e⟩:Host) f g,[aH<|zb9 (⟨b,c,d,e⟩:Host) f g,aB<|zca (⟨b,c,d,e⟩:Host) f g])
 |_=>none
theorem zEp:vJ 319 zo8:=by refine⟨zoF.1,λw avs xs rs hrep h=>?_⟩;unfold zo8 at h;split at h;{rename_i a0_0 a0_1 a0_2 a0_3 a1 a2;obtain⟨hc,rfl⟩:=zeb h;rcases z0G (gOf (⟨a0_0,a0_1,a0_2,a0_3⟩:Host) a1 a2) with e|e|e|e|e|e|e|e;{exact zoF.2 w _ xs _ hrep (congrArg (λc=>some (c,zed<|zbL (⟨a0_0,a0_1,a0_2,a0_3⟩:Host) a1 a2))<|ziv hc e)};{exact zyj.2 w _ xs _ hrep (congrArg (λc=>some (c,zed<|zbL (⟨a0_0,a0_1,a0_2,a0_3⟩:Host) a1 a2))<|ziv hc e)};{exact zyk.2 w _ xs _ hrep (congrArg (λc=>some (c,zed<|zbL (⟨a0_0,a0_1,a0_2,a0_3⟩:Host) a1 a2))<|ziv hc e)};{exact zyl.2 w _ xs _ hrep (congrArg (λc=>some (c,zed<|zbL (⟨a0_0,a0_1,a0_2,a0_3⟩:Host) a1 a2))<|ziv hc e)};{exact zym.2 w _ xs _ hrep (congrArg (λc=>some (c,zed<|zbL (⟨a0_0,a0_1,a0_2,a0_3⟩:Host) a1 a2))<|ziv hc e)};{exact zyn.2 w _ xs _ hrep (congrArg (λc=>some (c,zed<|zbL (⟨a0_0,a0_1,a0_2,a0_3⟩:Host) a1 a2))<|ziv hc e)};{exact zyo.2 w _ xs _ hrep (congrArg (λc=>some (c,zed<|zbL (⟨a0_0,a0_1,a0_2,a0_3⟩:Host) a1 a2))<|ziv hc e)};{exact zyp.2 w _ xs _ hrep (congrArg (λc=>some (c,zed<|zbL (⟨a0_0,a0_1,a0_2,a0_3⟩:Host) a1 a2))<|ziv hc e)}};{cases h}
@[simp] abbrev zwE (h:Host)(m g page need:Int)(io:Bool):Bool:=pc (zcJ h)
@[simp] abbrev zwB (h:Host)(m g page need:Int)(io:Bool):Host:=(lookOf h (zrb h io) m g page need io).1
@[simp] abbrev zwC (h:Host)(m g page need:Int)(io:Bool):Int:=(lookOf h (zrb h io) m g page need io).2.1
@[simp] abbrev zwD (h:Host)(m g page need:Int)(io:Bool):Bool:=(lookOf h (zrb h io) m g page need io).2.2
def zAb:Run:=rF6 dH dI dI dI dI dB λb c d e f g=>(zwE b c d e f g,[aH<|zwB b c d e f g,aI<|zwC b c d e f g,aB<|zwD b c d e f g])
abbrev zOO (u9_10:lM)(u9_11:lN)(u9_12:lE)(u9_13:lE)(u9_0:Int)(u9_4:Int)(u9_3:Int):Mon :=
 (ix (zgC (⟨u9_10,u9_11,u9_12,u9_13⟩:Host) u9_0 u9_4 u9_3).Mons u9_0 zf)
def zqx (N:Nat)(u10_0:Int)(u10_1:Int)(u10_2:Int)(u10_3:Int)(u10_8:lM)(u10_9:lN)(u10_10:lE)(u10_11:lE):OA:=
 let y0:=(⟨u10_1,u10_0,u10_2,u10_3⟩:Entry); (oN (zhK u10_11 y0)<|some [aH (⟨u10_8,u10_9,u10_10,zg7 u10_11 y0⟩:Host),aI u10_2,aB true])
def zrQ (N:Nat)(u9_10:lM)(u9_11:lN)(u9_12:lE)(u9_13:lE)(u9_0:Int)(u9_4:Int)(u9_3:Int)(u9_1:Int)(u9_2:Int)(r10:(Int×Int×Int×Int×lM×lN×lE×lE×lM×lN×lE×lE×Unit)->OA)(u9_5:Int)(u9_6:lM)(u9_7:lN)(u9_8:lE)(u9_9:lE):OA:=
 let y6:=(⟨u9_10,u9_11,u9_12,u9_13⟩:Host);let y1:=zgC y6 u9_0 u9_4 u9_3;let y0:=zOO u9_10 u9_11 u9_12 u9_13 u9_0 u9_4 u9_3;let y5:=ix y0.Tables u9_1 ze2;let y3:=(ix y0.Guests u9_1 zn).Live; (oN (zhn y6 u9_0 u9_4 u9_3)<|oN (inb u9_0<|ln y1.Mons)<|oN (inb u9_1<|ln y0.Tables)<|oN (inb u9_1<|ln y0.Guests)<|oN (zsv y5 y3 y0.Outer u9_2)<|oN (inb u9_1<|ln y0.Tables)<|share (up y1.Mons u9_0 ({y0 with Tables:=(up y0.Tables u9_1<|zsu y5 y3 y0.Outer u9_2)}:Mon)) (λx11=>let y4:=(ix x11 u9_0 zf).Tables;let y2:=ix y4 u9_1 ze2; (oN (inb u9_1<|ln y4)<|oN (zva y2 u9_2)<|r10 (u9_2,u9_5,(zhV y2 u9_2).Page,(zhV y2 u9_2).Rights,u9_6,u9_7,u9_8,u9_9,y1.Memory,x11,y1.Buffer,y1.IoBuffer,()))))
def zne (N:Nat)(u9_11:lN)(u9_0:Int)(u9_1:Int)(u9_2:Int)(u9_10:lM)(u9_12:lE)(u9_13:lE)(u9_4:Int)(u9_3:Int)(r10:(Int×Int×Int×Int×lM×lN×lE×lE×lM×lN×lE×lE×Unit)->OA)(u9_5:Int)(u9_6:lM)(u9_7:lN)(u9_8:lE)(u9_9:lE):OA:=
 let y1:=zrQ N u9_10 u9_11 u9_12 u9_13 u9_0 u9_4 u9_3 u9_1 u9_2 r10 u9_5 u9_6 u9_7 u9_8 u9_9;let y0:=ix (ix u9_11 u9_0 zf).Tables u9_1 ze2;let y2:=zhV y0 u9_2; (cond (nB<|zm8 y0 u9_2) y1<|cond (ieq y2.Page<|-1) y1<|oN (zbl y2.Rights u9_3)<|cond (nB<|zcE y2.Rights u9_3) y1<|r10 (u9_2,u9_5,y2.Page,y2.Rights,u9_6,u9_7,u9_8,u9_9,u9_10,u9_11,u9_12,u9_13,()))
def zqy (N:Nat)(u9_0:Int)(u9_1:Int)(u9_2:Int)(u9_3:Int)(u9_4:Int)(u9_5:Int)(u9_6:lM)(u9_7:lN)(u9_8:lE)(u9_9:lE)(u9_10:lM)(u9_11:lN)(u9_12:lE)(u9_13:lE):OA:=
 let y0:=(ix u9_11 u9_0 zf).Tables; (oN (inb u9_0<|ln u9_11)<|oN (inb u9_1<|ln y0)<|oN (zva (ix y0 u9_1 ze2) u9_2)<|share (λ(s10:(Int×Int×Int×Int×lM×lN×lE×lE×lM×lN×lE×lE×Unit))=>zqx N s10.1 s10.2.1 s10.2.2.1 s10.2.2.2.1 s10.2.2.2.2.2.2.2.2.1 s10.2.2.2.2.2.2.2.2.2.1 s10.2.2.2.2.2.2.2.2.2.2.1 s10.2.2.2.2.2.2.2.2.2.2.2.1) λr10=>zne N u9_11 u9_0 u9_1 u9_2 u9_10 u9_12 u9_13 u9_4 u9_3 r10 u9_5 u9_6 u9_7 u9_8 u9_9)
def zqz (N:Nat)(u10_0:Int)(u10_1:Int)(u10_2:Int)(u10_3:Int)(u10_8:lM)(u10_9:lN)(u10_10:lE)(u10_11:lE):OA:=
 let y0:=(⟨u10_1,u10_0,u10_2,u10_3⟩:Entry); (oN (zhK u10_10 y0)<|some [aH (⟨u10_8,u10_9,zg7 u10_10 y0,u10_11⟩:Host),aI u10_2,aB true])
def zqA (N:Nat)(u9_0:Int)(u9_1:Int)(u9_2:Int)(u9_3:Int)(u9_4:Int)(u9_5:Int)(u9_6:lM)(u9_7:lN)(u9_8:lE)(u9_9:lE)(u9_10:lM)(u9_11:lN)(u9_12:lE)(u9_13:lE):OA:=
 let y0:=(ix u9_11 u9_0 zf).Tables; (oN (inb u9_0<|ln u9_11)<|oN (inb u9_1<|ln y0)<|oN (zva (ix y0 u9_1 ze2) u9_2)<|share (λ(s10:(Int×Int×Int×Int×lM×lN×lE×lE×lM×lN×lE×lE×Unit))=>zqz N s10.1 s10.2.1 s10.2.2.1 s10.2.2.2.1 s10.2.2.2.2.2.2.2.2.1 s10.2.2.2.2.2.2.2.2.2.1 s10.2.2.2.2.2.2.2.2.2.2.1 s10.2.2.2.2.2.2.2.2.2.2.2.1) λr10=>zne N u9_11 u9_0 u9_1 u9_2 u9_10 u9_12 u9_13 u9_4 u9_3 r10 u9_5 u9_6 u9_7 u9_8 u9_9)
def zqB (N:Nat)(u8_0:Int)(u8_1:Int)(u8_2:Int)(u8_3:Int)(u8_4:Bool)(u8_5:Int)(u8_6:lM)(u8_7:lN)(u8_8:lE)(u8_9:lE)(u8_10:lM)(u8_11:lN)(u8_12:lE)(u8_13:lE):OA:=
 let y1:=aH (⟨u8_10,u8_11,u8_12,u8_13⟩:Host);let y0:=zjZ u8_0 u8_1;let y3:=zfV u8_12 y0 u8_2;let y2:=zfV u8_13 y0 u8_2; (cond u8_4 (oN (zhj u8_0 u8_1)<|share (λ(s9:(Int×Int×Int×Int×Int×Int×lM×lN×lE×lE×lM×lN×lE×lE×Unit))=>zqy N s9.1 s9.2.1 s9.2.2.1 s9.2.2.2.1 s9.2.2.2.2.1 s9.2.2.2.2.2.1 s9.2.2.2.2.2.2.1 s9.2.2.2.2.2.2.2.1 s9.2.2.2.2.2.2.2.2.1 s9.2.2.2.2.2.2.2.2.2.1 s9.2.2.2.2.2.2.2.2.2.2.1 s9.2.2.2.2.2.2.2.2.2.2.2.1 s9.2.2.2.2.2.2.2.2.2.2.2.2.1 s9.2.2.2.2.2.2.2.2.2.2.2.2.2.1) λr9=>oN (zgS u8_13 y0 u8_2)<|cond (ze5 u8_13 y0 u8_2) (oN (zbl y2.Rights u8_3)<|cond (zcE y2.Rights u8_3) (some [y1,aI y2.Host,aB true])<|r9 (u8_0,u8_1,u8_2,u8_3,u8_5,y0,u8_6,u8_7,u8_8,u8_9,u8_10,u8_11,u8_12,u8_13,()))<|r9 (u8_0,u8_1,u8_2,u8_3,u8_5,y0,u8_6,u8_7,u8_8,u8_9,u8_10,u8_11,u8_12,u8_13,()))<|oN (zhj u8_0 u8_1)<|share (λ(s9:(Int×Int×Int×Int×Int×Int×lM×lN×lE×lE×lM×lN×lE×lE×Unit))=>zqA N s9.1 s9.2.1 s9.2.2.1 s9.2.2.2.1 s9.2.2.2.2.1 s9.2.2.2.2.2.1 s9.2.2.2.2.2.2.1 s9.2.2.2.2.2.2.2.1 s9.2.2.2.2.2.2.2.2.1 s9.2.2.2.2.2.2.2.2.2.1 s9.2.2.2.2.2.2.2.2.2.2.1 s9.2.2.2.2.2.2.2.2.2.2.2.1 s9.2.2.2.2.2.2.2.2.2.2.2.2.1 s9.2.2.2.2.2.2.2.2.2.2.2.2.2.1) λr9=>oN (zgS u8_12 y0 u8_2)<|cond (ze5 u8_12 y0 u8_2) (oN (zbl y3.Rights u8_3)<|cond (zcE y3.Rights u8_3) (some [y1,aI y3.Host,aB true])<|r9 (u8_0,u8_1,u8_2,u8_3,u8_5,y0,u8_6,u8_7,u8_8,u8_9,u8_10,u8_11,u8_12,u8_13,()))<|r9 (u8_0,u8_1,u8_2,u8_3,u8_5,y0,u8_6,u8_7,u8_8,u8_9,u8_10,u8_11,u8_12,u8_13,()))
def zqC (N:Nat)(u7_0:Int)(u7_1:Int)(u7_2:Int)(u7_3:Int)(u7_4:Bool)(u7_8:lM)(u7_9:lN)(u7_10:lE)(u7_11:lE)(u7_12:lM)(u7_13:lN)(u7_14:lE)(u7_15:lE)(u7_19:lG):OA:=
 let y1:=ix u7_13 u7_0 zf;let y0:=(ix u7_19 u7_1 zn).Live;let y2:=zew y0 u7_2 u7_3; (oN (inb u7_1<|ln u7_19)<|oN (zgM y0 u7_2 u7_3)<|cond (nB<|zd3 y0 u7_2 u7_3) (some [aH (⟨u7_12,u7_13,u7_14,u7_15⟩:Host),aI<|-1,aB false])<|share (λ(s8:(Int×Int×Int×Int×Bool×Int×lM×lN×lE×lE×lM×lN×lE×lE×Unit))=>zqB N s8.1 s8.2.1 s8.2.2.1 s8.2.2.2.1 s8.2.2.2.2.1 s8.2.2.2.2.2.1 s8.2.2.2.2.2.2.1 s8.2.2.2.2.2.2.2.1 s8.2.2.2.2.2.2.2.2.1 s8.2.2.2.2.2.2.2.2.2.1 s8.2.2.2.2.2.2.2.2.2.2.1 s8.2.2.2.2.2.2.2.2.2.2.2.1 s8.2.2.2.2.2.2.2.2.2.2.2.2.1 s8.2.2.2.2.2.2.2.2.2.2.2.2.2.1) λr8=>cond (ieq u7_3 2) (oN (inb u7_0<|ln u7_13)<|oN (inb y2<|ln y1.Dirty)<|share (up u7_13 u7_0 ({y1 with Dirty:=(up y1.Dirty y2 true)}:Mon)) λx9=>r8 (u7_0,u7_1,u7_2,u7_3,u7_4,y2,u7_8,u7_9,u7_10,u7_11,u7_12,x9,u7_14,u7_15,()))<|r8 (u7_0,u7_1,u7_2,u7_3,u7_4,y2,u7_8,u7_9,u7_10,u7_11,u7_12,u7_13,u7_14,u7_15,()))
def zFy (N:Nat)(a0:Host)(a1 a2:Int)(a3 a4:Int)(a5:Bool):OA:=
 let y1:=zk a0;let y0:=zcr a0 a1; (oN (zba a0)<|oN (zeQ a0 a1)<|share (λ(s7:(Int×Int×Int×Int×Bool×Int×Int×Int×lM×lN×lE×lE×lM×lN×lE×lE×lS×lM×lB×lG×(List Int)×lK×Unit))=>zqC N s7.1 s7.2.1 s7.2.2.1 s7.2.2.2.1 s7.2.2.2.2.1 s7.2.2.2.2.2.2.2.2.1 s7.2.2.2.2.2.2.2.2.2.1 s7.2.2.2.2.2.2.2.2.2.2.1 s7.2.2.2.2.2.2.2.2.2.2.2.1 s7.2.2.2.2.2.2.2.2.2.2.2.2.1 s7.2.2.2.2.2.2.2.2.2.2.2.2.2.1 s7.2.2.2.2.2.2.2.2.2.2.2.2.2.2.1 s7.2.2.2.2.2.2.2.2.2.2.2.2.2.2.2.1 s7.2.2.2.2.2.2.2.2.2.2.2.2.2.2.2.2.2.2.2.1) λr7=>oN (zdn a0)<|cond (nB<|zdw a0) (some [aH y1,aI<|-1,aB false])<|cond (nB<|zkr a0 a1) (some [aH y1,aI<|-1,aB false])<|oN (zbl a2<|ln y0.Guests)<|cond (nB<|zcR a2<|ln y0.Guests) (some [aH y1,aI<|-1,aB false])<|cond (ine a4 1) (cond (ine a4 2) (some [aH y1,aI<|-1,aB false])<|r7 (a1,a2,a3,a4,a5,y0.Pending,y0.Traps,y0.Own,[],[],[],[],y1.Memory,y1.Mons,y1.Buffer,y1.IoBuffer,y0.Outer,y0.Out,y0.Dirty,y0.Guests,y0.Outs,y0.Tables,()))<|r7 (a1,a2,a3,a4,a5,y0.Pending,y0.Traps,y0.Own,[],[],[],[],y1.Memory,y1.Mons,y1.Buffer,y1.IoBuffer,y0.Outer,y0.Out,y0.Dirty,y0.Guests,y0.Outs,y0.Tables,()))
def zR2:=zx [(167,999999,{n:=0,tm:=[],lo:=[],ro:=[]}),(167,1007055,{n:=200,tm:=[(1,ti),(2,ti),(3,ti),(4,ti),(5,.b),(12,.lp 0 0),(15,.lp 1 0),(16,.lp 2 0)],lo:=[(0,[.sl 0 [],.sl 1 [],.sl 2 [],.sl 3 []]),(1,[.sl 4 [],.sl 5 [],.sl 6 [],.sl 7 []]),(2,[.sl 8 [],.sl 9 [],.sl 10 [],.sl 11 [],.sl 12 [],ti,ti,.sl 13 [],ti])],ro:=[(0,.sl .int,true),(1,.mon,true),(2,.entry,true),(3,.entry,true),(4,.sl .int,true),(5,.mon,true),(6,.entry,true),(7,.entry,true),(8,.slot,true),(9,.sl .int,true),(10,.bool,true),(11,.guest,true),(12,.int,true),(13,.kept,true)]}),(167,1005039,{n:=200,tm:=[(1,ti),(2,ti),(3,ti),(4,ti),(5,.b),(12,.lp 0 0),(15,.lp 1 0),(18,ti)],lo:=[(0,[.sl 0 [],.sl 1 [],.sl 2 [],.sl 3 []]),(1,[.sl 4 [],.sl 5 [],.sl 6 [],.sl 7 []])],ro:=[(0,.sl .int,true),(1,.mon,true),(2,.entry,true),(3,.entry,true),(4,.sl .int,true),(5,.mon,true),(6,.entry,true),(7,.entry,true)]}),(167,1009019,{n:=200,tm:=[(1,ti),(2,ti),(3,ti),(4,ti),(12,.lp 0 0),(15,.lp 1 0),(18,ti),(20,.lp 1 3),(21,ti)],lo:=[(0,[.sl 0 [],.sl 1 [],.sl 2 [],.sl 3 []]),(1,[.sl 4 [],.sl 5 [],.sl 6 [],.sl 7 []])],ro:=[(0,.sl .int,true),(1,.mon,true),(2,.entry,true),(3,.entry,true),(4,.sl .int,true),(5,.mon,true),(6,.entry,true),(7,.entry,true)]}),(167,1011005,{n:=200,tm:=[(3,ti),(12,.lp 0 0),(15,.lp 1 0),(20,.lp 1 3),(21,ti),(24,.lp 2 0)],lo:=[(0,[.sl 0 [],.sl 1 [],.sl 2 [],.sl 3 []]),(1,[.sl 4 [],.sl 5 [],.sl 6 [],.sl 7 []]),(2,[ti,ti])],ro:=[(0,.sl .int,true),(1,.mon,true),(2,.entry,true),(3,.entry,true),(4,.sl .int,true),(5,.mon,true),(6,.entry,true),(7,.entry,true)]}),(167,1001009019,{n:=200,tm:=[(1,ti),(2,ti),(3,ti),(4,ti),(12,.lp 0 0),(15,.lp 1 0),(18,ti),(20,.lp 1 2),(21,ti)],lo:=[(0,[.sl 0 [],.sl 1 [],.sl 2 [],.sl 3 []]),(1,[.sl 4 [],.sl 5 [],.sl 6 [],.sl 7 []])],ro:=[(0,.sl .int,true),(1,.mon,true),(2,.entry,true),(3,.entry,true),(4,.sl .int,true),(5,.mon,true),(6,.entry,true),(7,.entry,true)]}),(167,1001011005,{n:=200,tm:=[(3,ti),(12,.lp 0 0),(15,.lp 1 0),(20,.lp 1 2),(21,ti),(24,.lp 2 0)],lo:=[(0,[.sl 0 [],.sl 1 [],.sl 2 [],.sl 3 []]),(1,[.sl 4 [],.sl 5 [],.sl 6 [],.sl 7 []]),(2,[ti,ti])],ro:=[(0,.sl .int,true),(1,.mon,true),(2,.entry,true),(3,.entry,true),(4,.sl .int,true),(5,.mon,true),(6,.entry,true),(7,.entry,true)]})]
theorem z1U {N:Nat}{r:Host}{m g page:Int}(hi:r.IoBuffer.length<=1048576) :
 zqx N page (zd1 m g) (zdT (zbV r m g) page).Page (zdT (zbV r m g) page).Rights r.Memory r.Mons r.Buffer r.IoBuffer=some (zjn<|zeF r m g page true):=by
 unfold zqx oN
 conv=>zeta
 exact must (zbe hi) rfl
theorem z1W {N:Nat}{r:Host}{m g page:Int}(hi:r.Buffer.length<=1048576) :
 zqz N page (zd1 m g) (zdT (zbV r m g) page).Page (zdT (zbV r m g) page).Rights r.Memory r.Mons r.Buffer r.IoBuffer=some (zjn<|zeF r m g page false):=by
 unfold zqz oN
 conv=>zeta
 exact must (zbe hi) rfl
theorem zZU {N:Nat}{r:Host}{m g page need q:Int}{R:OA}{r10}{u5 u6 u7 u8 u9}(A:LookAt r m g q need)(hr:r10 (page,u5,(zdT (zbV (zck (mended r m q need) m g page) m g) page).Page,(zdT (zbV (zck (mended r m q need) m g page) m g) page).Rights,u6,u7,u8,u9,(zck (mended r m q need) m g page).Memory,(zck (mended r m q need) m g page).Mons,(zck (mended r m q need) m g page).Buffer,(zck (mended r m q need) m g page).IoBuffer,())=R) :
 zrQ N r.Memory r.Mons r.Buffer r.IoBuffer m q need g page r10 u5 u6 u7 u8 u9=R:=by
 have M:=zld A.kp A.hm A.hg;have F:=zld (A.fill page) A.hm A.hg;unfold zrQ oN
 conv=>zeta
 exact must (zbe A.mend) (must (zA M.hm)<|must (zA M.ht)<|must (zA M.hg)<|must (zbe M.hk)<|must (zA M.ht)<|shr<|must (zA F.ht) (must rfl hr))
theorem z4S {N:Nat}{r:Host}{m g page need q:Int}{io:Bool}{r10}{u5 u6 u7 u8 u9}(A:LookAt r m g q need)(h1:r10 (page,u5,(zdT (zbV (zck (mended r m q need) m g page) m g) page).Page,(zdT (zbV (zck (mended r m q need) m g page) m g) page).Rights,u6,u7,u8,u9,(zck (mended r m q need) m g page).Memory,(zck (mended r m q need) m g page).Mons,(zck (mended r m q need) m g page).Buffer,(zck (mended r m q need) m g page).IoBuffer,())=some (zjn<|zeF (zck (mended r m q need) m g page) m g page io))(h2:r10 (page,u5,(zdT (zbV r m g) page).Page,(zdT (zbV r m g) page).Rights,u6,u7,u8,u9,r.Memory,r.Mons,r.Buffer,r.IoBuffer,())=some (zjn<|zeF r m g page io)) :
 zne N r.Mons m g page r.Memory r.Buffer r.IoBuffer q need r10 u5 u6 u7 u8 u9=some (zjn<|cond (zer r m g page need) (zeF (zck (mended r m q need) m g page) m g page io)<|zeF r m g page io):=by
 unfold zne oN nB
 conv=>zeta
 refine brN (λf1=>?_) (λf1=>br (λf2=>?_) λf2=>must rfl (brN (λf3=>?_) λf3=>?_))
 .rw [zrI<|zUz f1];exact zZU A h1
 .rw [zrI<|zUA f2];exact zZU A h1
 .rw [zrI<|zUB f3];exact zZU A h1
 .rw [zT9<|zUC f1 f2 f3];exact h2
theorem z1V {N:Nat}{r:Host}{m g page need q:Int}{u6 u7 u8 u9}(A:LookAt r m g q need) :
 zqy N m g page need q (zd1 m g) u6 u7 u8 u9 r.Memory r.Mons r.Buffer r.IoBuffer=some (zjn<|cond (zer r m g page need) (zeF (zck (mended r m q need) m g page) m g page true)<|zeF r m g page true):=by
 have M:=zld ⟨A.fit.1,rfl⟩ A.hm A.hg;have F:=zld (A.fill page) A.hm A.hg;unfold zqy oN
 conv=>zeta
 exact must (zA M.hm) (must (zA M.ht) (must rfl (shr<|z4S A (z1U (r:=zck (mended r m q need) m g page) (m:=m) (g:=g) F.hi)<|z1U (r:=r) (m:=m) (g:=g) M.hi)))
theorem z1X {N:Nat}{r:Host}{m g page need q:Int}{u6 u7 u8 u9}(A:LookAt r m g q need) :
 zqA N m g page need q (zd1 m g) u6 u7 u8 u9 r.Memory r.Mons r.Buffer r.IoBuffer=some (zjn<|cond (zer r m g page need) (zeF (zck (mended r m q need) m g page) m g page false)<|zeF r m g page false):=by
 have M:=zld ⟨A.fit.1,rfl⟩ A.hm A.hg;have F:=zld (A.fill page) A.hm A.hg;unfold zqA oN
 conv=>zeta
 exact must (zA M.hm) (must (zA M.ht) (must rfl (shr<|z4S A (z1W (r:=zck (mended r m q need) m g page) (m:=m) (g:=g) F.hb)<|z1W (r:=r) (m:=m) (g:=g) M.hb)))
theorem z1Y {N:Nat}{r:Host}{m g page need q:Int}{io:Bool}{u6 u7 u8 u9}(A:LookAt r m g q need) :
 zqB N m g page need io q u6 u7 u8 u9 r.Memory r.Mons r.Buffer r.IoBuffer=some (zjn<|zgf r (zrb r io) m g page need q io):=by
 unfold zqB oN
 conv=>zeta
 cases io
 .show _=some (zjn<|zgf r r.Buffer m g page need q false)
  refine zcy rfl (must rfl (shr (must rfl (br (λf1=>must rfl (br (λf2=>?_) λf2=>?_)) λf1=>?_))))
  .rw [zAY<|zm1 f1 f2];rfl
  .rw [zm4<|zm1 f1 f2];exact z1X A
  .rw [zm4<|zAU f1];exact z1X A
 .show _=some (zjn<|zgf r r.IoBuffer m g page need q true)
  refine must rfl (must rfl (shr (must rfl (br (λf1=>must rfl (br (λf2=>?_) λf2=>?_)) λf1=>?_))))
  .rw [zAY<|zm1 f1 f2];rfl
  .rw [zm4<|zm1 f1 f2];exact z1V A
  .rw [zm4<|zAU f1];exact z1V A
theorem z5s (r:Host)(m q:Int)(io:Bool):zrb (zbx r m q) io=zrb r io:=by cases io<;>rfl
theorem z1Z {N:Nat}{r:Host}{m g page need:Int}{io:Bool}{z1 z2 z3 z4}(hs:SmH r)(hg:zbK r m g=true)(hn:zf1 need=true) :
 zqC N m g page need io z1 z2 z3 z4 r.Memory r.Mons r.Buffer r.IoBuffer (ix r.Mons m mZ).Guests=some (zjn (lookOf r (zrb r io) m g page need io)):=by
 obtain⟨g1,g2,g3⟩:=zcS hg;unfold zqC oN nB
 conv=>zeta
 refine must (zA g3) (must rfl (brN (fun hw=>?_) (fun hw=>?_)))
 .have:zbO r m g page need=false:=by
   unfold zbO;rw[hg,hn,show zet (zci r m g) page need=false from hw];rfl
  rw[zhw this];rfl
 .have hl:zbO r m g page need=true:=by
   unfold zbO;rw[hg,hn,show zet (zci r m g) page need=true from hw];rfl
  obtain⟨A,B⟩:=zzW hs hl;rw[zEW hl];have hd:hasB (zb2 (zci r m g) page need) (ln (ix r.Mons m mZ).Dirty)=true:=zdE (zco A.fit.1 g2).2.2.2.1 A.hq;refine shr (br (fun h2=>?_) (fun h2=>?_))
  .rw [h2]
   show _=some (zjn (zgf (zbx r m (zb2 (zci r m g) page need)) (zrb r io) m g page need (zb2 (zci r m g) page need) io))
   rw[<- z5s r m (zb2 (zci r m g) page need) io];exact must (zA g2) (must (zA hd) (shr (z1Y (r:=zbx r m (zb2 (zci r m g) page need)) B)))
  .rw [h2];exact z1Y A
theorem zQp (a0:Host)(a1 a2:Int)(a3 a4:Int)(a5:Bool)(hc:zwE a0 a1 a2 a3 a4 a5=true):∃N,zFy N a0 a1 a2 a3 a4 a5=some [aH<|zwB a0 a1 a2 a3 a4 a5,aI<|zwC a0 a1 a2 a3 a4 a5,aB<|zwD a0 a1 a2 a3 a4 a5]:=by
 have hs:=(zM a0).1 (zK.1 hc);refine⟨0,?_⟩;show _=some (zjn<|lookOf a0 (zrb a0 a5) a1 a2 a3 a4 a5);unfold zFy oN nB;conv=>zeta
 refine must (zbe<|(zM _).2 hs) (must (zbe<|(zM _).2 hs)<|shr (must rfl (brN (λh1=>?_) λh1=>?_)));{rw [zhw<|zm5<|zJe h1];rfl};refine brN (λh2=>?_) (λh2=>?_);{rw [zhw<|zm5<|zJf h2];rfl};have eM:zcr a0 a1=ix a0.Mons a1 mZ:=(by unfold zcr;rw[show hasB a1 (ln a0.Mons)=true from h2];rfl);rw[eM];refine must rfl (brN (λh3=>?_) λh3=>?_);{rw [zhw<|zm5<|zJg h3];rfl};have hg:=zJh h1 h2 h3;have hno:∀{n:Int},zf1 n=false->zbO a0 a1 a2 a3 n=false:=λ{n} h=>(by unfold zbO;rw[hg,h];rfl);rw[zjU,zjU];cases h4:ieq a4 1;{cases h5:ieq a4 2;{have:zf1 a4=false:=(by unfold zf1;rw[h4,h5];rfl);rw[zhw<|hno this];rfl};{exact z1Z (r:=a0) hs hg (by unfold zf1;rw[h4,h5];rfl)}};{exact z1Z (r:=a0) hs hg (by unfold zf1;rw[h4];rfl)}
theorem zJJ:vJ 167 zAb:=kF6 zhB zo zbS zfQ zR2 zQp
def z1z:zS:=[(167,zAb),(319,zo8)]++zmf
theorem zPn:zL z1z:=zh zJJ (zh zEp zhB)
@[simp] abbrev zwA (h:Host)(m g page need:Int):Bool:=pc (zcJ h)
@[simp] abbrev zre (h:Host)(m g page need:Int):Host:=(lookOf h h.Buffer m g page need false).1
@[simp] abbrev zrf (h:Host)(m g page need:Int):Int:=(lookOf h h.Buffer m g page need false).2.1
@[simp] abbrev zwz (h:Host)(m g page need:Int):Bool:=(lookOf h h.Buffer m g page need false).2.2
def zz9:Run:=rF5 dH dI dI dI dI λb c d e f=>(zwA b c d e f,[aH<|zre b c d e f,aI<|zrf b c d e f,aB<|zwz b c d e f])
def zFn (N:Nat)(a0:Host)(a1 a2:Int)(a3 a4:Int):OA:=
 (oN (zwE a0 a1 a2 a3 a4 false)<|some [aH<|zwB a0 a1 a2 a3 a4 false,aI<|zwC a0 a1 a2 a3 a4 false,aB<|zwD a0 a1 a2 a3 a4 false])
theorem zQe (a0:Host)(a1 a2:Int)(a3 a4:Int)(hc:zwA a0 a1 a2 a3 a4=true):∃N,zFn N a0 a1 a2 a3 a4=some [aH<|zre a0 a1 a2 a3 a4,aI<|zrf a0 a1 a2 a3 a4,aB<|zwz a0 a1 a2 a3 a4]:=by refine⟨0,?_⟩;unfold zFn oN;exact must hc rfl
theorem zJt:vJ 72 zz9:=kF5 zPn zo zbS zfQ (zx []) zQe
def z1A:zS:=[(72,zz9)]++z1z
theorem zZw:zL z1A:=zh zJt zPn
def brought (n a b:Int):Int:=bif ilt n a then a else (cond (ilt b a) a<|zwG n b)
@[simp] abbrev zjR (_ _ _:Int):Bool:=true
@[simp] abbrev zh4 (n a b:Int):Int:=brought n a b
def zhU:Run:=rF3 dI dI dI λb c d=>(zjR b c d,[aI<|zh4 b c d])
def zB0 (N:Nat)(a0 a1 a2:Int):OA:=
 (cond (ilt a0 a1) (some [aI a1])<|cond (ilt a2 a1) (some [aI a1])<|some [aI<|zwG a0 a2])
theorem zNw (a0 a1 a2:Int)(hc:zjR a0 a1 a2=true):∃N,zB0 N a0 a1 a2=some [aI<|zh4 a0 a1 a2]:=by refine⟨0,?_⟩;unfold zB0;refine br (λ_=>?_) (λ_=>br (λ_=>?_) λ_=>?_);all_goals first|rfl|(simp only [*,zh4,brought,cT,cF]<;>rfl)|simp_all[Ty.cells,zh4,brought]
theorem zti:vJ 90 zhU:=kF3 zmC zo zq zu (zx []) zNw
def zCh (N:Nat)(a0 a1 a2:Int):OA:=
 (cond (ilt a2 a1) (some [aI a1])<|cond (ilt a0 a1) (some [aI a1])<|cond (igt a0 a2) (some [aI a2])<|some [aI a0])
theorem zNM (a0 a1 a2:Int)(hc:zjR a0 a1 a2=true):∃N,zCh N a0 a1 a2=some [aI<|zh4 a0 a1 a2]:=by refine⟨0,?_⟩;unfold zCh;unfold zh4 brought zwG;cases h1:ilt a2 a1<;>cases h2:ilt a0 a1<;>cases h3:igt a0 a2<;>simp [igt] at * <;> omega
theorem ztn:vJ 197 zhU:=kF3 zmC zo zq zu (zx []) zNM
theorem zWT (n:Int):0<=brought n 0 40/\brought n 0 40<=40:=by unfold brought;cases h1:ilt n 0;{have h1:=jQ h1;simp only[cF,show ilt 40 0=false from rfl,zwG];split<;>omega};{simp}
def rb:Nat->Nat->Bare->Int->Bare×Int
 | 0,_,b,c=>(b,c)
 |m+1,j,b,c=>rb m (j+1) (zd0 b (j:Int)) (cond (zf3 b (j:Int)) (zD .i64 c 1) c)
def rnd:List Bare->Int->List Bare×Int
 |[],c=>([],c)
 |b::l,c=>((rb b.Guests.length 0 b c).1::(rnd l (rb b.Guests.length 0 b c).2).1,(rnd l (rb b.Guests.length 0 b c).2).2)
structure RI (a:List Bare) (i:Nat) (l:List Bare):Prop where
 len:l.length=a.length
 sm:zUP l
 eq:∀k,i<=k->l[k]?=a[k]?
theorem RI.up {a l:List Bare}{i:Nat}(h:RI a i l)(x:Bare)(hx:SmB x):RI a (i+1) (up l (i:Int) x):=
 ⟨by rw[zgZ];exact h.len,z3V h.sm hx,λk hk=>by rw[z4H (by omega)];exact h.eq k (by omega)⟩
structure RJ (l:List Bare) (i:Nat) (l':List Bare):Prop where
 len:l'.length=l.length
 sm:SmB (ix l' (i:Int) zIY)
 up:∀x,E.up l' (i:Int) x=E.up l (i:Int) x
theorem RJ.next {l l':List Bare}{i:Nat}(h:RJ l i l')(hi:i<l.length)(x:Bare)(hx:SmB x):RJ l i (E.up l' (i:Int) x):=
 ⟨by rw[zgZ];exact h.len,by rw[zd5 (by rw[h.len];exact hi)];exact hx,λy=>by rw[zt0];exact h.up y⟩
def zoZ:Nat->List Bare->Int->List Bare×Int
 | 0,l,c=>(l,c)
 |n+1,l,c=>zoZ n (rnd l 0).1 (zD .i64 c (rnd l 0).2)
def zXn:zS:=[(83,zo5)]++z1A
theorem zMg:zL zXn:=zh zr9 zZw
def zvv:Run:=rF3 dH dI dI λb c d=>(zcH b c d,[aH<|zb9 b c d,aB<|zca b c d])
abbrev zhs (a0:Host)(a1 a2:Int):Int :=
 (zgx<|ix (zcr a0 a1).Guests a2 zn)
abbrev zc0 (a0:Host)(a1 a2:Int):Int :=
 (zgV<|ix (zcr a0 a1).Guests a2 zn)
abbrev zuK (a0:Host)(a1 a2:Int):Host :=
 (zre a0 a1 a2 (zbN<|zhs a0 a1 a2)<|zcP<|ieq (zc0 a0 a1 a2) 4)
abbrev zhr (a0:Host)(a1 a2:Int):Guest :=
 (ix (ix (zk a0).Mons a1 zf).Guests a2 zn)
abbrev zkV (x4:lN)(a1 a2:Int):Guest :=
 (ix (ix x4 a1 zf).Guests a2 zn)
abbrev zuL (a0:Host)(a1 a2:Int):Int :=
 (zrf a0 a1 a2 (zbN<|zhs a0 a1 a2)<|zcP<|ieq (zc0 a0 a1 a2) 4)
def zkW (N:Nat)(a0:Host)(a1 a2:Int):OA:=
 let y5:=zuL a0 a1 a2;let y4:=ieq (zc0 a0 a1 a2) 4;let y3:=zhs a0 a1 a2;let y2:=zuK a0 a1 a2;let y6:=inb a1<|ln y2.Mons;let y1:=ix (zcr a0 a1).Guests a2 zn;let y0:=ix y2.Mons a1 zf;let y7:=inb a2<|ln y0.Guests; (oN (zbJ y3)<|oN (zju y4)<|oN (zwA a0 a1 a2 (zbN y3)<|zcP y4)<|cond (nB<|zwz a0 a1 a2 (zbN y3)<|zcP y4) (oN (zbJ y3)<|oN (zgR (zbN y3) y4)<|oN (zcw y1<|zeY (zbN y3) y4)<|oN y6<|oN y7<|share (up y2.Mons a1 ({y0 with Guests:=(up y0.Guests a2<|zcj y1<|zeY (zbN y3) y4)}:Mon)) λx4=>some [aH ({y2 with Mons:=x4}:Host),aB true])<|cond y4 (oN (zbJ y3)<|oN (zeZ y2.Memory y5 (zcX y3) y1.A)<|oN (zJ y1)<|oN y6<|oN y7<|share (up y2.Mons a1 ({y0 with Guests:=(up y0.Guests a2<|zb4 y1)}:Mon)) λx4=>some [aH ({y2 with Memory:=(ze7 y2.Memory y5 (zcX y3) y1.A),Mons:=x4}:Host),aB true])<|oN (zbJ y3)<|oN (ze8 y2.Memory y5<|zcX y3)<|oN (zlu y1<|zf7 y2.Memory y5<|zcX y3)<|oN y6<|oN y7<|share (up y2.Mons a1 ({y0 with Guests:=(up y0.Guests a2<|zjs y1<|zf7 y2.Memory y5<|zcX y3)}:Mon)) λx4=>some [aH ({y2 with Mons:=x4}:Host),aB true])
def zkX (N:Nat)(a0:Host)(a1 a2:Int)(x4:lN):OA:=
 let y2:=zkV x4 a1 a2;let y1:=ix x4 a1 zf;let y0:=({ (zhr a0 a1 a2) with Prog:=y2.Prog,Written:=y2.Written,Live:=y2.Live,Seen:=y2.Seen}:Guest); (oN (zJ y0)<|oN (inb a2<|ln y1.Guests)<|share (up x4 a1 ({y1 with Guests:=(up y1.Guests a2<|zb4 y0)}:Mon)) λx5=>some [aH ({ (zk a0) with Mons:=x5}:Host),aB true])
def zkY (N:Nat)(a0:Host)(a1 a2:Int):OA:=
 let y3:=(zk a0).Mons;let y1:=zhr a0 a1 a2;let y0:=ix y3 a1 zf;let y2:=ap y0.Outs [(zdj y1.Prog y1.Pc).X]; (cond (ieq (zc0 a0 a1 a2) 7) (oN (zJ y1)<|oN (inb a2<|ln y0.Guests)<|share (up y3 a1 ({y0 with Guests:=(up y0.Guests a2<|zjJ y1)}:Mon)) λx4=>some [aH ({ (zk a0) with Mons:=x4}:Host),aB true])<|cond (ilt (ln y0.Outs) 40) (oN (zds y1.Prog y1.Pc)<|oN (few<|ln y2)<|oN (cond (ieq a1 a1) true false)<|share (up y3 a1 ({y0 with Outs:=y2}:Mon)) λx4=>zkX N a0 a1 a2 x4)<|oN (zJ y1)<|oN (inb a2<|ln y0.Guests)<|share (up y3 a1 ({y0 with Guests:=(up y0.Guests a2<|zb4 y1)}:Mon)) λx4=>some [aH ({ (zk a0) with Mons:=x4}:Host),aB true])
def zkZ (N:Nat)(a1:Int)(a0:Host)(a2:Int):OA:=
 let y9:=zk a0;let y5:=zc0 a0 a1 a2;let y2:=zhr a0 a1 a2;let y1:=ix y9.Mons a1 zf;let y11:=zi7 y1.Traps y2.Ctl.Traps<|zhF y5; (oN (inb a1<|ln y9.Mons)<|oN (inb a2<|ln y1.Guests)<|oN (znv y5)<|oN (zl6 y1.Traps y2.Ctl.Traps<|zhF y5)<|cond (ieq y11 1) (oN (zlP y2 y5)<|oN (inb a2<|ln y1.Guests)<|share (up y9.Mons a1 ({y1 with Guests:=(up y1.Guests a2<|zi4 y2 y5)}:Mon)) λx4=>some [aH ({y9 with Mons:=x4}:Host),aB true])<|cond (ieq y11 2) (cond (ilt y1.Own 1000000000) (share (up y9.Mons a1 ({y1 with Own:=(zD .i64 y1.Own 1)}:Mon)) (λx4=>let y4:=ix x4 a1 zf;let y3:=zkV x4 a1 a2;let y10:=ap y4.Outs [(zdj y3.Prog y2.Pc).X];let y6:=({y2 with Prog:=y3.Prog,Written:=y3.Written,Live:=y3.Live,Seen:=y3.Seen}:Guest); (cond (ieq y5 7) (oN (zJ y6)<|oN (inb a2<|ln y4.Guests)<|share (up x4 a1 ({y4 with Guests:=(up y4.Guests a2<|zjJ y6)}:Mon)) λx5=>some [aH ({y9 with Mons:=x5}:Host),aB true])<|cond (ilt (ln y4.Outs) 40) (oN (zds y3.Prog y2.Pc)<|oN (few<|ln y10)<|oN (cond (ieq a1 a1) true false)<|share (up x4 a1 ({y4 with Outs:=y10}:Mon)) (λx5=>let y8:=ix x5 a1 zf;let y0:=ix y8.Guests a2 zn;let y7:=({y2 with Prog:=y0.Prog,Written:=y0.Written,Live:=y0.Live,Seen:=y0.Seen}:Guest); (oN (zJ y7)<|oN (inb a2<|ln y8.Guests)<|share (up x5 a1 ({y8 with Guests:=(up y8.Guests a2<|zb4 y7)}:Mon)) λx6=>some [aH ({y9 with Mons:=x6}:Host),aB true])))<|zkX N a0 a1 a2 x4)))<|zkY N a0 a1 a2)<|zkY N a0 a1 a2)
def ziA (N:Nat)(a0:Host)(a1 a2:Int):OA:=
 (oN (zeQ a0 a1)<|oN (zc1 (zgK a0 a1) a2)<|oN (inb a1<|ln (zk a0).Mons)<|share (up (zk a0).Mons a1 ({ (ix (zk a0).Mons a1 zf) with Guests:=(ziI (zgK a0 a1) a2).Guests}:Mon)) λx4=>some [aH ({ (zk a0) with Mons:=x4}:Host),aB true])
def zf2 (N:Nat)(a0:Host)(a1 a2:Int):OA:=
 let y0:=zc0 a0 a1 a2; (cond (ieq y0 5) (cond (ieq y0 5) (zkZ N a1 a0 a2)<|ziA N a0 a1 a2)<|cond (ieq y0 7) (zkZ N a1 a0 a2)<|ziA N a0 a1 a2)
def zyx (N:Nat)(a0:Host)(a1 a2:Int):OA:=
 let y3:=aH<|zk a0;let y2:=zc0 a0 a1 a2;let y0:=(zcr a0 a1).Guests;let y1:=ix y0 a2 zn; (oN (zba a0)<|oN (zeQ a0 a1)<|oN (zdn a0)<|cond (nB<|zdw a0) (some [y3,aB false])<|cond (nB<|zkr a0 a1) (some [y3,aB false])<|oN (zbl a2<|ln y0)<|cond (nB<|zcR a2<|ln y0) (some [y3,aB false])<|oN (inb a2<|ln y0)<|oN (zbk y1)<|cond (ieq y2 0) (some [y3,aB false])<|oN (inb a2<|ln y0)<|oN (zbk y1)<|oN (zbk y1)<|cond (ieq y2 3) (cond (ieq y2 3) (zkW N a0 a1 a2)<|zf2 N a0 a1 a2)<|cond (ieq y2 4) (zkW N a0 a1 a2)<|zf2 N a0 a1 a2)
theorem zQV {h:Host}{m:Int}(hm:hasB m (ln h.Mons)=true):zcr h m=ix h.Mons m mZ:=by unfold zcr;rw[hm];rfl
theorem z4P {N:Nat}{a0:Host}{a1 a2:Int}(hs:SmH a0)(hh:zbK a0 a1 a2=true) :
 zkW N a0 a1 a2=some (zed (zgW (zhM a0 a1 a2 (gOf a0 a1 a2)<|ieq (zG<|gOf a0 a1 a2) 4) a1 a2 (gOf a0 a1 a2)<|ieq (zG<|gOf a0 a1 a2) 4,true)):=by
 obtain⟨g1,g2,g3⟩:=zcS hh;have hx:=zjM hs g2 g3;have k:=zrH (b:=a0.Buffer) (page:=zbc (address<|gOf a0 a1 a2)) (need:=zbW (ieq (zG<|gOf a0 a1 a2) 4)) (io:=false) hs hh;have F:=zld k g2 g3;have eM:=zQV g2;have e3:zc0 a0 a1 a2=zG (gOf a0 a1 a2):=by show zgV (ix (zcr a0 a1).Guests a2 gZ)=_;rw[eM];rfl
 have e4:zhs a0 a1 a2=address (gOf a0 a1 a2):=by show zgx (ix (zcr a0 a1).Guests a2 gZ)=_;rw[eM];rfl
 have e1:zuK a0 a1 a2=(zhM a0 a1 a2 (gOf a0 a1 a2)<|ieq (zG<|gOf a0 a1 a2) 4).1:=by show zre a0 a1 a2 (zbN<|zhs a0 a1 a2) (zcP<|ieq (zc0 a0 a1 a2) 4)=_;rw[e3,e4];rfl
 have e6:zuL a0 a1 a2=(zhM a0 a1 a2 (gOf a0 a1 a2)<|ieq (zG<|gOf a0 a1 a2) 4).2.1:=by show zrf a0 a1 a2 (zbN<|zhs a0 a1 a2) (zcP<|ieq (zc0 a0 a1 a2) 4)=_;rw[e3,e4];rfl
 unfold zkW oN nB
 conv=>zeta
 rw[e1,e3,e4,e6,eM];unfold zgW;refine must rfl (must rfl (must (zbe<|(zM _).2 hs)<|brN (λh=>?_) λh=>?_))
 .rw [show (zhM a0 a1 a2 (gOf a0 a1 a2)<|ieq (zG<|gOf a0 a1 a2) 4).2.2=false from h]
  exact must rfl (must rfl (must (zbe hx)<|must (zA F.hm) (must (zA F.hg) rfl)))
 .rw [show (zhM a0 a1 a2 (gOf a0 a1 a2)<|ieq (zG<|gOf a0 a1 a2) 4).2.2=true from h]
  refine br (λh4=>?_) (λh4=>?_)
  .have kk:=k.shape.1.1;rw[h4] at F kk ⊢;exact must rfl (must (zbe kk)<|must (zbe hx)<|must (zA F.hm) (must (zA F.hg) rfl))
  .rw [h4] at F ⊢;exact must rfl (must rfl (must (zbe hx)<|must (zA F.hm) (must (zA F.hg) rfl)))
theorem z5Y {N:Nat}{a0:Host}{x4:List Mon}{a1 a2:Int}(hx:SmG (gOf a0 a1 a2))(g3:hasB a2 (ln (ix x4 a1 mZ).Guests)=true)(e:zkV x4 a1 a2=zhr a0 a1 a2) :
 zkX N a0 a1 a2 x4=some (zed (zfX {a0 with Mons:=x4} a1 a2<|zbU<|gOf a0 a1 a2,true)):=by
 unfold zkX oN
 conv=>zeta
 rw[e];exact must (zbe hx) (must (zA g3) rfl)
def leftG (x:Guest)(w:Int):Guest:=bif ieq w 7 then held x else zbU x
def zwM (h:Host)(m:Int)(x:Guest)(w:Int):Host:=bif ieq w 7 then h else zhH h m (zb7 x.Prog x.Pc).X
theorem zvk {h:Host}{m:Int}{x:Guest}{w:Int}(hh:ieq w 7=true):leftG x w=held x/\zwM h m x w=h:=by unfold leftG zwM;rw[hh];exact⟨rfl,rfl⟩
theorem zlQ {h:Host}{m:Int}{x:Guest}{w:Int}(hh:ieq w 7=false):leftG x w=zbU x/\zwM h m x w=zhH h m (zb7 x.Prog x.Pc).X:=by unfold leftG zwM;rw[hh];exact⟨rfl,rfl⟩
theorem zUg {h:Host}{m n:Int}(hh:ilt (ln (ix h.Mons m mZ).Outs) 40=true):zhH h m n={h with Mons:=up h.Mons m {ix h.Mons m mZ with Outs:=ap (ix h.Mons m mZ).Outs [n]}}:=by unfold zhH;rw[hh];rfl
theorem zUf {h:Host}{m n:Int}(hh:ilt (ln (ix h.Mons m mZ).Outs) 40=false):zhH h m n=h:=by unfold zhH;rw[hh];rfl
theorem z5Z {N:Nat}{a0:Host}{a1 a2:Int}(hs:SmH a0)(g2:hasB a1 (ln a0.Mons)=true)(g3:hasB a2 (ln (ix a0.Mons a1 mZ).Guests)=true)(eW:zc0 a0 a1 a2=zG (gOf a0 a1 a2)) :
 zkY N a0 a1 a2=some (zed (zfX (zwM a0 a1 (gOf a0 a1 a2)<|zG<|gOf a0 a1 a2) a1 a2<|leftG (gOf a0 a1 a2)<|zG<|gOf a0 a1 a2,true)):=by
 have hx:=zjM hs g2 g3;unfold zkY oN
 conv=>zeta
 rw[eW];refine br (λh7=>?_) (λh7=>br (λh3=>?_) λh3=>?_)
 .rw [(zvk (x:=gOf a0 a1 a2) (h:=a0) (m:=a1) h7).1,(zvk (x:=gOf a0 a1 a2) h7).2];exact must (zbe hx) (must (zA g3) rfl)
 .rw [(zlQ (x:=gOf a0 a1 a2) (h:=a0) (m:=a1) h7).1,(zlQ (x:=gOf a0 a1 a2) h7).2,zUg h3];refine must rfl (must (zOB h3)<|must (zHw _)<|shr<|z5Y hx ?_ ?_)
  .rw [znz g2];exact g3
  .show ix (ix (up a0.Mons a1 _) a1 mZ).Guests a2 gZ=_
   rw[znz g2]
 .rw [(zlQ (x:=gOf a0 a1 a2) (h:=a0) (m:=a1) h7).1,(zlQ (x:=gOf a0 a1 a2) h7).2,zUf h3];exact must (zbe hx) (must (zA g3) rfl)
theorem z5j {h:Host}{m g:Int}{x:Guest}{w:Int}(h6:ieq w 6=false)(h57:ieq w 5=false->ieq w 6=false->ieq w 7=true)(hT:zdD x.Ctl.Traps (zfl w)=false):zjA h m g x w=zfX (zwM (zej h m x w) m x w) m g (leftG x w):=by unfold zjA;cases h7:ieq w 7;{have h5:ieq w 5=true:=(by cases h5:ieq w 5;{have:=h57 h5 h6;rw[h7] at this;cases this};{rfl});obtain⟨e1,e2⟩:=tr3 x x.Ctl.Traps w h6 h7 hT h5;rw[(zlQ (x:=x) (h:=zej h m x w) (m:=m) h7).1,(zlQ (x:=x) h7).2,e1];unfold zgp;rw[e2,h5];rfl};{have h5:ieq w 5=false:=(by have:w=7:=qD h7;rw[this];rfl);rw[(zvk (x:=x) (h:=zej h m x w) (m:=m) h7).1,(zvk (x:=x) h7).2,tr4 x x.Ctl.Traps w h6 h57 hT h5,zAz h5]}
theorem z6c {a0:Host}{x5:List Mon}{a1 a2:Int}(hx:SmG (gOf a0 a1 a2))(g3:hasB a2 (ln (ix x5 a1 mZ).Guests)=true)(e:(ix (ix x5 a1 zf).Guests a2 zn)=gOf a0 a1 a2) :
 (cond (zJ ({ (ix (ix (zk a0).Mons a1 zf).Guests a2 zn) with Prog:=(ix (ix x5 a1 zf).Guests a2 zn).Prog,Written:=(ix (ix x5 a1 zf).Guests a2 zn).Written,Live:=(ix (ix x5 a1 zf).Guests a2 zn).Live,Seen:=(ix (ix x5 a1 zf).Guests a2 zn).Seen}:Guest)) (cond (inb a2<|ln (ix x5 a1 zf).Guests) (share (up x5 a1 ({ (ix x5 a1 zf) with Guests:=(up (ix x5 a1 zf).Guests a2<|zb4 ({ (ix (ix (zk a0).Mons a1 zf).Guests a2 zn) with Prog:=(ix (ix x5 a1 zf).Guests a2 zn).Prog,Written:=(ix (ix x5 a1 zf).Guests a2 zn).Written,Live:=(ix (ix x5 a1 zf).Guests a2 zn).Live,Seen:=(ix (ix x5 a1 zf).Guests a2 zn).Seen}:Guest))}:Mon)) λx6=>some [.agg<|zbf ({ (zk a0) with Mons:=x6}:Host),.one<|.b true]) none) none)=some (zed (zfX {a0 with Mons:=x5} a1 a2<|zbU<|gOf a0 a1 a2,true)):=by
 rw[e];exact must (zbe hx) (must (zA g3) rfl)
theorem z6b {a0:Host}{x4:List Mon}{a1 a2:Int}(hx:SmG (gOf a0 a1 a2))(g2:hasB a1 (ln x4)=true)(g3:hasB a2 (ln (ix x4 a1 mZ).Guests)=true)(e:(ix (ix x4 a1 zf).Guests a2 zn)=gOf a0 a1 a2) :
 (cond (ieq (zG<|gOf a0 a1 a2) 7) (cond (zJ ({ (ix (ix (zk a0).Mons a1 zf).Guests a2 zn) with Prog:=(ix (ix x4 a1 zf).Guests a2 zn).Prog,Written:=(ix (ix x4 a1 zf).Guests a2 zn).Written,Live:=(ix (ix x4 a1 zf).Guests a2 zn).Live,Seen:=(ix (ix x4 a1 zf).Guests a2 zn).Seen}:Guest)) (cond (inb a2<|ln (ix x4 a1 zf).Guests) (share (up x4 a1 ({ (ix x4 a1 zf) with Guests:=(up (ix x4 a1 zf).Guests a2<|zjJ ({ (ix (ix (zk a0).Mons a1 zf).Guests a2 zn) with Prog:=(ix (ix x4 a1 zf).Guests a2 zn).Prog,Written:=(ix (ix x4 a1 zf).Guests a2 zn).Written,Live:=(ix (ix x4 a1 zf).Guests a2 zn).Live,Seen:=(ix (ix x4 a1 zf).Guests a2 zn).Seen}:Guest))}:Mon)) λx5=>some [.agg<|zbf ({ (zk a0) with Mons:=x5}:Host),.one<|.b true]) none) none)<|cond (ilt (ln (ix x4 a1 zf).Outs) 40) (cond (zds (ix (ix x4 a1 zf).Guests a2 zn).Prog (ix (ix (zk a0).Mons a1 zf).Guests a2 zn).Pc) (cond (few<|ln<|ap (ix x4 a1 zf).Outs [(zdj (ix (ix x4 a1 zf).Guests a2 zn).Prog (ix (ix (zk a0).Mons a1 zf).Guests a2 zn).Pc).X]) (cond (cond (ieq a1 a1) true false) (share (up x4 a1 ({ (ix x4 a1 zf) with Outs:=(ap (ix x4 a1 zf).Outs [(zdj (ix (ix x4 a1 zf).Guests a2 zn).Prog (ix (ix (zk a0).Mons a1 zf).Guests a2 zn).Pc).X])}:Mon)) λx5=>cond (zJ ({ (ix (ix (zk a0).Mons a1 zf).Guests a2 zn) with Prog:=(ix (ix x5 a1 zf).Guests a2 zn).Prog,Written:=(ix (ix x5 a1 zf).Guests a2 zn).Written,Live:=(ix (ix x5 a1 zf).Guests a2 zn).Live,Seen:=(ix (ix x5 a1 zf).Guests a2 zn).Seen}:Guest)) (cond (inb a2<|ln (ix x5 a1 zf).Guests) (share (up x5 a1 ({ (ix x5 a1 zf) with Guests:=(up (ix x5 a1 zf).Guests a2<|zb4 ({ (ix (ix (zk a0).Mons a1 zf).Guests a2 zn) with Prog:=(ix (ix x5 a1 zf).Guests a2 zn).Prog,Written:=(ix (ix x5 a1 zf).Guests a2 zn).Written,Live:=(ix (ix x5 a1 zf).Guests a2 zn).Live,Seen:=(ix (ix x5 a1 zf).Guests a2 zn).Seen}:Guest))}:Mon)) λx6=>some [.agg<|zbf ({ (zk a0) with Mons:=x6}:Host),.one<|.b true]) none) none) none) none) none)<|cond (zJ ({ (ix (ix (zk a0).Mons a1 zf).Guests a2 zn) with Prog:=(ix (ix x4 a1 zf).Guests a2 zn).Prog,Written:=(ix (ix x4 a1 zf).Guests a2 zn).Written,Live:=(ix (ix x4 a1 zf).Guests a2 zn).Live,Seen:=(ix (ix x4 a1 zf).Guests a2 zn).Seen}:Guest)) (cond (inb a2<|ln (ix x4 a1 zf).Guests) (share (up x4 a1 ({ (ix x4 a1 zf) with Guests:=(up (ix x4 a1 zf).Guests a2<|zb4 ({ (ix (ix (zk a0).Mons a1 zf).Guests a2 zn) with Prog:=(ix (ix x4 a1 zf).Guests a2 zn).Prog,Written:=(ix (ix x4 a1 zf).Guests a2 zn).Written,Live:=(ix (ix x4 a1 zf).Guests a2 zn).Live,Seen:=(ix (ix x4 a1 zf).Guests a2 zn).Seen}:Guest))}:Mon)) λx5=>some [.agg<|zbf ({ (zk a0) with Mons:=x5}:Host),.one<|.b true]) none) none)=some (zed (zfX (zwM {a0 with Mons:=x4} a1 (gOf a0 a1 a2)<|zG<|gOf a0 a1 a2) a1 a2<|leftG (gOf a0 a1 a2)<|zG<|gOf a0 a1 a2,true)):=by
 rw[e];refine br (λh7=>?_) (λh7=>br (λh3=>?_) λh3=>?_)
 .rw [(zvk (x:=gOf a0 a1 a2) (h:={a0 with Mons:=x4}) (m:=a1) h7).1,(zvk (x:=gOf a0 a1 a2) h7).2];exact must (zbe hx) (must (zA g3) rfl)
 .rw [(zlQ (x:=gOf a0 a1 a2) (h:={a0 with Mons:=x4}) (m:=a1) h7).1,(zlQ (x:=gOf a0 a1 a2) h7).2,zUg (h:={a0 with Mons:=x4}) h3];refine must rfl (must (zOB h3)<|must (zHw _)<|shr<|z6c hx ?_ ?_)
  .rw [znz (h:={a0 with Mons:=x4}) g2];exact g3
  .show ix (ix (up x4 a1 _) a1 mZ).Guests a2 gZ=_
   rw[znz (h:={a0 with Mons:=x4}) g2];exact e
 .rw [(zlQ (x:=gOf a0 a1 a2) (h:={a0 with Mons:=x4}) (m:=a1) h7).1,(zlQ (x:=gOf a0 a1 a2) h7).2,zUf (h:={a0 with Mons:=x4}) h3];exact must (zbe hx) (must (zA g3) rfl)
theorem tf (b:Bool):b=false\/b=true:=by cases b<;>simp
theorem z6a {N:Nat}{a0:Host}{a1 a2:Int}(hs:SmH a0)(g2:hasB a1 (ln a0.Mons)=true)(g3:hasB a2 (ln (ix a0.Mons a1 mZ).Guests)=true)(eW:zc0 a0 a1 a2=zG (gOf a0 a1 a2))(h6:ieq (zG<|gOf a0 a1 a2) 6=false)(h57:ieq (zG<|gOf a0 a1 a2) 5=false->ieq (zG<|gOf a0 a1 a2) 6=false->ieq (zG<|gOf a0 a1 a2) 7=true) :
 zkZ N a1 a0 a2=some (zed (zjA a0 a1 a2 (gOf a0 a1 a2)<|zG<|gOf a0 a1 a2,true)):=by
 have hx:=zjM hs g2 g3;have T3:=z5Z (N:=N) hs g2 g3 eW;have hn6:ine (zG<|gOf a0 a1 a2) 6=true:=by rw[zjU,h6];rfl
 unfold zkZ oN
 conv=>zeta
 rw[eW];refine must (zA g2) (must (zA g3) (must rfl (must rfl ?_)));rw[show ieq (zi7 (ix a0.Mons a1 zf).Traps (zhr a0 a1 a2).Ctl.Traps<|zhF<|zG<|gOf a0 a1 a2) 1=zdD (gOf a0 a1 a2).Ctl.Traps (zfl<|zG<|gOf a0 a1 a2) from z4X _ _ _]
 refine br (λhT=>?_) (λhT=>?_)
 .obtain⟨e1,e2⟩:=tr2 (gOf a0 a1 a2) (gOf a0 a1 a2).Ctl.Traps _ h6 h57 hT;have e0:zej a0 a1 (gOf a0 a1 a2) (zG<|gOf a0 a1 a2)=a0:=by unfold zej;rw[hn6,z4Y hT];rfl
  unfold zjA;rw[e0,zII e2,e1];exact must (zbe hx) (must (zA g3) rfl)
 .rw [z5j h6 h57 hT];have e0:zej a0 a1 (gOf a0 a1 a2) (zG<|gOf a0 a1 a2)=bif ieq (zlG (ix a0.Mons a1 mZ).Traps (gOf a0 a1 a2).Ctl.Traps<|zfl<|zG<|gOf a0 a1 a2) 2 then owned a0 a1 else a0:=by unfold zej;rw[hn6];rfl
  rw[e0];refine br (λhO=>?_) (λhO=>?_)
  .rw [show ieq (zlG (ix a0.Mons a1 mZ).Traps (gOf a0 a1 a2).Ctl.Traps<|zfl<|zG<|gOf a0 a1 a2) 2=true from hO]
   simp only[cT];unfold owned;refine br (λh0=>?_) (λh0=>?_)
   rotate_left
   .rw [h0];exact T3
   rw[h0];refine shr ?_;have eM:=znz g2 {ix a0.Mons a1 mZ with Own:=zD .i64 (ix a0.Mons a1 mZ).Own 1};have g2':hasB a1 (ln<|up a0.Mons a1 {ix a0.Mons a1 mZ with Own:=zD .i64 (ix a0.Mons a1 mZ).Own 1})=true:=zeL g2;have e5:zkV (up a0.Mons a1 {ix a0.Mons a1 mZ with Own:=zD .i64 (ix a0.Mons a1 mZ).Own 1}) a1 a2=zhr a0 a1 a2:=by show ix (ix (up a0.Mons a1 _) a1 mZ).Guests a2 gZ=_;rw[eM]
   refine z6b hx g2' ?_ e5;rw[eM];exact g3
  .rw [show ieq (zlG (ix a0.Mons a1 mZ).Traps (gOf a0 a1 a2).Ctl.Traps<|zfl<|zG<|gOf a0 a1 a2) 2=false from hO]
   exact T3
theorem zZP {N:Nat}{a0:Host}{a1 a2:Int}(hs:SmH a0)(hh:zbK a0 a1 a2=true)(h0:ieq (zG<|gOf a0 a1 a2) 0=false){y:Guest}{o:List Int}(hy:(stepped (zy a0 a1) a2 (gOf a0 a1 a2)<|zG<|gOf a0 a1 a2).Guests=up (ix a0.Mons a1 mZ).Guests a2 y)(hb:SmB (zy a0 a1)) :
 ziA N a0 a1 a2=some (zed (zfX a0 a1 a2 y,true)):=by
 obtain⟨g1,g2,g3⟩:=zcS hh;have hsb:=zua g1 g2;have eg:(zy a0 a1).Guests=(ix a0.Mons a1 mZ).Guests:=by unfold zy;rw[g2];rfl
 have hgg:hasB a2 (ln (zy a0 a1).Guests)=true:=by rw[eg];exact g3
 have eA:gAt (zy a0 a1) a2=gOf a0 a1 a2:=by unfold gAt;rw[hgg,eg];rfl
 have hcan:zf3 (zy a0 a1) a2=true:=by unfold zf3;rw[hgg,hsb,eA,h0];rfl
 have eS:zd0 (zy a0 a1) a2=stepped (zy a0 a1) a2 (gOf a0 a1 a2) (zG<|gOf a0 a1 a2):=by unfold zd0;rw[hcan,eA];rfl
 have hG:(ziI (zgK a0 a1) a2).Guests=up (ix a0.Mons a1 mZ).Guests a2 y:=by show (zd0 (zy a0 a1) a2).Guests=_;rw[eS,hy]
 unfold ziA oN;rw[hG];exact must (zbe<|(zM _).2 hs) (must (zbe hb) (must (zA g2) rfl))
theorem zE6 {h:Host}{m:Int}(hs:SmH h)(hm:hasB m (ln h.Mons)=true):SmB (zy h m):=by
 have g1:=hs.2.1.2 _ (zby hm mZ);have hP:∀(mm:List (List Int)) (q:Int),SmM mm->(zcp mm q).length<=1048576:=λmm q h=>zRG h;have hpg:∀p:Int,(zcm h m p).length<=1048576:=by intro p;unfold zcm;cases hasB m (ln h.Mons);{exact(by decide:zw9.length<=1048576)};{cases hasB p 8;{exact(by decide:zw9.length<=1048576)};{simp only [cT];cases ine (zbs (ix h.Mons m zf).Outer p).Page (-1);{exact hP _ _ g1.2.1};{exact hP _ _ hs.1}}}
 have hN:∀(n i:Nat),∀x∈zcq h m n i,x.length<=1048576:=by
  intro n
  induction n with
  |zero=>intro i x hx;cases hx
  |succ n ih=>intro i x hx;rcases qI.1 hx with rfl|hx;{exact hpg _};{exact ih (i+1) x hx}
 unfold zy;rw[hm];exact⟨⟨by show (zcq h m 8 0).length<=1048576;rw[zwS];decide,hN 8 0⟩,g1.2.2.2.1,g1.2.2.2.2.1⟩
theorem zuj (b:Bare)(g:Int)(x:Guest):(zdP b g x).Guests=up b.Guests g x:=rfl
theorem zKp (a0:Host)(a1 a2:Int)(hb:zbC big [aH a0,aI a1,aI a2])(hc:zcH a0 a1 a2=true):∃N,zyx N a0 a1 a2=some [aH (zb9 a0 a1 a2),aB (zca a0 a1 a2)]:=by
 have hs:=(zM a0).1 (zK.1 hc);refine⟨0,?_⟩;show _=some (zed (zbL a0 a1 a2));unfold zyx oN nB;conv=>zeta
 refine must (zbe ((zM _).2 hs)) (must (zbe ((zM _).2 hs)) (must rfl (brN (fun h1=>?_) (fun h1=>brN (fun h2=>?_) (fun h2=>?_)))));{rw [zhX (zJe h1)];rfl};{rw [zhX (zJf h2)];rfl};have eM:=zQV (h:=a0) (m:=a1) h2;have eW:zc0 a0 a1 a2=zG (gOf a0 a1 a2):=(by show zgV (ix (zcr a0 a1).Guests a2 gZ)=_;rw[eM];rfl);rw[eM,eW];refine must rfl (brN (fun h3=>?_) (fun h3=>?_));{rw [zhX (zJg h3)];rfl};have hh:=zJh h1 h2 h3;have g2:hasB a1 (ln a0.Mons)=true:=h2;have g3:hasB a2 (ln (ix a0.Mons a1 mZ).Guests)=true:=h3;have hb:=zE6 hs g2;have eg:(zy a0 a1).Guests=(ix a0.Mons a1 mZ).Guests:=(by unfold zy;rw[g2];rfl);rw[zis hh];unfold zIC;refine must (zA g3) (must rfl (br (fun h0=>?_) (fun h0=>must (zA g3) (must rfl (must rfl (br (fun q3=>must q3 ?_) (fun q3=>br (fun q4=>?_) (fun q4=>?_))))))));{rw [h0];rfl};{have e:zG (gOf a0 a1 a2)=3:=qD q3;have T:=z4P (N:=0) hs hh;rw[T];rw[e];rfl};{have e:zG (gOf a0 a1 a2)=4:=qD q4;have T:=z4P (N:=0) hs hh;rw[T];rw[e];rfl}
 .have fin:∀{R:Host×Bool},zf2 0 a0 a1 a2=some (zed R)->R=(bif ieq (zG (gOf a0 a1 a2)) 0 then (a0,false) else (bif ieq (zG (gOf a0 a1 a2)) 1 then (zfX a0 a1 a2 (interrupted (gOf a0 a1 a2)),true) else (bif ieq (zG (gOf a0 a1 a2)) 2 then (zfX a0 a1 a2 (plainly (gOf a0 a1 a2)),true) else
   (cond (cond (ieq (zG (gOf a0 a1 a2)) 3) true (ieq (zG (gOf a0 a1 a2)) 4)) (zgW (zhM a0 a1 a2 (gOf a0 a1 a2) (ieq (zG (gOf a0 a1 a2)) 4)) a1 a2 (gOf a0 a1 a2) (ieq (zG (gOf a0 a1 a2)) 4),true) (zjA a0 a1 a2 (gOf a0 a1 a2) (zG (gOf a0 a1 a2)),true)))))->zf2 0 a0 a1 a2=_:=fun h e=>h.trans (congrArg (fun x=>some (zed x)) e)
  have i6:ieq (zG (gOf a0 a1 a2)) 5=false->ieq (zG (gOf a0 a1 a2)) 7=false->zf2 0 a0 a1 a2=ziA 0 a0 a1 a2:=by
   intro h5 h7;unfold zf2;conv=>zeta
   rw[eW];exact zcy h5 (zcy h7 rfl)
  rcases tf (ieq (zG (gOf a0 a1 a2)) 1) with w1|w1
  .rcases tf (ieq (zG (gOf a0 a1 a2)) 2) with w2|w2
   .rcases tf (ieq (zG (gOf a0 a1 a2)) 6) with w6|w6
    .have h57:ieq (zG (gOf a0 a1 a2)) 5=false->ieq (zG (gOf a0 a1 a2)) 6=false->ieq (zG (gOf a0 a1 a2)) 7=true:=fun h5 h6=>zWE _ h0 w1 w2 q3 q4 h5 h6;have T:=z6a (N:=0) hs g2 g3 eW w6 h57;refine fin (R:=(zjA a0 a1 a2 (gOf a0 a1 a2) (zG (gOf a0 a1 a2)),true)) ?_ (by rw[h0,w1,w2,q3,q4];rfl);unfold zf2;conv=>zeta
     rw[eW];cases w5:ieq (zG (gOf a0 a1 a2)) 5;{exact zcy rfl (must (h57 w5 w6) T)};{exact must rfl (must rfl T)}
    {have e:zG (gOf a0 a1 a2)=6:=qD w6;refine fin (R:=(zfX a0 a1 a2 (zfm (gOf a0 a1 a2) (gOf a0 a1 a2).Ctl.Traps (zG (gOf a0 a1 a2))),true)) ?_ ?_;{rw [i6 (by rw[e];rfl) (by rw[e];rfl)];refine zZP (o:=[]) hs hh h0 ?_ hb;unfold stepped zpi;rw[w1,w2,q3,q4,(tr1 (gOf a0 a1 a2) (gOf a0 a1 a2).Ctl.Traps _ w6).2];show (zdP (zy a0 a1) a2 _).Guests=_;rw[zuj,eg]};{rw [h0,w1,w2,q3,q4];unfold zjA zej;rw[zII (tr1 (gOf a0 a1 a2) (gOf a0 a1 a2).Ctl.Traps _ w6).2,zjU,w6];rfl}}
   {have e:zG (gOf a0 a1 a2)=2:=qD w2;refine fin (R:=(zfX a0 a1 a2 (plainly (gOf a0 a1 a2)),true)) ?_ (by rw[h0,w1,w2];rfl);rw[i6 (by rw[e];rfl) (by rw[e];rfl)];refine zZP (o:=[]) hs hh h0 ?_ hb;unfold stepped;rw[w1,w2];show (zdP (zy a0 a1) a2 _).Guests=_;rw[zuj,eg]}
  {have e:zG (gOf a0 a1 a2)=1:=qD w1;refine fin (R:=(zfX a0 a1 a2 (interrupted (gOf a0 a1 a2)),true)) ?_ (by rw[h0,w1];rfl);rw[i6 (by rw[e];rfl) (by rw[e];rfl)];refine zZP (o:=[]) hs hh h0 ?_ hb;unfold stepped;rw[w1];show (zdP (zy a0 a1) a2 _).Guests=_;rw[zuj,eg]}
theorem zD5:vJ 22 zvv:=hF3 zMg zo zbS zfQ (zx []) zKp
def z1B:zS:=[(22,zvv)]++zXn
theorem zZx:zL z1B:=zh zD5 zMg
def zVh:zS:=[(90,zhU),(197,zhU)]++z1B
theorem zDR:zL zVh:=zh zti (zh ztn zZx)
def cnt (l:List Mon):List Nat:=l.map λx=>x.Guests.length
theorem z4m {l l':List Mon}(h:zel l'=zel l):cnt l'=cnt l:=by have e:∀l:List Mon,cnt l=(zel l).map List.length:=λl=>(by simp[cnt,zel]);rw[e,e,h]
theorem zPa {l:List Mon}{m:Int}{x:Mon}(hm:hasB m (ln l)=true)(hx:x.Guests.length=(ix l m mZ).Guests.length):cnt (up l m x)=cnt l:=by obtain⟨k,rfl,hk⟩:=zdX (n:=l.length) hm;unfold cnt up;rw[List.map_set,kV,hx,zbg hk];have:=@u0 _ (l.map λx=>x.Guests.length) k (by simpa using hk);simpa using this
theorem z2H {l l':List Mon}(h:cnt l'=cnt l):l'.length=l.length:=by have:=congrArg List.length h;simpa [cnt] using this
theorem z4n {l l':List Mon}(h:cnt l'=cnt l)(m:Int):(ix l' m mZ).Guests.length=(ix l m mZ).Guests.length:=by have h2:(cnt l')[m.toNat]?=(cnt l)[m.toNat]?:=(by rw[h]);unfold cnt at h2;rw[qO,qO]at h2;unfold ix;simp only[j4];cases h3:l'[m.toNat]? <;> cases h4:l[m.toNat]? <;> rw [h3,h4]at h2<;>simp at h2 ⊢;exact h2
theorem z3B (h:Host)(m p:Int):(zdk h m p).Memory=h.Memory:=(zgu (zeR h m p) m p noSlot).2
theorem z3A (h:Host):(zc2 h).Memory=h.Memory:=by unfold zc2;cases ieq (ln<|zce h) 0;{rfl};{exact z3B _ _ _}
theorem z3z (m:List (List Int))(p:Int)(c:List Int):(ziu m p c).length=m.length:=by unfold ziu;cases hasB p (ln m);{rfl};{cases zcn c;{rfl};{simp}}
theorem z3x (m:List (List Int))(p c v:Int):(zbB m p c v).length=m.length:=by unfold zbB;cases zf0 m p c;{rfl};{cases zi v 0 99;{rfl};{simp}}
theorem zVV (h:Host)(m p:Int):(fetched h m p).Memory.length=h.Memory.length:=by unfold fetched zfb;rw[(zgu _ _ _ _).2];unfold landing;rw[z3z,z3A]
theorem zQU (h:Host)(m p n:Int):(zjl h m p n).Memory=h.Memory:=by unfold zjl;cases ieq (wand .i64 n 2) 0;{unfold opened;cases ieq (wand .i64 (ix (ix (zbx h m p).Mons m mZ).Outer p sZ).Rights 2) 0;{rfl};{exact(zgu _ _ _ _).2}};{rfl}
theorem zX4 (h:Host)(m p n:Int):(mended h m p n).Memory.length=h.Memory.length:=by unfold mended;cases ieq (ix (ix h.Mons m mZ).Outer p sZ).Page (-1);{exact congrArg List.length (zQU _ _ _ _)};{exact(congrArg List.length<|zQU _ _ _ _).trans (zVV _ _ _)}
theorem zX5 (h:Host)(m g p:Int)(io:Bool):(ztx h m g p io).Memory=h.Memory:=by cases io<;>rfl
theorem zZ1 (h:Host)(b:List Entry)(m g page need q:Int)(io:Bool):(zgf h b m g page need q io).1.Memory.length=h.Memory.length:=by unfold zgf;cases zhS b m g page need;{cases zer h m g page need;{exact congrArg List.length (zX5 _ _ _ _ _)};{exact(congrArg List.length<|zX5 _ _ _ _ _).trans (zX4 h m q need)}};{rfl}
theorem z3y (h:Host)(b:List Entry)(m g page need:Int)(io:Bool):(lookOf h b m g page need io).1.Memory.length=h.Memory.length:=by unfold lookOf;cases zbO h m g page need;{rfl};{simp only [cT];rw[zZ1];cases ieq need 2<;>rfl}
structure Keep (h r:Host):Prop where
 shape:Shape r
 cnt:cnt r.Mons=cnt h.Mons
 mem:r.Memory.length=h.Memory.length
theorem Keep.has {h r:Host}(k:Keep h r){m:Int}(hm:hasB m (ln h.Mons)=true):hasB m (ln r.Mons)=true:=by rw[ln,z2H k.cnt];exact hm
theorem Keep.hg {h r:Host}(k:Keep h r){m g:Int}(hg:hasB g (ln (ix h.Mons m mZ).Guests)=true):hasB g (ln (ix r.Mons m mZ).Guests)=true:=by rw[ln,z4n k.cnt];exact hg
theorem Keep.trans {a b c:Host}(h:Keep a b)(k:Keep b c):Keep a c:=⟨k.shape,k.cnt.trans h.cnt,k.mem.trans h.mem⟩
theorem Keep.rfl' {h:Host}(hs:Shape h):Keep h h:=⟨hs,rfl,rfl⟩
theorem zm3 {h:Host}{m g:Int}{x:Guest}(hs:Shape h)(hm:hasB m (ln h.Mons)=true)(hx:SmG x):Keep h (zfX h m g x):=⟨zWs hs hm hx,zPa hm (by simp),rfl⟩
theorem zzI {h:Host}{b:List Entry}{m g page need:Int}{io:Bool}(hs:SmH h)(hh:zbK h m g=true):Keep h (lookOf h b m g page need io).1:=by have k:=zrH (b:=b) (page:=page) (need:=need) (io:=io) hs hh;exact⟨k.shape,z4m k.gs,z3y _ _ _ _ _ _ _⟩
theorem zXN {h:Host}{p c v:Int}(hs:Shape h):Keep h {h with Memory:=zbB h.Memory p c v}:=⟨zMQ hs<|zw4 hs.1.1,rfl,z3x _ _ _ _⟩
theorem zVL {h:Host}{m:Int}(hs:Shape h)(hm:hasB m (ln h.Mons)=true):Keep h (owned h m):=by obtain⟨g1,g2⟩:=zco hs hm;unfold owned;cases ilt (ix h.Mons m mZ).Own 1000000000;{exact Keep.rfl' hs};{exact⟨zir hs g1 g2,zPa hm rfl,rfl⟩}
theorem zVK {h:Host}{m n:Int}(hs:Shape h)(hm:hasB m (ln h.Mons)=true):Keep h (zhH h m n):=by obtain⟨g1,g2⟩:=zco hs hm;unfold zhH;cases h3:ilt (ln (ix h.Mons m mZ).Outs) 40;{exact Keep.rfl' hs};{have h4:=qD h3;simp only[ln]at h4;refine⟨zir hs ⟨g1.1,g1.2.1,g1.2.2.1,g1.2.2.2.1,?_,g1.2.2.2.2.2⟩ g2,zPa hm rfl,rfl⟩;simp[ap];omega}
theorem zXP {h:Host}{m g:Int}{x:Guest}{w:Int}(hs:Shape h)(hm:hasB m (ln h.Mons)=true)(hx:SmG x):Keep h (zjA h m g x w):=by have k1:Keep h (zej h m x w):=(by unfold zej;cases (cond (ine w 6) (ieq (zlG (ix h.Mons m mZ).Traps x.Ctl.Traps<|zfl w) 2) false);{exact Keep.rfl' hs};{exact zVL hs hm});have k2:Keep (zej h m x w) (zgp (zej h m x w) m x w):=(by unfold zgp;cases (cond (zgJ x.Ctl.Traps w) (ieq w 5) false);{exact Keep.rfl' k1.shape};{exact zVK k1.shape (k1.has hm)});have k3:=k1.trans k2;exact k3.trans (zm3 k3.shape (k3.has hm)<|zAu _ _ hx)
theorem zXO {h:Host}{m g:Int}(hs:SmH h)(hh:zbK h m g=true):Keep h (zbL h m g).1:=by obtain⟨g1,g2,g3⟩:=zcS hh;have hx:=zjM hs g2 g3;have hS:=(ze3 hs g1).1;rw[zis hh];unfold zIC;cases ieq (zG<|gOf h m g) 0;{cases ieq (zG<|gOf h m g) 1;{cases ieq (zG<|gOf h m g) 2;{cases (cond (ieq (zG<|gOf h m g) 3) true<|ieq (zG<|gOf h m g) 4);{exact zXP hS g2 hx};{have k:=zzI (b:=h.Buffer) (page:=zbc (address<|gOf h m g)) (need:=zbW (ieq (zG<|gOf h m g) 4)) (io:=false) hs hh;show Keep h (zgW (zhM h m g (gOf h m g)<|ieq (zG<|gOf h m g) 4) m g (gOf h m g)<|ieq (zG<|gOf h m g) 4);unfold zgW;cases (zhM h m g (gOf h m g)<|ieq (zG<|gOf h m g) 4).2.2;{exact k.trans (zm3 k.shape (k.has g2) hx)};{cases ieq (zG<|gOf h m g) 4;{have k:=zzI (b:=h.Buffer) (page:=zbc (address<|gOf h m g)) (need:=zbW false) (io:=false) hs hh;exact k.trans (zm3 k.shape (k.has g2)<|zIx _ hx)};{have k:=zzI (b:=h.Buffer) (page:=zbc (address<|gOf h m g)) (need:=zbW true) (io:=false) hs hh;have k2:=zXN (p:=(zhM h m g (gOf h m g) true).2.1) (c:=zdd (address<|gOf h m g)) (v:=(gOf h m g).A) k.shape;have k3:=k.trans k2;exact k3.trans (zm3 k3.shape (k3.has g2)<|zkR hx)}}}};{exact zm3 hS g2 (zDn hx)}};{exact zm3 hS g2 (zUt hx)}};{exact Keep.rfl' hS}
structure Same (h r:Host):Prop where
 sm:SmH r
 cnt:cnt r.Mons=cnt h.Mons
 mem:r.Memory.length=h.Memory.length
 st:r=h\/Shape r
theorem Same.rfl' {h:Host}(hs:SmH h):Same h h:=⟨hs,rfl,rfl,.inl rfl⟩
theorem Same.trans {a b c:Host}(h:Same a b)(k:Same b c):Same a c:=⟨k.sm,k.cnt.trans h.cnt,k.mem.trans h.mem,by
 rcases k.st with e|e
 .rw [e];exact h.st
 .exact .inr e⟩
theorem zMO {h:Host}(m g:Int)(hs:SmH h):Same h (zbL h m g).1:=by cases hh:zbK h m g;{rw [zhX hh];exact Same.rfl' hs};{have k:=zXO hs hh;exact⟨k.shape.1,k.cnt,k.mem,.inr k.shape⟩}
def tick (t:Int×Host)(m g:Int):Int×Host:=(cond ((zbL t.2 m g).2) (zD .i64 t.1 1) t.1,(zbL t.2 m g).1)
def zdW (m:Int):Nat->Nat->Int×Host->Int×Host
 | 0,_,t=>t
 |n+1,g,t=>zdW m n (g+1) (tick t m (g:Int))
def zgs:List Nat->Nat->Int×Host->Int×Host
 |[],_,t=>t
 |c::l,m,t=>zgs l (m+1) (zdW (m:Int) c 0 t)
def zbP (h:Host):Int×Host:=zgs (cnt h.Mons) 0 (0,h)
theorem zAq {t:Int×Host}(m g:Int)(hs:SmH t.2):Same t.2 (tick t m g).2:=zMO m g hs
theorem zw0 (m:Int):∀(n g:Nat) (t:Int×Host),SmH t.2->Same t.2 (zdW m n g t).2
 | 0,_,_,hs=>Same.rfl' hs
 |n+1,g,t,hs=>(zAq m (g:Int) hs).trans (zw0 m n (g+1) _ (zAq m (g:Int) hs).sm)
theorem zMN:∀(l:List Nat) (m:Nat) (t:Int×Host),SmH t.2->Same t.2 (zgs l m t).2
 |[],_,_,hs=>Same.rfl' hs
 |c::l,m,t,hs=>(zw0 (m:Int) c 0 t hs).trans (zMN l (m+1) _ (zw0 (m:Int) c 0 t hs).sm)
theorem zrA {h:Host}(hs:SmH h):Same h (zbP h).2:=zMN _ 0 (0,h) hs
def zRm (t:Int×Host):OA:=some [AV.agg<|zbf t.2,AV.one<|.i .i64 t.1]
@[simp] abbrev zev (h:Host):Host:=(zbP h).2
@[simp] abbrev zmh (h:Host):Int:=(zbP h).1
def znC:Run:=rF1 dH λb=>(zba b,[aH<|zev b,aI<|zmh b])
def zxb (N:Nat)(a0:Host):OA:=
 (oN (zba a0)<|iter (σ:=(Int×Int×Int×lM×lN×lE×lE×lM×lN×lE×lE×lM×lN×lE×lE×Unit)) N (λr2 s3=>let y17:=s3.2.2.2.2.2.2.2.2.2.2.2.2.1;let y16:=s3.2.2.2.2.2.2.2.2.2.2.2.2.2.1;let y14:=s3.2.2.2.2.2.2.2.2.2.2.2.2.2.2.1; (cond (ilt s3.2.2.1 s3.2.1) (oN (inb s3.2.2.1<|ln s3.2.2.2.2.1)<|iter (σ:=(Int×Int×Int×Int×Int×Int×lM×lN×lE×lE×lM×lN×lE×lE×lM×lN×lE×lE×Unit)) N (λr4 s5=>let y15:=s5.2.2.2.2.2.2.1;let y13:=s5.2.2.2.2.2.2.2.2.2.2.2.2.2.2.1;let y12:=s5.2.2.2.2.2.2.2.1;let y11:=s5.2.2.2.2.2.2.2.2.2.2.2.2.2.2.2.1;let y10:=s5.2.2.2.2.2.2.2.2.2.2.2.2.2.2.2.2.1;let y9:=s5.2.2.2.2.2.2.2.2.1;let y8:=s5.2.2.2.2.2.2.2.2.2.2.2.2.2.2.2.2.2.1;let y7:=s5.2.2.2.2.2.2.2.2.2.1;let y6:=s5.2.2.2.2.2.2.2.2.2.2.1;let y5:=s5.2.2.2.2.2.2.2.2.2.2.2.1;let y4:=s5.2.2.2.2.2.2.2.2.2.2.2.2.1;let y3:=s5.2.2.2.2.2.2.2.2.2.2.2.2.2.1;let y2:=s5.2.2.2.2.2.1;let y0:=(⟨y13,y11,y10,y8⟩:Host);let y1:=zb9 y0 s5.2.1 y2; (cond (ilt y2 s5.2.2.2.2.1) (oN (zcH y0 s5.2.1 y2)<|cond (zca y0 s5.2.1 y2) (r4 (zD .i64 s5.1 1,s5.2.1,s5.2.2.1,s5.2.2.2.1,s5.2.2.2.2.1,zD .i64 y2 1,y15,y12,y9,y7,y6,y5,y4,y3,y1.Memory,y1.Mons,y1.Buffer,y1.IoBuffer,()))<|r4 (s5.1,s5.2.1,s5.2.2.1,s5.2.2.2.1,s5.2.2.2.2.1,zD .i64 y2 1,y15,y12,y9,y7,y6,y5,y4,y3,y1.Memory,y1.Mons,y1.Buffer,y1.IoBuffer,()))<|r2 (s5.1,s5.2.2.1,zD .i64 s5.2.2.2.1 1,y15,y12,y9,y7,y6,y5,y4,y3,y13,y11,y10,y8,()))) (s3.1,s3.2.2.1,s3.2.1,s3.2.2.1,ln (ix s3.2.2.2.2.1 s3.2.2.1 zf).Guests,0,s3.2.2.2.1,s3.2.2.2.2.1,s3.2.2.2.2.2.1,s3.2.2.2.2.2.2.1,s3.2.2.2.2.2.2.2.1,s3.2.2.2.2.2.2.2.2.1,s3.2.2.2.2.2.2.2.2.2.1,s3.2.2.2.2.2.2.2.2.2.2.1,s3.2.2.2.2.2.2.2.2.2.2.2.1,y17,y16,y14,()))<|some [aH (⟨s3.2.2.2.2.2.2.2.2.2.2.2.1,y17,y16,y14⟩:Host),aI s3.1])) (0,ln a0.Mons,0,a0.Memory,a0.Mons,a0.Buffer,a0.IoBuffer,[],[],[],[],(zk a0).Memory,(zk a0).Mons,(zk a0).Buffer,(zk a0).IoBuffer,()))
def zIK:=zx [(27,0,{n:=43,tm:=[(1,.lp 0 0),(2,.lp 1 0),(4,.lp 2 0),(5,ti),(14,ti),(15,ti)],lo:=[(0,[.sl 0 [],.sl 1 [],.sl 2 [],.sl 3 []]),(1,[.sl 4 [],.sl 5 [],.sl 6 [],.sl 7 []]),(2,[.sl 8 [],.sl 9 [],.sl 10 [],.sl 11 []])],ro:=[(0,.sl .int,false),(1,.mon,false),(2,.entry,false),(3,.entry,false),(4,.sl .int,true),(5,.mon,true),(6,.entry,true),(7,.entry,true),(8,.sl .int,true),(9,.mon,true),(10,.entry,true),(11,.entry,true)]}),(27,2,{n:=43,tm:=[(1,.lp 0 0),(2,.lp 1 0),(4,.lp 2 0),(5,ti),(6,ti),(14,ti),(15,ti),(24,ti),(25,ti)],lo:=[(0,[.sl 0 [],.sl 1 [],.sl 2 [],.sl 3 []]),(1,[.sl 4 [],.sl 5 [],.sl 6 [],.sl 7 []]),(2,[.sl 8 [],.sl 9 [],.sl 10 [],.sl 11 []])],ro:=[(0,.sl .int,false),(1,.mon,false),(2,.entry,false),(3,.entry,false),(4,.sl .int,true),(5,.mon,true),(6,.entry,true),(7,.entry,true),(8,.sl .int,true),(9,.mon,true),(10,.entry,true),(11,.entry,true)]})]
theorem zY7 {l:List Mon}{i:Nat}(hi:i<l.length):(cnt l).drop i=(ix l (i:Int) mZ).Guests.length::(cnt l).drop (i+1):=by have hi':i<(cnt l).length:=(by simpa [cnt] using hi);rw[j7 hi',zbg hi];simp[cnt]
theorem cnt_end (l:List Mon):(cnt l).drop l.length=[]:=uW (by simp[cnt])
theorem zHC (a0:Host)(hc:zba a0=true):∃N,zxb N a0=some [aH<|zev a0,aI<|zmh a0]:=by
 have hs:=(zM a0).1 (zK.1 hc);have hl:=zct hs.2.1.1;refine zb0 λN hNN=>?_;unfold zxb oN;conv=>zeta
 refine must (zbe<|(zM _).2 hs) ?_;show _=zRm (zbP a0)
 refine(zoV a0.Mons.length (λi (t:Int×Host)=>(t.1,ln a0.Mons,(i:Int),a0.Memory,a0.Mons,a0.Buffer,a0.IoBuffer,[],[],[],[],t.2.Memory,t.2.Mons,t.2.Buffer,t.2.IoBuffer,())) _
  (λ_ t=>SmH t.2) (λi t=>zRm (zgs ((cnt a0.Mons).drop i) i t)) (λi t rec hi hI hr=>?_) (λt rec hI=>?_) N 0 (0,a0) hs (jS _) (hNN hl.1)).trans rfl
 .have hg:(ix a0.Mons (i:Int) mZ).Guests.length<=big:=by rw[zbg hi];exact(zct (hs.2.1.2 _<|jG hi).2.2.2.1.1).1
  refine must (zbv hi) (must (zY hi) ?_);rw[zY7 hi];refine(zoV (ix a0.Mons (i:Int) mZ).Guests.length (λj (t:Int×Host)=>(t.1,(i:Int),ln a0.Mons,(i:Int),ln (ix a0.Mons (i:Int) mZ).Guests,(j:Int),a0.Memory,a0.Mons,a0.Buffer,a0.IoBuffer,[],[],[],[],t.2.Memory,t.2.Mons,t.2.Buffer,t.2.IoBuffer,())) _
   (λ_ t=>SmH t.2) (λj t=>zRm (zgs ((cnt a0.Mons).drop (i+1)) (i+1)<|zdW (i:Int) ((ix a0.Mons (i:Int) mZ).Guests.length-j) j t)) (λj t rec1 hj hJ hr1=>?_) (λt rec1 hJ=>?_) N 0 t hI (jS _) (hNN hg)).trans rfl
  {have e:(ix a0.Mons (i:Int) mZ).Guests.length-j=((ix a0.Mons (i:Int) mZ).Guests.length-(j+1))+1:=(by omega);have q:=hr1 (tick t (i:Int) (j:Int)) (zAq (i:Int) (j:Int) hJ).sm;refine must (zbv hj) (must (zbe<|(zM _).2 hJ) ?_);rw[e];simp only[zdW,zU hj hg];rw[<- q];unfold tick;refine br (λh=>?_) (λh=>?_);{rw [show (zbL t.2 (i:Int) (j:Int)).2=true from h];rfl};{rw [show (zbL t.2 (i:Int) (j:Int)).2=false from h];rfl}};{refine zcy zbm ?_;simp only[kQ,zdW,zU hi hl.1];exact hr t hJ}
 {refine zcy zbm ?_;rw[cnt_end];rfl}
theorem zq5:vJ 27 znC:=kF1 zDR zo zbS zfQ zIK zHC
def z4x:zS:=[(27,znC)]++zVh
theorem zXm:zL z4x:=zh zq5 zDR
def zbZ:Nat->Int×Host->Int×Host
 | 0,t=>t
 |n+1,t=>zbZ n (zD .i64 t.1 (zbP t.2).1,(zbP t.2).2)
theorem zRy:∀(n:Nat) (t:Int×Host),SmH t.2->Same t.2 (zbZ n t).2
 | 0,_,hs=>Same.rfl' hs
 |n+1,t,hs=>(zrA hs).trans (zRy n (zD .i64 t.1 (zbP t.2).1,(zbP t.2).2) (zrA hs).sm)
@[simp] abbrev zuk (h:Host)(_:Int):Bool:=pc (zcJ h)
@[simp] abbrev zgd (h:Host)(r:Int):Host:=(zbZ (brought r 0 40).toNat (0,h)).2
@[simp] abbrev zjS (h:Host)(r:Int):Int:=(zbZ (brought r 0 40).toNat (0,h)).1
def zxJ:Run:=rF2 dH dI λb c=>(zuk b c,[aH<|zgd b c,aI<|zjS b c])
def zB1 (N:Nat)(a0:Host)(a1:Int):OA:=
 (oN (zba a0)<|iter (σ:=(Int×Int×Int×lM×lN×lE×lE×lM×lN×lE×lE×Unit)) N (λr3 s4=>let y0:=(⟨s4.2.2.2.2.2.2.2.1,s4.2.2.2.2.2.2.2.2.1,s4.2.2.2.2.2.2.2.2.2.1,s4.2.2.2.2.2.2.2.2.2.2.1⟩:Host); (oN (zjR s4.1 0 40)<|cond (ilt s4.2.2.1<|zh4 s4.1 0 40) (oN (zba y0)<|r3 (s4.1,zD .i64 s4.2.1<|zmh y0,zD .i64 s4.2.2.1 1,s4.2.2.2.1,s4.2.2.2.2.1,s4.2.2.2.2.2.1,s4.2.2.2.2.2.2.1,(zev y0).Memory,(zev y0).Mons,(zev y0).Buffer,(zev y0).IoBuffer,()))<|some [aH y0,aI s4.2.1])) (a1,0,0,[],[],[],[],(zk a0).Memory,(zk a0).Mons,(zk a0).Buffer,(zk a0).IoBuffer,()))
def zOi:=zx [(26,0,{n:=30,tm:=[(1,ti),(4,.lp 0 0),(6,.lp 1 0),(7,ti),(8,ti)],lo:=[(0,[.sl 0 [],.sl 1 [],.sl 2 [],.sl 3 []]),(1,[.sl 4 [],.sl 5 [],.sl 6 [],.sl 7 []])],ro:=[(0,.sl .int,true),(1,.mon,true),(2,.entry,true),(3,.entry,true),(4,.sl .int,true),(5,.mon,true),(6,.entry,true),(7,.entry,true)]})]
theorem zNx (a0:Host)(a1:Int)(hb:zbC big [aH a0,aI a1])(hc:zuk a0 a1=true):∃N,zB1 N a0 a1=some [aH<|zgd a0 a1,aI<|zjS a0 a1]:=by
 have hs:=(zM a0).1 (zK.1 hc);have hb:=zWT a1;refine zb0 λN hNN=>?_;unfold zB1 oN;conv=>zeta
 refine must (zbe<|(zM _).2 hs) ?_;show _=zRm (zbZ (brought a1 0 40).toNat (0,a0));refine zoV (brought a1 0 40).toNat (λi (t:Int×Host)=>(a1,t.1,(i:Int),[],[],[],[],t.2.Memory,t.2.Mons,t.2.Buffer,t.2.IoBuffer,())) _ (λ_ t=>SmH t.2) (λi t=>zRm (zbZ ((brought a1 0 40).toNat-i) t)) (λi t rec hi hI hr=>?_) (λt rec hI=>?_) N 0 (0,a0) hs (jS _) (hNN (by rw[zmY];omega));{refine must rfl (must (qJ (by show (i:Int)<brought a1 0 40;omega))<|must (zbe<|(zM _).2 hI) ?_);have e:(brought a1 0 40).toNat-i=((brought a1 0 40).toNat-(i+1))+1:=(by omega);simp only[zU hi (by rw[zmY];omega)];rw[e];exact hr (zD .i64 t.1 (zbP t.2).1,(zbP t.2).2) (zrA hI).sm};{refine must rfl (zcy (qG (by show ¬ (((brought a1 0 40).toNat:Nat):Int)<brought a1 0 40;omega)) ?_);simp only[kQ,zbZ];rfl}
theorem zGI:vJ 26 zxJ:=hF2 zXm zo zbS zfQ zOi zNx
def z1C:zS:=[(83,zo5),(90,zhU),(197,zhU)]++zU8
theorem zr1:zL z1C:=zh zr9 (zh zti<|zh ztn zmC)
theorem zO6 {a b:Bool}(h:(a=true)↔(b=true)):a=b:=by cases a<;>cases b<;>simp_all
@[simp] theorem z5l (x:Int):zi x 0 3=hasB x 4:=zO6 (by rw[zfM];unfold hasB;rw[decide_eq_true_iff];omega)
@[simp] theorem zYT (x:Int):zi x 0 7=hasB x 8:=zO6 (by rw[zfM];unfold hasB;rw[decide_eq_true_iff];omega)
def zeu (t:List Slot)(p:Int)(s:Slot):List Slot:=bif hasB p (ln t) then up t p s else t
@[simp] theorem z5m (t:List Slot)(p:Int)(s:Slot):(zeu t p s).length=t.length:=by unfold zeu;cases hasB p (ln t)<;>simp
@[simp] abbrev zoq (t:List Slot)(p:Int)(s:Slot):Bool:=pc (t.length<=1048576)
@[simp] abbrev zlx (t:List Slot)(p:Int)(s:Slot):List Slot:=zeu t p s
def zvK:Run:=rF3 (dS .slot) dI (dT .slot) λb c d=>(zoq b c d,[aS .slot<|zlx b c d])
def zy1 (N:Nat)(a0:lS)(a1:Int)(a2:Slot):OA:=
 (oN (few<|ln<|ap [] a0)<|oN (zI a1 0<|wsub .i64 (ln a0) 1)<|cond (zi a1 0<|wsub .i64 (ln a0) 1) (oN (inb a1<|ln<|ap [] a0)<|share (up (ap [] a0) a1 a2) λx4=>some [aS .slot x4])<|some [aS .slot<|ap [] a0])
theorem zKR (a0:List Slot)(a1:Int)(a2:Slot)(hc:zoq a0 a1 a2=true):∃N,zy1 N a0 a1 a2=some [aS .slot<|zlx a0 a1 a2]:=by have hs:=zK.1 hc;refine⟨0,?_⟩;unfold zy1 oN;refine mu (must rfl (br (λ_=>mu (shr ?_)) λ_=>?_));all_goals first|rfl|(simp only [*,zlx,zeu,cT,cF]<;>rfl)|simp_all[Ty.cells,zlx,zeu]
theorem zEB:vJ 221 zvK:=kF3 zr1 zo zq zu (zx []) zKR
def zhJ (p n:Int):Bool:=bif zdq p then zi n 0 7 else false
def zrl (p n:Int):Int:=bif zhJ p n then wor .i64 p (zkU .i64 1 n) else p
theorem cv7 {n:Int}(h:hasB n 8=true):wcv .u64 n=n/\ile 0 n=true:=by have:=qD h;exact⟨zLA (by omega) (by omega),qJ (by omega)⟩
@[simp] abbrev zjX (p n:Int):Bool:=true
@[simp] abbrev zhi (p n:Int):Int:=zrl p n
@[simp] abbrev zl7 (p n:Int):Bool:=zhJ p n
def zxW:Run:=rF2 dI dI λb c=>(zjX b c,[aI<|zhi b c,aB<|zl7 b c])
def zCv (N:Nat)(a0 a1:Int):OA:=
 (oN (zbY a0)<|cond (nB<|zee a0) (some [aI a0,aB false])<|oN (zI a1 0 7)<|cond (nB<|zi a1 0 7) (some [aI a0,aB false])<|oN (ile 0<|wcv .u64 a1)<|some [aI<|wor .i64 a0<|zkU .i64 1<|wcv .u64 a1,aB true])
theorem zNY (a0 a1:Int)(hc:zjX a0 a1=true):∃N,zCv N a0 a1=some [aI<|zhi a0 a1,aB<|zl7 a0 a1]:=by have hw:=@cv7 a1;refine⟨0,?_⟩;unfold zCv oN nB;refine must rfl (brN (λ_=>?_) λ_=>must rfl (brN (λ_=>?_) λ_=>mu ?_));all_goals first|rfl|(simp only [*,zhi,zl7,zrl,zhJ,cT,cF]<;>rfl)|simp_all[Ty.cells,zhi,zl7,zrl,zhJ]
theorem zHb:vJ 225 zxW:=kF2 zr1 zo zq zu (zx []) zNY
def posts (c:Ctl)(n:Int):Bool:=bif zk4 c then (cond (zi n 0 7) (ieq (wand .i64 (zjB .i64 c.Post n) 1) 1) false) else false
@[simp] abbrev zAm (c:Ctl)(n:Int):Bool:=true
@[simp] abbrev zvP (c:Ctl)(n:Int):Bool:=posts c n
def zDc:Run:=rF2 dC dI λb c=>(zAm b c,[aB<|zvP b c])
def zLS (N:Nat)(a0:Ctl)(a1:Int):OA:=
 (oN (zfU a0)<|cond (zpb a0) (oN (zI a1 0 7)<|cond (zi a1 0 7) (oN (ile 0<|wcv .u64 a1)<|some [aB<|ieq (wand .i64 (zjB .i64 a0.Post<|wcv .u64 a1) 1) 1]) oF) oF)
theorem zS5 (a0:Ctl)(a1:Int)(hc:zAm a0 a1=true):∃N,zLS N a0 a1=some [aB<|zvP a0 a1]:=by have hw:=@cv7 a1;refine⟨0,?_⟩;unfold zLS oN;refine must rfl (br (λ_=>must rfl (br (λ_=>mu ?_) λ_=>?_)) λ_=>?_);all_goals first|rfl|(simp only [*,zvP,posts,cT,cF]<;>rfl)|simp_all[Ty.cells,zvP,posts]
theorem zNm:vJ 302 zDc:=kF2 zr1 zo zq zu (zx []) zS5
def zcb (b:Bare)(g:Int):Bool:=bif zbI b then hasB g (ln b.Guests) else false
theorem zdR {b:Bare}{g:Int}:(zcb b g=true)↔zbI b=true/\hasB g (ln b.Guests)=true:=by unfold zcb;cases zbI b<;>simp
@[simp] abbrev zj2 (b:Bare)(g:Int):Bool:=zcb b g
def zDd:Run:=rF2 (dT .bare) dI λb c=>(zc1 b c,[aB<|zj2 b c])
def zLV (N:Nat)(a0:Bare)(a1:Int):OA:=
 (oN (zjr a0)<|cond (zcz a0) (oN (zI a1 0<|wsub .i64 (ln a0.Guests) 1)<|some [aB<|zi a1 0<|wsub .i64 (ln a0.Guests) 1]) oF)
theorem zS7 (a0:Bare)(a1:Int)(hc:zc1 a0 a1=true):∃N,zLV N a0 a1=some [aB<|zj2 a0 a1]:=by have hs:=zK.1 hc;have hl:a0.Guests.length<=1048576:=hs.2.1.1;refine⟨0,?_⟩;unfold zLV oN;refine must rfl (br (λ_=>must rfl ?_) λ_=>?_);all_goals first|rfl|(simp only [*,zj2,zcb,cT,cF]<;>rfl)|simp_all[Ty.cells,zj2,zcb]
theorem zNp:vJ 219 zDd:=kF2 zr1 zo zq zu (zx []) zS7
def z1D:zS:=[(221,zvK),(225,zxW),(302,zDc),(219,zDd)]++z1C
theorem zkn:zL z1D:=zh zEB (zh zHb<|zh zNm<|zh zNp zr1)
theorem z0F {α:Type}{l:List α}{i:Int}{d:α}(h:hasB i (ln l)=true):up l i (ix l i d)=l:=by obtain⟨k,rfl,hk⟩:=zdX (n:=l.length) h;unfold up;rw[zbg hk,kV];exact u0 hk
theorem zr5 {b:Bare}{g:Int}(h:hasB g (ln b.Guests)=true):gAt b g=ix b.Guests g zn:=by unfold gAt;rw[h];rfl
theorem zYz {b:Bare}{g:Int}(h:hasB g (ln b.Guests)=true):zdP b g (gAt b g)=b:=by unfold zdP;rw[zr5 h,z0F h]
def chg (b:Bare)(g:Int)(c:Bool)(x:Guest):Bare:=bif (cond (zcb b g) c false) then zdP b g x else b
def zcc (b:Bare)(g:Int)(c:Bool):Bool:=bif zcb b g then c else false
def zuA (p:Int)(s:Slot):Bool:=bif hasB p 4 then zdV s 8 else false
def zAr (x:Guest)(p:Int)(s:Slot):Guest:={x with Written:=zeu x.Written p s}
def zd2 (x:Guest)(p:Int):Guest:={x with Live:=zeu x.Live p (zbs x.Written p)}
def zky:GExit:=⟨0,0,false,0⟩
def zt9 (x:Guest)(v:Int):Bool:=bif zi v 0 99 then (cond (ieq x.Exit.Kind 2) true<|ieq x.Exit.Kind 3) else false
def zv3 (x:Guest)(v:Int):Guest:=zbU (stopped (cond (ieq x.Exit.Kind 2) {x with A:=v} x) zky)
def zz6 (x:Guest):Bool:=bif ieq x.Exit.Kind 1 then true else ieq x.Exit.Kind 4
def zwU (x:Guest):Guest:=bif ieq x.Exit.Kind 1 then stopped x zky else held (stopped x zky)
def znw (x:Guest)(n:Int):Guest:={x with Pending:=zrl x.Pending n}
def zI5 (x:Guest)(c:Ctl):Guest:={x with Ctl:=c}
theorem z3s {x:Guest}{n:Int}(h:zhJ x.Pending n=false):znw x n=x:=by unfold znw zrl;rw[h];rfl
theorem z0t {x:Guest}(p:Int)(s:Slot)(h:SmG x):SmG (zAr x p s):=⟨h.1,by simpa [zAr] using h.2.1,h.2.2.1,h.2.2.2⟩
theorem zIw {x:Guest}(p:Int)(h:SmG x):SmG (zd2 x p):=⟨h.1,h.2.1,by simpa [zd2] using h.2.2.1,h.2.2.2⟩
theorem z0r {x:Guest}(v:Int)(h:SmG x):SmG (zv3 x v):=by unfold zv3;cases ieq x.Exit.Kind 2<;>exact zkR h
theorem z0s {x:Guest}(h:SmG x):SmG (zwU x):=by unfold zwU;cases ieq x.Exit.Kind 1;{exact zRE (g:=stopped x zky) h};{exact h}
theorem zph {b:Bare}{g:Int}{c:Bool}{x:Guest}(h:SmB b)(hx:SmG x):SmB (chg b g c x):=by unfold chg;cases (cond (zcb b g) c false);{exact h};{exact zmS h hx}
@[simp] abbrev zpR (b:Bare)(g p:Int)(s:Slot):Bool:=pc (SmB b)
@[simp] abbrev zey (b:Bare)(g p:Int)(s:Slot):Bare:=chg b g (zuA p s) (zAr (gAt b g) p s)
@[simp] abbrev zfs (b:Bare)(g p:Int)(s:Slot):Bool:=zcc b g (zuA p s)
def zqP:Run:=rF4 (dT .bare) dI dI (dT .slot) λb c d e=>(zpR b c d e,[aT .bare<|zey b c d e,aB<|zfs b c d e])
def zCg (N:Nat)(a0:Bare)(a1 a2:Int)(a3:Slot):OA:=
 let y0:=zbu a0;let y1:=ix y0.Guests a1 zn; (oN (zch a0)<|oN (zc1 y0 a1)<|cond (nB<|zj2 y0 a1) (some [aT .bare y0,aB false])<|oN (zI a2 0 3)<|cond (nB<|zi a2 0 3) (some [aT .bare y0,aB false])<|oN (zlw a3 8)<|cond (nB<|zim a3 8) (some [aT .bare y0,aB false])<|oN (inb a1<|ln y0.Guests)<|oN (zoq y1.Written a2 a3)<|oN (inb a1<|ln y0.Guests)<|share (up y0.Guests a1 ({y1 with Written:=(zlx y1.Written a2 a3)}:Guest)) λx5=>some [aT .bare ({y0 with Guests:=x5}:Bare),aB true])
theorem zNL (a0:Bare)(a1 a2:Int)(a3:Slot)(hc:zpR a0 a1 a2 a3=true):∃N,zCg N a0 a1 a2 a3=some [aT .bare<|zey a0 a1 a2 a3,aB<|zfs a0 a1 a2 a3]:=by
 have hs:=zK.1 hc;have hx:=zi2 a1 hs;have hz:zcb a0 a1=true->hasB a1 (ln a0.Guests)=true:=λh=>(zdR.1 h).2;have hz2:zcb a0 a1=true->gAt a0 a1=ix a0.Guests a1 zn:=λh=>zr5 (zdR.1 h).2;have hw:=hx.2.1;refine⟨0,?_⟩;unfold zCg oN nB;conv=>zeta
 refine mu (mu<|brN (λ_=>?_) λ_=>must rfl (brN (λ_=>?_) λ_=>must rfl (brN (λ_=>?_) λ_=>mu (mu<|mu<|shr ?_))));all_goals first|rfl|(simp only [*,zey,zfs,chg,zcc,zuA,zAr,zdP,cT,cF]<;>rfl)|simp_all[Ty.cells,zey,zfs,chg,zcc,zuA,zAr,zdP]
theorem ztm:vJ 104 zqP:=kF4 zkn zo zq zu (zx []) zNL
@[simp] abbrev zqV (b:Bare)(g p:Int):Bool:=pc (SmB b)
@[simp] abbrev ze4 (b:Bare)(g p:Int):Bare:=chg b g (hasB p 4) (zd2 (gAt b g) p)
@[simp] abbrev zhW (b:Bare)(g p:Int):Bool:=zcc b g (hasB p 4)
def znI:Run:=rF3 (dT .bare) dI dI λb c d=>(zqV b c d,[aT .bare<|ze4 b c d,aB<|zhW b c d])
def zxk (N:Nat)(a0:Bare)(a1 a2:Int):OA:=
 let y1:=zbu a0;let y2:=inb a1<|ln y1.Guests;let y0:=ix y1.Guests a1 zn; (oN (zch a0)<|oN (zc1 y1 a1)<|cond (nB<|zj2 y1 a1) (some [aT .bare y1,aB false])<|oN (zI a2 0 3)<|cond (nB<|zi a2 0 3) (some [aT .bare y1,aB false])<|oN y2<|oN y2<|oN (zfI y0.Written a2)<|oN (zoq y0.Live a2<|zeo y0.Written a2)<|oN y2<|share (up y1.Guests a1 ({y0 with Live:=(zlx y0.Live a2<|zeo y0.Written a2)}:Guest)) λx4=>some [aT .bare ({y1 with Guests:=x4}:Bare),aB true])
theorem zHM (a0:Bare)(a1 a2:Int)(hc:zqV a0 a1 a2=true):∃N,zxk N a0 a1 a2=some [aT .bare<|ze4 a0 a1 a2,aB<|zhW a0 a1 a2]:=by
 have hs:=zK.1 hc;have hx:=zi2 a1 hs;have hz:zcb a0 a1=true->hasB a1 (ln a0.Guests)=true:=λh=>(zdR.1 h).2;have hz2:zcb a0 a1=true->gAt a0 a1=ix a0.Guests a1 zn:=λh=>zr5 (zdR.1 h).2;have hw:=hx.2.2.1;refine⟨0,?_⟩;unfold zxk oN nB;conv=>zeta
 refine mu (mu<|brN (λ_=>?_) λ_=>must rfl (brN (λ_=>?_) λ_=>mu (mu (must rfl (mu<|mu<|shr ?_)))));all_goals first|rfl|(simp only [*,ze4,zhW,chg,zcc,zd2,zdP,cT,cF]<;>rfl)|simp_all[Ty.cells,ze4,zhW,chg,zcc,zd2,zdP]
theorem zq6:vJ 105 znI:=kF3 zkn zo zq zu (zx []) zHM
@[simp] abbrev zls (b:Bare)(g v:Int):Bool:=pc (SmB b)
@[simp] abbrev zdg (b:Bare)(g v:Int):Bare:=chg b g (zt9 (gAt b g) v) (zv3 (gAt b g) v)
@[simp] abbrev zd7 (b:Bare)(g v:Int):Bool:=zcc b g (zt9 (gAt b g) v)
def zmJ:Run:=rF3 (dT .bare) dI dI λb c d=>(zls b c d,[aT .bare<|zdg b c d,aB<|zd7 b c d])
def zuO (N:Nat)(a0:Bare)(a1 a2:Int):OA:=
 let y2:=zbu a0;let y4:=inb a1<|ln y2.Guests;let y1:=(⟨0,0,false,0⟩:GExit);let y0:=ix y2.Guests a1 zn;let y3:=({y0 with A:=a2}:Guest); (oN (zch a0)<|oN (zc1 y2 a1)<|cond (nB<|zj2 y2 a1) (some [aT .bare y2,aB false])<|oN (zI a2 0 99)<|cond (nB<|zi a2 0 99) (some [aT .bare y2,aB false])<|oN y4<|cond (ieq y0.Exit.Kind 2) (oN (zcw y3 y1)<|oN (zJ<|zcj y3 y1)<|oN y4<|share (up y2.Guests a1<|zb4<|zcj y3 y1) λx4=>some [aT .bare ({y2 with Guests:=x4}:Bare),aB true])<|cond (ieq y0.Exit.Kind 3) (oN (zcw y0 y1)<|oN (zJ<|zcj y0 y1)<|oN y4<|share (up y2.Guests a1<|zb4<|zcj y0 y1) λx4=>some [aT .bare ({y2 with Guests:=x4}:Bare),aB true])<|some [aT .bare y2,aB false])
theorem zEL (a0:Bare)(a1 a2:Int)(hc:zls a0 a1 a2=true):∃N,zuO N a0 a1 a2=some [aT .bare<|zdg a0 a1 a2,aB<|zd7 a0 a1 a2]:=by
 have hs:=zK.1 hc;have hx:=zi2 a1 hs;have hz:zcb a0 a1=true->hasB a1 (ln a0.Guests)=true:=λh=>(zdR.1 h).2;have hz2:zcb a0 a1=true->gAt a0 a1=ix a0.Guests a1 zn:=λh=>zr5 (zdR.1 h).2;have ho:_/\_/\_/\_:=hx;refine⟨0,?_⟩;unfold zuO oN nB;conv=>zeta
 refine mu (mu<|brN (λ_=>?_) λ_=>must rfl (brN (λ_=>?_) λ_=>mu (br (λ_=>mu (mu<|mu<|shr ?_)) λ_=>br (λ_=>mu (mu<|mu<|shr ?_)) λ_=>?_)));all_goals first|rfl|(simp only [*,zdg,zd7,chg,zcc,zt9,zv3,zky,zdP,SmG,stopped,cT,cF]<;>rfl)|simp_all[Ty.cells,zdg,zd7,chg,zcc,zt9,zv3,zky,zdP,SmG,stopped]
theorem zqg:vJ 106 zmJ:=kF3 zkn zo zq zu (zx []) zEL
@[simp] abbrev zdi (b:Bare)(g:Int):Bare:=chg b g (zz6<|gAt b g) (zwU<|gAt b g)
@[simp] abbrev zd9 (b:Bare)(g:Int):Bool:=zcc b g (zz6<|gAt b g)
def zmL:Run:=rF2 (dT .bare) dI λb c=>(zc1 b c,[aT .bare<|zdi b c,aB<|zd9 b c])
def zuQ (N:Nat)(a0:Bare)(a1:Int):OA:=
 let y2:=zbu a0;let y3:=inb a1<|ln y2.Guests;let y1:=(⟨0,0,false,0⟩:GExit);let y0:=ix y2.Guests a1 zn; (oN (zch a0)<|oN (zc1 y2 a1)<|cond (nB<|zj2 y2 a1) (some [aT .bare y2,aB false])<|oN y3<|cond (ieq y0.Exit.Kind 1) (oN (zcw y0 y1)<|oN y3<|share (up y2.Guests a1<|zcj y0 y1) λx3=>some [aT .bare ({y2 with Guests:=x3}:Bare),aB true])<|cond (ieq y0.Exit.Kind 4) (oN (zcw y0 y1)<|oN (zJ<|zcj y0 y1)<|oN y3<|share (up y2.Guests a1<|zjJ<|zcj y0 y1) λx3=>some [aT .bare ({y2 with Guests:=x3}:Bare),aB true])<|some [aT .bare y2,aB false])
theorem zEN (a0:Bare)(a1:Int)(hc:zc1 a0 a1=true):∃N,zuQ N a0 a1=some [aT .bare<|zdi a0 a1,aB<|zd9 a0 a1]:=by
 have hs:=zK.1 hc;have hx:=zi2 a1 hs;have hz:zcb a0 a1=true->hasB a1 (ln a0.Guests)=true:=λh=>(zdR.1 h).2;have hz2:zcb a0 a1=true->gAt a0 a1=ix a0.Guests a1 zn:=λh=>zr5 (zdR.1 h).2;have ho:_/\_/\_/\_:=hx;refine⟨0,?_⟩;unfold zuQ oN nB;conv=>zeta
 refine mu (mu<|brN (λ_=>?_) λ_=>mu (br (λ_=>mu (mu<|shr ?_)) λ_=>br (λ_=>mu (mu<|mu<|shr ?_)) λ_=>?_));all_goals first|rfl|(simp only [*,zdi,zd9,chg,zcc,zz6,zwU,zky,zdP,SmG,stopped,cT,cF]<;>rfl)|simp_all[Ty.cells,zdi,zd9,chg,zcc,zz6,zwU,zky,zdP,SmG,stopped]
theorem zqi:vJ 107 zmL:=kF2 zkn zo zq zu (zx []) zEN
theorem z4j {b:Bare}{g:Int}{c:Bool}{x:Guest}(h:zcb b g=false):chg b g c x=b:=by unfold chg;rw[h];rfl
theorem z2F {b:Bare}{g n:Int}(h:zcb b g=true):chg b g (zhJ (gAt b g).Pending n) (znw (gAt b g) n)=zdP b g (znw (gAt b g) n):=by unfold chg;rw[h];cases hp:zhJ (gAt b g).Pending n;{rw [z3s hp,zYz (zdR.1 h).2];rfl};{rfl}
@[simp] abbrev zlt (b:Bare)(g n:Int):Bool:=pc (SmB b)
@[simp] abbrev zdh (b:Bare)(g n:Int):Bare:=chg b g (zhJ (gAt b g).Pending n) (znw (gAt b g) n)
@[simp] abbrev zd8 (b:Bare)(g n:Int):Bool:=zcc b g (zhJ (gAt b g).Pending n)
def zmK:Run:=rF3 (dT .bare) dI dI λb c d=>(zlt b c d,[aT .bare<|zdh b c d,aB<|zd8 b c d])
def zuP (N:Nat)(a0:Bare)(a1 a2:Int):OA:=
 let y1:=zbu a0;let y0:=ix y1.Guests a1 zn; (oN (zch a0)<|oN (zc1 y1 a1)<|cond (nB<|zj2 y1 a1) (some [aT .bare y1,aB false])<|oN (inb a1<|ln y1.Guests)<|oN (zjX y0.Pending a2)<|oN (inb a1<|ln y1.Guests)<|share (up y1.Guests a1 ({y0 with Pending:=(zhi y0.Pending a2)}:Guest)) λx4=>some [aT .bare ({y1 with Guests:=x4}:Bare),aB<|zl7 y0.Pending a2])
theorem zEM (a0:Bare)(a1 a2:Int)(hc:zlt a0 a1 a2=true):∃N,zuP N a0 a1 a2=some [aT .bare<|zdh a0 a1 a2,aB<|zd8 a0 a1 a2]:=by
 have hs:=zK.1 hc;have hz:zcb a0 a1=true->hasB a1 (ln a0.Guests)=true:=λh=>(zdR.1 h).2;have hz2:zcb a0 a1=true->gAt a0 a1=ix a0.Guests a1 zn:=λh=>zr5 (zdR.1 h).2;have hj:=@z2F a0 a1 a2;have hj0:=@z4j a0 a1 (zhJ (gAt a0 a1).Pending a2) (znw (gAt a0 a1) a2);refine⟨0,?_⟩;unfold zuP oN nB;conv=>zeta
 refine mu (mu<|brN (λ_=>?_) λ_=>mu (must rfl (mu<|shr ?_)));all_goals first|rfl|(simp only [*,zdh,zd8,zcc,zdP,znw,cT,cF]<;>rfl)|simp_all[Ty.cells,zdh,zd8,zcc,zdP,znw]
theorem zqh:vJ 108 zmK:=kF3 zkn zo zq zu (zx []) zEM
@[simp] abbrev zpQ (b:Bare)(g:Int)(c:Ctl):Bool:=pc (SmB b)
@[simp] abbrev zex (b:Bare)(g:Int)(c:Ctl):Bare:=chg b g (zk4 c) (zI5 (gAt b g) c)
@[simp] abbrev zfr (b:Bare)(g:Int)(c:Ctl):Bool:=zcc b g (zk4 c)
def zqO:Run:=rF3 (dT .bare) dI dC λb c d=>(zpQ b c d,[aT .bare<|zex b c d,aB<|zfr b c d])
def zCf (N:Nat)(a0:Bare)(a1:Int)(a2:Ctl):OA:=
 let y0:=zbu a0; (oN (zch a0)<|oN (zc1 y0 a1)<|cond (nB<|zj2 y0 a1) (some [aT .bare y0,aB false])<|oN (zfU a2)<|cond (nB<|zpb a2) (some [aT .bare y0,aB false])<|oN (inb a1<|ln y0.Guests)<|share (up y0.Guests a1 ({ (ix y0.Guests a1 zn) with Ctl:=a2}:Guest)) λx4=>some [aT .bare ({y0 with Guests:=x4}:Bare),aB true])
theorem zNK (a0:Bare)(a1:Int)(a2:Ctl)(hc:zpQ a0 a1 a2=true):∃N,zCf N a0 a1 a2=some [aT .bare<|zex a0 a1 a2,aB<|zfr a0 a1 a2]:=by
 have hs:=zK.1 hc;have hz:zcb a0 a1=true->hasB a1 (ln a0.Guests)=true:=λh=>(zdR.1 h).2;have hz2:zcb a0 a1=true->gAt a0 a1=ix a0.Guests a1 zn:=λh=>zr5 (zdR.1 h).2;refine⟨0,?_⟩;unfold zCf oN nB;conv=>zeta
 refine mu (mu<|brN (λ_=>?_) λ_=>must rfl (brN (λ_=>?_) λ_=>mu (shr ?_)));all_goals first|rfl|(simp only [*,zex,zfr,chg,zcc,zI5,zdP,cT,cF]<;>rfl)|simp_all[Ty.cells,zex,zfr,chg,zcc,zI5,zdP]
theorem ztl:vJ 109 zqO:=kF3 zkn zo zq zu (zx []) zNK
def z2h (p c v:Int):Bool:=bif hasB p 8 then (cond (hasB c 4) (zi v 0 99) false) else false
def zvo (b:Bare)(p c v:Int):Bool:=bif zbI b then z2h p c v else false
def zOE (b:Bare)(p c v:Int):Bare:=bif zvo b p c v then {b with Memory:=zbB b.Memory p c v} else b
def zmy (b:Bare):Bare:=bif zbI b then {b with Pending:=zhT b.Pending} else b
def zrT (b:Bare):Int:=bif zbI b then znx b.Pending else -1
def zme (b:Bare):Bool:=bif zbI b then !ilt (zdQ b.Pending) 0 else false
def znp (b:Bare)(g a n:Int):Bool:=bif zcb b g then (cond (zi a 0 15) (zet (gAt b g).Live (zbc a) n) false) else false
def zAL (b:Bare)(g a n:Int):Int:=zb2 (gAt b g).Live (zbc a) n
def zwi (b:Bare)(g a v:Int):Bool:=bif znp b g a 2 then zi v 0 99 else false
def zVn (b:Bare)(g a v:Int):Bare:=bif zwi b g a v then {b with Memory:=zbB b.Memory (zAL b g a 2) (zdd a) v} else b
def zOI (b:Bare)(g a:Int):Int:=bif znp b g a 1 then cellAt b.Memory (zAL b g a 1) (zdd a) else 0
@[simp] abbrev zeW (b:Bare):Bare:=zmy b
@[simp] abbrev zgg (b:Bare):Int:=zrT b
@[simp] abbrev zgh (b:Bare):Bool:=zme b
def zqN:Run:=rF1 (dT .bare) λb=>(zch b,[aT .bare<|zeW b,aI<|zgg b,aB<|zgh b])
def zCe (N:Nat)(a0:Bare):OA:=
 let y0:=zbu a0; (oN (zch a0)<|oN (zjr y0)<|cond (nB<|zcz y0) (some [aT .bare y0,aI<|-1,aB false])<|oN (zbY y0.Pending)<|some [aT .bare ({y0 with Pending:=(zfu y0.Pending)}:Bare),aI<|zfv y0.Pending,aB<|zhk y0.Pending])
theorem zNJ (a0:Bare)(hc:zch a0=true):∃N,zCe N a0=some [aT .bare<|zeW a0,aI<|zgg a0,aB<|zgh a0]:=by
 have hs:=zK.1 hc;refine⟨0,?_⟩;unfold zCe oN nB;conv=>zeta
 refine mu (must rfl (brN (λ_=>?_) λ_=>must rfl ?_));all_goals first|rfl|(simp only [*,zeW,zgg,zgh,zmy,zrT,zme,zhT,znx,cT,cF]<;>rfl)|simp_all[Ty.cells,zeW,zgg,zgh,zmy,zrT,zme,zhT,znx]
theorem ztk:vJ 113 zqN:=kF1 zkn zo zq zu (zx []) zNJ
def z1E:zS:=z1D
theorem zPo:zL z1E:=zkn
def zen (l:List Guest)(n:Int):List Int:=idxs (λ(x:Guest)=>posts x.Ctl n) l 0
theorem zP1 {α:Type}(p:α->Bool):∀(l:List α) (i:Nat),∀k∈idxs p l i,(i:Int)<=k/\k<(i:Int)+l.length
 |[],_,k,hk=>by cases hk
 |x::l,i,k,hk=>by have hr:=zP1 p l (i+1);simp only[qV];unfold idxs at hk;cases hp:p x;{rw [hp]at hk;have:=hr k hk;omega};{rw [hp]at hk;rcases qI.1 hk with rfl|hk;{omega};{have:=hr k hk;omega}}
@[simp] abbrev zlv (b:Bare)(n:Int):List Int:=zen b.Guests n
def zvF:Run:=rF2 (dT .bare) dI λb c=>(zfE b c,[aS .int<|zlv b c])
def zyS (N:Nat)(a0:Bare)(a1:Int):OA:=
 (iter (σ:=(Int×Int×Int×(List Int)×lM×lG×(List Int)×Unit)) N (λr3 s4=>let y0:=s4.2.2.2.2.2.1;let y1:=(ix y0 s4.2.1 zn).Ctl; (cond (ilt s4.2.1<|ln y0) (oN (inb s4.2.1<|ln y0)<|oN (zAm y1 s4.1)<|cond (zvP y1 s4.1) (oN (few<|ln<|ap s4.2.2.2.1 [s4.2.1])<|r3 (s4.1,zD .i64 s4.2.1 1,s4.2.2.1,ap s4.2.2.2.1 [s4.2.1],s4.2.2.2.2.1,y0,s4.2.2.2.2.2.2.1,()))<|r3 (s4.1,zD .i64 s4.2.1 1,s4.2.2.1,s4.2.2.2.1,s4.2.2.2.2.1,y0,s4.2.2.2.2.2.2.1,()))<|some [aS .int s4.2.2.2.1])) (a1,0,a0.Pending,[],a0.Memory,a0.Guests,a0.Outs,()))
def zLq:=zx [(227,0,{n:=28,tm:=[(1,ti),(2,.lp 0 0),(5,.sl 0 []),(6,ti)],lo:=[(0,[.sl 1 [],.sl 2 [],.sl 3 [],ti])],ro:=[(0,.int,true),(1,.sl .int,false),(2,.guest,false),(3,.int,false)]})]
theorem zKI (a0:Bare)(a1:Int)(hc:zfE a0 a1=true):∃N,zyS N a0 a1=some [aS .int<|zlv a0 a1]:=by
 have hs:=zK.1 hc;have hl:=zct hs.2.1.1;refine zb0 λN hNN=>?_;unfold zyS oN;conv=>zeta
 refine(zbd a0.Guests (λi (t:(List Int))=>(a1,(i:Int),a0.Pending,t,a0.Memory,a0.Guests,a0.Outs,())) _ (λi (x:Guest) (t:List Int) κ=>bif posts x.Ctl a1 then (cond (few<|ln<|ap t [(i:Int)]) (κ<|ap t [(i:Int)]) none) else κ t) (λ(t:(List Int))=>some [.one<|.s .int t]) (λi hi t rec=>?_) (λt rec=>?_) _ ([])<|hNN hl.1).trans ?_;{simp only [zbv hi,zY hi,zbg hi,zU hi hl.1,cT]};{simp only [zbm,cF]};exact zr7 (λ(x:Guest)=>posts x.Ctl a1) _ a0.Guests 0 [] (by simpa using hl.2)
theorem zEr:vJ 227 zvF:=kF2 zPo zo zq zu zLq zKI
def z1F:zS:=[(227,zvF)]++z1E
theorem zPp:zL z1F:=zh zEr zPo
def zA3 (n:Int)(l:List Guest)(k:Int):List Guest:=up l k (znw (ix l k zn) n)
def zlg (n:Int)(ks:List Int)(l:List Guest):List Guest:=ks.foldl (zA3 n) l
theorem zz4 (n:Int)(l:List Guest)(k:Int):(zA3 n l k).length=l.length:=zgZ _ _ _
theorem zWv {n:Int}{l:List Guest}{k:Int}(hk:hasB k (ln l)=true)(h:zmx l):zmx (zA3 n l k):=zA6 h (zRF h hk _)
theorem zAv {n:Int}:∀(ks:List Int) {l:List Guest},(∀k∈ks,hasB k (ln l)=true)->zmx l->zmx (zlg n ks l)/\(zlg n ks l).length=l.length
 |[],_,_,h=>⟨h,rfl⟩
 |k::ks,l,hk,h=>by have h1:=zWv (n:=n) (hk k (by simp)) h;obtain⟨g1,g2⟩:=zAv (n:=n) ks (l:=zA3 n l k) (λj hj=>by rw[ln,zz4];exact hk j (by simp[hj])) h1;exact⟨g1,g2.trans<|zz4 _ _ _⟩
theorem zPL {ρ:Type}(n:Int)(K:List Guest->Option ρ):∀(ks:List Int) (i:Nat) (l:List Guest),(∀k∈ks,hasB k (ln l)=true)->
 goL (λ_ k (t:List Guest) κ=>bif inb k (ln t) then (cond (inb k<|ln t) (κ<|up t k<|znw (ix t k zn) n) none) else none) K ks i l=K (zlg n ks l)
 |[],_,_,_=>rfl
 |k::ks,i,l,h=>by have hk:inb k (ln l)=true:=h k (by simp);simp only[goL,hk,cT];exact zPL n K ks (i+1) (zA3 n l k) (λj hj=>by rw[ln,zz4];exact h j (by simp[hj]))
def zA4 (b:Bare)(n:Int):Bare:=bif ieq (ln<|zen b.Guests n) 0 then {b with Pending:=zrl b.Pending n} else {b with Guests:=zlg n (zen b.Guests n) b.Guests}
def zfO (b:Bare)(n:Int):Bool:=bif zbI b then hasB n 8 else false
def zj9 (b:Bare)(n:Int):Bare:=bif zfO b n then zA4 b n else b
theorem zId {b:Bare}{n:Int}:∀k∈zen b.Guests n,hasB k (ln b.Guests)=true:=λk hk=>by have:=zP1 _ _ _ k hk;exact qJ (by simp only[ln];omega)
theorem zV9 {b:Bare}{n:Int}(h:ieq (ln<|zen b.Guests n) 0=true):zlg n (zen b.Guests n) b.Guests=b.Guests:=by have h1:((zen b.Guests n).length:Int)=0:=qD h;have:zen b.Guests n=[]:=uS.1 (by omega);rw[this];rfl
theorem zV8 {b:Bare}{n:Int}:(cond (ieq (ln<|zen b.Guests n) 0) (some [AV.agg<|Ty.cells .bare ⟨b.Memory,zlg n (zen b.Guests n) b.Guests,b.Outs,zrl b.Pending n⟩,AV.one<|.b true])<|some [AV.agg<|Ty.cells .bare ⟨b.Memory,zlg n (zen b.Guests n) b.Guests,b.Outs,b.Pending⟩,AV.one<|.b true])=some [AV.agg<|Ty.cells .bare<|zA4 b n,AV.one<|.b true]:=by unfold zA4;cases h:ieq (ln<|zen b.Guests n) 0;{rfl};{simp only [cT,zV9 h]}
@[simp] abbrev zeX (b:Bare)(n:Int):Bare:=zj9 b n
@[simp] abbrev zgy (b:Bare)(n:Int):Bool:=zfO b n
def zo6:Run:=rF2 (dT .bare) dI λb c=>(zfE b c,[aT .bare<|zeX b c,aB<|zgy b c])
def zyJ (N:Nat)(a0:Bare)(a1:Int):OA:=
 let y2:=zbu a0; (oN (zch a0)<|oN (zjr y2)<|cond (nB<|zcz y2) (some [aT .bare y2,aB false])<|oN (zI a1 0 7)<|cond (nB<|zi a1 0 7) (some [aT .bare y2,aB false])<|oN (zfE y2 a1)<|iter (σ:=(Int×Int×Int×Int×(List Int)×lM×lG×(List Int)×lM×lG×(List Int)×Unit)) N (λr3 s4=>let y5:=s4.2.2.2.2.2.2.2.1;let y3:=s4.2.2.2.2.1;let y1:=s4.2.2.2.2.2.2.1;let y0:=ix y3 s4.2.1 0;let y4:=ix y1 y0 zn; (cond (ilt s4.2.1<|ln y3) (oN (inb s4.2.1<|ln y3)<|oN (inb s4.2.1<|ln y3)<|oN (inb y0<|ln y1)<|oN (zjX y4.Pending s4.1)<|oN (inb y0<|ln y1)<|r3 (s4.1,zD .i64 s4.2.1 1,s4.2.2.1,s4.2.2.2.1,y3,s4.2.2.2.2.2.1,up y1 y0 ({y4 with Pending:=(zhi y4.Pending s4.1)}:Guest),y5,s4.2.2.2.2.2.2.2.2.1,s4.2.2.2.2.2.2.2.2.2.1,s4.2.2.2.2.2.2.2.2.2.2.1,()))<|cond (ieq (ln y3) 0) (oN (zjX s4.2.2.1 s4.1)<|some [aT .bare (⟨s4.2.2.2.2.2.1,y1,y5,zhi s4.2.2.1 s4.1⟩:Bare),aB true])<|some [aT .bare (⟨s4.2.2.2.2.2.1,y1,y5,s4.2.2.1⟩:Bare),aB true])) (a1,0,y2.Pending,0,zlv y2 a1,y2.Memory,y2.Guests,y2.Outs,[],[],[],()))
def zLl:=zx [(112,0,{n:=62,tm:=[(1,ti),(2,.lp 0 0),(4,.lp 1 0),(6,.sl 0 []),(7,ti)],lo:=[(0,[.sl 1 [],.sl 2 [],.sl 3 [],ti]),(1,[.sl 4 [],.sl 5 [],.sl 6 [],ti])],ro:=[(0,.int,true),(1,.sl .int,true),(2,.guest,true),(3,.int,true),(4,.sl .int,true),(5,.guest,true),(6,.int,true)]})]
theorem zKz (a0:Bare)(a1:Int)(hc:zfE a0 a1=true):∃N,zyJ N a0 a1=some [aT .bare<|zeX a0 a1,aB<|zgy a0 a1]:=by
 have hs:=zK.1 hc;have hk:(zen a0.Guests a1).length<=big:=jB (zwF _ _ _) (zct hs.2.1.1).1;refine zb0 λN hNN=>?_;unfold zyJ zeX zgy zj9 zfO oN nB;conv=>zeta
 refine must (zbp hs) (must rfl (brN (λh1=>?_) λh1=>must rfl (brN (λh2=>?_) λh2=>must (zbp hs) ?_)));{simp only [show zbI a0=false from h1,cF]};{simp only [show zbI a0=true from h1,show hasB a1 8=false from by first|exact h2|exact(zYT a1).symm.trans h2,cT,cF]};simp only[show zbI a0=true from h1,show hasB a1 8=true from by first|exact h2|exact(zYT a1).symm.trans h2,cT];refine(zbd (zlv (zbu a0) a1) (λi (t:lG)=>(a1,(i:Int),(zbu a0).Pending,0,zlv (zbu a0) a1,(zbu a0).Memory,t,(zbu a0).Outs,[],[],[],())) _ (λ_ k (t:List Guest) κ=>bif inb k (ln t) then (cond (inb k<|ln t) (κ<|up t k<|znw (ix t k zn) a1) none) else none) (λ(t:lG)=>cond (ieq (ln<|zlv (zbu a0) a1) 0) (cond (zjX (zbu a0).Pending a1) (some [.agg<|Ty.cells .bare (⟨(zbu a0).Memory,t,(zbu a0).Outs,zhi (zbu a0).Pending a1⟩:Bare),.one<|.b true]) none)<|some [.agg<|Ty.cells .bare (⟨(zbu a0).Memory,t,(zbu a0).Outs,(zbu a0).Pending⟩:Bare),.one<|.b true]) (λi hi t rec=>?_) (λt rec=>?_) _ ((zbu a0).Guests)<|hNN hk).trans ?_;{simp only [zbv hi,zY hi,zbg hi,zU hi hk,cT];rfl};{simp only [zbm,cF];rfl};exact(zPL a1 _ _ 0 _ zId).trans zV8
theorem zsa:vJ 112 zo6:=kF2 zPp zo zq zu zLl zKz
end
end Go.Proofs.YtgjpbkhaaiffkaaGreat.E
namespace Go.Proofs
open Go Go.Shelf
end Go.Proofs
namespace Go.Proofs.YtgjpbkhaaiffkaaGreat.E
open Go
set_option linter.constructorNameAsVariable false
set_option linter.unusedVariables false
set_option maxRecDepth 100000
set_option linter.unusedSimpArgs false
set_option linter.unusedSectionVars false
noncomputable section
section
open Go Go.RowKit Go.Proofs
section
variable {P:Program}
end
end
def zWU:zS:=[(104,zqP),(105,znI),(106,zmJ),(107,zmL),(108,zmK),(109,zqO),(113,zqN),(112,zo6)]++z1F
theorem zzd:zL zWU:=zh ztm (zh zq6<|zh zqg<|zh zqi<|zh zqh<|zh ztl<|zh ztk<|zh zsa zPp)
theorem zYN {n:Int}(h:(ieq n 4||ieq n 8)=true):n=4\/n=8:=by rcases j6 _ _ ▸ h with h|h;{exact .inl (qD h)};{exact .inr (qD h)}
theorem zX2 {n:Int}(h:(ieq n 8||ieq n 12)=true):n=8\/n=12:=by rcases j6 _ _ ▸ h with h|h;{exact .inl (qD h)};{exact .inr (qD h)}
@[simp] abbrev ziW (n:Int):Bool:=ieq n 4||ieq n 8
@[simp] abbrev zg8 (n:Int):List Slot:=List.replicate n.toNat ⟨-1,0⟩
def zo9:Run:=rF1 dI λb=>(ziW b,[aS .slot<|zg8 b])
def zOU (N:Nat)(a0:Int):OA:=
 (oN (zjR a0 0 24)<|iter (σ:=(Int×lS×Unit)) N (λr2 s3=>cond (igt s3.1 0) (oN zbE<|oN (few<|ln<|ap s3.2.1 [zW])<|r2 (wsub .i64 s3.1 1,ap s3.2.1 [zW],()))<|some [aS .slot s3.2.1]) (zh4 a0 0 24,[],()))
def zLs:=zx [(198,0,{n:=17,tm:=[(3,.sl 0 []),(4,ti)],lo:=[],ro:=[(0,.slot,true)]})]
theorem zKO (a0:Int)(hc:ziW a0=true):∃N,zOU N a0=some [aS .slot<|zg8 a0]:=by refine⟨30,?_⟩;have h:a0=4\/a0=8:=zYN hc;rcases h with rfl|rfl<;>(change _=_;kernel_rfl)
theorem zsc:vJ 198 zo9:=kF1 zzd zo zq zu zLs zKO
@[simp] abbrev zoi (n:Int):Bool:=ieq n 8||ieq n 12
@[simp] abbrev zjt (n:Int):List (List Int):=List.replicate n.toNat [0,0,0,0]
def zss:Run:=rF1 dI λb=>(zoi b,[aS (.sl .int)<|zjt b])
def zUM (N:Nat)(a0:Int):OA:=
 (oN (zjR a0 0 24)<|iter (σ:=(Int×lM×Unit)) N (λr2 s3=>cond (igt s3.1 0) (oN (cond (few 4) (ieq 4 4) false)<|oN (few<|ln<|ap s3.2.1 [rp 4 0])<|r2 (wsub .i64 s3.1 1,ap s3.2.1 [rp 4 0],()))<|some [aS (.sl .int) s3.2.1]) (zh4 a0 0 24,[],()))
def zR6:=zx [(98,0,{n:=17,tm:=[(3,.sl 0 []),(4,ti)],lo:=[],ro:=[(0,.sl .int,true)]})]
theorem zQx (a0:Int)(hc:zoi a0=true):∃N,zUM N a0=some [aS (.sl .int)<|zjt a0]:=by refine⟨30,?_⟩;have h:a0=8\/a0=12:=zX2 hc;rcases h with rfl|rfl<;>(change _=_;kernel_rfl)
theorem zu7:vJ 98 zss:=kF1 zzd zo zq zu zR6 zQx
def zWV:zS:=[(198,zo9),(98,zss)]++zWU
theorem zL5:zL zWV:=zh zsc (zh zu7 zzd)
def zkQ:List Slot:=List.replicate 4 ⟨-1,0⟩
def ze9 (p:List Ins):Guest:=⟨p,0,0,zkQ,zkQ,⟨0,0,false⟩,0,⟨0,0,false,0⟩,false,[]⟩
@[simp] abbrev zoc (p:List Ins):Bool:=pc (p.length<=1048576)
@[simp] abbrev zob (p:List Ins):Guest:=ze9 p
def zo7:Run:=rF1 (dS .ins) λb=>(zoc b,[aT .guest<|zob b])
def zyM (N:Nat)(a0:lI):OA:=
 (oN (few<|ln<|ap [] a0)<|oN (ziW 4)<|oN (ziW 4)<|some [aT .guest (⟨ap [] a0,0,0,zg8 4,zg8 4,⟨0,0,false⟩,0,⟨0,0,false,0⟩,false,[]⟩:Guest)])
theorem zKC (a0:List Ins)(hc:zoc a0=true):∃N,zyM N a0=some [aT .guest<|zob a0]:=by have hs:=zK.1 hc;refine⟨0,?_⟩;unfold zyM oN;refine mu (must rfl (must rfl ?_));first|rfl|(simp only [*,zob,ze9,zkQ,cT,cF]<;>rfl)|simp_all[Ty.cells,zob,ze9,zkQ]
theorem zsb:vJ 99 zo7:=kF1 zL5 zo zq zu (zx []) zKC
def z4v:zS:=[(99,zo7)]++zWV
theorem zze:zL z4v:=zh zsb zL5
def zKX:List (List Int):=List.replicate 8 [0,0,0,0]
def z4e (ps:List (List Ins)):Prop:=ps.length<=1048576/\∀p∈ps,p.length<=1048576
theorem zMv {α β ρ:Type}(m:Nat)(f:α->β)(K:List β->Option ρ):∀(l:List α) (i:Nat) (acc:List β),acc.length+l.length<=2147483648->
 goL (λ(i:Nat) x acc k=>bif ilt (i:Int) (m:Int) then (cond (few<|ln<|ap acc [f x]) (k<|ap acc [f x]) none) else K acc) K l i acc=K (acc++(l.take<|m-i).map f)
 |[],i,acc,_=>by simp[goL]
 |x::l,i,acc,hn=>by simp only[qV]at hn;have hf:few (ln<|ap acc [f x])=true:=zgt (by simp[ap];omega);by_cases h:i<m;{have hi:ilt (i:Int) (m:Int)=true:=qJ (by omega);simp only[goL,hi,hf,cT];rw[zMv m f K l (i+1) (ap acc [f x]) (by simp[ap];omega)];rw[show m-i=m-(i+1)+1 by omega];simp[ap]};{have hi:ilt (i:Int) (m:Int)=false:=qG (by omega);simp only[goL,hi,cF];rw[show m-i=0 by omega];simp}
@[simp] abbrev zm7 (a:GAct):Bool:=true
@[simp] abbrev zvN (a:GAct):Bool:=zi a.Kind 1 17
def zC9:Run:=rF1 (dT .act) λb=>(zm7 b,[aB<|zvN b])
def zLI (N:Nat)(a0:GAct):OA:=
 (oN (zI a0.Kind 1 17)<|some [aB<|zi a0.Kind 1 17])
theorem zSX (a0:GAct)(hc:zm7 a0=true):∃N,zLI N a0=some [aB<|zvN a0]:=by refine⟨0,?_⟩;unfold zLI oN;refine must rfl ?_;first|rfl|(simp only [*,zvN,cT,cF]<;>rfl)|simp_all[Ty.cells,zvN]
theorem zNd:vJ 101 zC9:=kF1 zze zo zq zu (zx []) zSX
@[simp] abbrev zuy (k:Int):Bool:=true
@[simp] abbrev zqo (k:Int):Bool:=zi k 13 17
def zxU:Run:=rF1 dI λb=>(zuy b,[aB<|zqo b])
def zCq (N:Nat)(a0:Int):OA:=
 (oN (zI a0 13 17)<|some [aB<|zi a0 13 17])
theorem zNU (a0:Int)(hc:zuy a0=true):∃N,zCq N a0=some [aB<|zqo a0]:=by refine⟨0,?_⟩;unfold zCq oN;refine must rfl ?_;first|rfl|(simp only [*,zqo,cT,cF]<;>rfl)|simp_all[Ty.cells,zqo]
theorem zG5:vJ 59 zxU:=kF1 zze zo zq zu (zx []) zNU
@[simp] abbrev zpa (a:GAct):Ctl:=⟨a.X,a.Y,ieq a.Z 1⟩
def zDa:Run:=rF1 (dT .act) λb=>(zm7 b,[.agg<|zwc<|zpa b])
def zLJ (N:Nat)(a0:GAct):OA:=
 (some [.agg [.i .i64 a0.X,.i .i64 a0.Y,.b<|ieq a0.Z 1]])
theorem zSY (a0:GAct)(hc:zm7 a0=true):∃N,zLJ N a0=some [.agg<|zwc<|zpa a0]:=by refine⟨0,?_⟩;unfold zLJ;first|rfl|(simp only [*,zpa,cT,cF]<;>rfl)|simp_all[Ty.cells,zpa]
theorem zNe:vJ 110 zDa:=kF1 zze zo zq zu (zx []) zSY
def zPi:zS:=[(104,zqP),(105,znI),(106,zmJ),(107,zmL),(108,zmK),(109,zqO),(113,zqN),(112,zo6),(98,zss)]++zVh
theorem zzf:zL zPi:=zh ztm (zh zq6<|zh zqg<|zh zqi<|zh zqh<|zh ztl<|zh ztk<|zh zsa<|zh zu7 zDR)
def zcU (x:Mon):Bare:=⟨zKX,x.Guests,x.Outs,x.Pending⟩
def zs6 (x:Mon)(b:Bare):Mon:={x with Guests:=b.Guests,Pending:=b.Pending}
def zc5 (h:Host)(m:Int)(b:Bare):Host:={h with Mons:=up h.Mons m (zs6 (ix h.Mons m mZ) b)}
@[simp] abbrev ze1 (x:Mon):Bool:=pc (zfY x)
@[simp] abbrev zbF (x:Mon):Bare:=zcU x
def zx2:Run:=rF1 (dT .mon) λb=>(ze1 b,[aT .bare<|zbF b])
def zCH (N:Nat)(a0:Mon):OA:=
 (oN (zoi 8)<|oN (zfW a0.Guests)<|oN (few<|ln<|ap [] a0.Outs)<|some [aT .bare (⟨zjt 8,zgm a0.Guests,ap [] a0.Outs,a0.Pending⟩:Bare)])
theorem zOe (a0:Mon)(hc:ze1 a0=true):∃N,zCH N a0=some [aT .bare<|zbF a0]:=by have hs:=zK.1 hc;refine⟨0,?_⟩;unfold zCH oN;exact must rfl (must (zbp<|(zta _).2 hs.2.2.2.1) (must (zmZ hs.2.2.2.2.1) rfl))
theorem zHu:vJ 365 zx2:=kF1 zzf zo zbS zfQ (zx []) zOe
@[simp] abbrev ze0 (h:Host)(m:Int)(b:Bare):Bool:=pc (hasB m (ln h.Mons)=true/\zmx b.Guests)
@[simp] abbrev zhq (h:Host)(m:Int)(b:Bare):Host:=zc5 h m b
theorem z5k {l:List Mon}{m:Int}(hm:hasB m (ln l)=true)(b:Bare):inb m (ln<|up l m {ix l m mZ with Guests:=b.Guests})=true/\
 up (up l m {ix l m mZ with Guests:=b.Guests}) m {ix (up l m {ix l m mZ with Guests:=b.Guests}) m mZ with Pending:=b.Pending}=up l m (zs6 (ix l m mZ) b):=by
 obtain⟨k,rfl,hk⟩:=zdX (n:=l.length) hm;refine⟨zA (by rw[ln,zgZ];exact hm),?_⟩
 rw[zt0,zd5 hk];rfl
def zqU:List AV->Option (Bool×List AV)
 |[.agg [.s (.sl .int) b,.s .mon c,.s .entry d,.s .entry e],.one<|.i .i64 f,.agg [.s (.sl .int) g,.s .guest h,.s .int j,.i .i64 k]]=>some (ze0 (⟨b,c,d,e⟩:Host) f (⟨g,h,j,k⟩:Bare),[aH<|zhq (⟨b,c,d,e⟩:Host) f (⟨g,h,j,k⟩:Bare)])
 |_=>none
def zt7 (N:Nat)(a0:Host)(a1:Int)(a2:Bare):OA:=
 (oN (zfW a2.Guests)<|oN (inb a1<|ln a0.Mons)<|share (up a0.Mons a1 ({ (ix a0.Mons a1 zf) with Guests:=(zgm a2.Guests)}:Mon)) λx4=>oN (inb a1<|ln x4)<|share (up x4 a1 ({ (ix x4 a1 zf) with Pending:=a2.Pending}:Mon)) λx5=>some [aH ({a0 with Mons:=x5}:Host)])
theorem zQZ (N:Nat)(a0:Host)(a1:Int)(a2:Bare):zVp (cQ zPi zny zV7 z0E) (zx []) N 12 366 [true,true,true,true,false,false,false,false,false] [aH a0,aI a1,aT .bare a2]=zt7 N a0 a1 a2:=by kernel_rfl
theorem zOd (a0:Host)(a1:Int)(a2:Bare)(hb:zbC big [aH a0,aI a1,aT .bare a2])(hc:ze0 a0 a1 a2=true):∃N,zt7 N a0 a1 a2=some [aH<|zhq a0 a1 a2]:=by obtain⟨hm,hg⟩:=zK.1 hc;obtain⟨h1,h2⟩:=z5k hm a2;refine⟨0,?_⟩;unfold zt7 oN;refine must (zbp<|(zta _).2 hg) (must (zA hm)<|shr<|must h1<|shr ?_);have e:zgm a2.Guests=a2.Guests:=rfl;rw[e];show some [AV.agg<|zbf {a0 with Mons:=_}]=some [AV.agg<|zbf {a0 with Mons:=_}];rw[show zf=mZ from rfl,h2]
theorem zHt:zek Tryz.prog 366 [true,true,true,true,false,false,false,false,false] none zqU:=by refine zJj (zgF zzf zo zbS zfQ) (zje (by kernel_rfl)) (by kernel_rfl) ?_;intro avs rs hl hr h;have hb:=ziC hr;unfold zqU at h;split at h;{obtain⟨hc,rfl⟩:=zeb h;obtain⟨N,hN⟩:=zOd _ _ _ (by exact hb) hc;exact⟨_,N,12,(zQZ N _ _ _ ).trans hN⟩};{cases h}
def zW0:zS:=[(365,zx2)]++zPi
theorem zi3:zL zW0:=zh zHu zzf
def z5N:zfn:=[(366,[true,true,true,true,false,false,false,false,false],none,zqU)]++z0E
theorem zc4:zef z5N:=zpk zfQ (by
 intro x hx;simp only[qI,qW,or_false]at hx;rcases hx with rfl
 .exact zHt)
def z2p (h:Host)(m:Int)(cB:Bool)(B:Bare)(o0 o1:Host->Ans):OA:=
 bif zba h then (cond (zfL h m) (cond (cond (zfK h m) false true) (some<|o0 h)<|cond (inb m<|ln h.Mons) (cond (ze1<|ix h.Mons m mZ) (cond cB (cond (ze0 h m B) (some<|o1<|zc5 h m B) none) none) none) none) none) else none
theorem zcx {h:Host}{m:Int}:(zcM h m=true)↔zb1 h=true/\hasB m (ln h.Mons)=true:=by unfold zcM;cases zb1 h<;>simp
theorem zmV {h:Host}{m:Int}{cB:Bool}{B:Bare}{o0 o1:Host->Ans}(hs:SmH h)(hc:zcM h m=true->cB=true)(hB:zcM h m=true->SmB B):z2p h m cB B o0 o1=some (cond (zcM h m) (o1<|zc5 h m B)<|o0 h):=by unfold z2p;refine must (zbp<|(zM h).2 hs) (must rfl ?_);rw[show zfK h m=zcM h m from rfl];cases h0:zcM h m;{rfl};{have h2:=(zcx.1 h0).2;exact zcy rfl (must (zA h2)<|must (zbp<|hs.2.1.2 _<|zby h2 _)<|must (hc h0) (must (zbp ⟨h2,(hB h0).2.1⟩) rfl))}
structure SameB (b c:Bare):Prop where
 g:b.Guests=c.Guests
 p:b.Pending=c.Pending
 o:zbI b=zbI c
theorem SameB.at {b c:Bare}(h:SameB b c)(g:Int):gAt b g=gAt c g:=by unfold gAt;rw[h.g]
theorem SameB.has {b c:Bare}(h:SameB b c)(g:Int):zcb b g=zcb c g:=by unfold zcb;rw[h.g,h.o]
theorem back_eq {h:Host}{m:Int}{b c:Bare}(hg:b.Guests=c.Guests)(hp:b.Pending=c.Pending):zc5 h m b=zc5 h m c:=by unfold zc5 zs6;rw[hg,hp]
theorem zoL {b c:Bare}(hS:SameB b c)(h:Host)(m g:Int)(k:Bool)(x:Guest):zc5 h m (chg b g k x)=zc5 h m (chg c g k x):=by unfold chg;rw[hS.has];cases (cond (zcb c g) k false);{exact back_eq hS.g hS.p};{exact back_eq (by simp only[cT,zdP,hS.g]) hS.p}
theorem zk3 {b c:Bare}(hS:SameB b c)(g:Int)(k:Bool):zcc b g k=zcc c g k:=by unfold zcc;rw[hS.has]
theorem zi9 {h:Host}{m:Int}(h0:zcM h m=true)(hv:zbI (zcU<|ix h.Mons m mZ)=true):SameB (zcU<|ix h.Mons m mZ) (zy h m):=by obtain⟨h1,h2⟩:=zcx.1 h0;refine⟨?_,?_,hv.trans (zua h1 h2).symm⟩<;>unfold zy zcU<;>rw [h2]<;>rfl
theorem z3w:zh6 zKX 8=true:=by decide
theorem znc {h:Host}{m:Int}(h0:zcM h m=true):zbI (zcU<|ix h.Mons m mZ)=true:=by obtain⟨h1,h2⟩:=zcx.1 h0;have:=zua h1 h2;unfold zy at this;rw[h2,cT] at this;unfold zbI at this ⊢;simp only[zcU,z3w] at *;simp_all
theorem zfa {x:Mon}(h:zfY x):SmB (zcU x):=⟨show SmM zKX from ⟨by decide,by decide⟩,h.2.2.2.1,h.2.2.2.2.1⟩
def zhN (h:Host)(m:Int)(b:Bare):Host:=bif zcM h m then zc5 h m b else h
def zgH (h:Host)(m:Int)(ok:Bool):Bool:=bif zcM h m then ok else false
@[simp] abbrev zlW (h:Host)(m:Int)(g p:Int)(s:Slot):Host:=zhN h m (zey (zy h m) g p s)
@[simp] abbrev zlX (h:Host)(m:Int)(g p:Int)(s:Slot):Bool:=zgH h m (zfs (zy h m) g p s)
@[simp] abbrev ziM (h:Host)(m:Int)(g v:Int):Host:=zhN h m (zdg (zy h m) g v)
@[simp] abbrev ziN (h:Host)(m:Int)(g v:Int):Bool:=zgH h m (zd7 (zy h m) g v)
@[simp] abbrev ziQ (h:Host)(m:Int)(g:Int):Host:=zhN h m (zdi (zy h m) g)
@[simp] abbrev ziR (h:Host)(m:Int)(g:Int):Bool:=zgH h m (zd9 (zy h m) g)
@[simp] abbrev ziO (h:Host)(m:Int)(g n:Int):Host:=zhN h m (zdh (zy h m) g n)
@[simp] abbrev ziP (h:Host)(m:Int)(g n:Int):Bool:=zgH h m (zd8 (zy h m) g n)
@[simp] abbrev zlU (h:Host)(m:Int)(g:Int)(x:Ctl):Host:=zhN h m (zex (zy h m) g x)
@[simp] abbrev zlV (h:Host)(m:Int)(g:Int)(x:Ctl):Bool:=zgH h m (zfr (zy h m) g x)
@[simp] abbrev zkv (h:Host)(m:Int)(n:Int):Host:=zhN h m (zeX (zy h m) n)
@[simp] abbrev zkw (h:Host)(m:Int)(n:Int):Bool:=zgH h m (zgy (zy h m) n)
@[simp] abbrev zlR (h:Host)(m:Int):Host:=zhN h m (zeW<|zy h m)
@[simp] abbrev zlS (h:Host)(m:Int):Int:=bif zcM h m then zgg (zy h m) else -1
@[simp] abbrev zlT (h:Host)(m:Int):Bool:=zgH h m (zgh<|zy h m)
@[simp] abbrev zjF (h:Host)(m g p:Int):Bool:=zgH h m (zcc (zy h m) g<|hasB p 4)
theorem zYl {b c:Bare}(hS:SameB b c)(n:Int):(zj9 b n).Guests=(zj9 c n).Guests/\(zj9 b n).Pending=(zj9 c n).Pending/\zfO b n=zfO c n:=by have e:zfO b n=zfO c n:=(by unfold zfO;rw[hS.o]);unfold zj9;rw[e];cases zfO c n;{exact⟨hS.g,hS.p,rfl⟩};{unfold zA4;rw[hS.g];cases ieq (ln<|zen c.Guests n) 0;{exact⟨by simp only[cT,cF],by simp only[cT,cF,hS.p],rfl⟩};{exact⟨by simp only[cT,hS.g],by simp only[cT,hS.p],rfl⟩}}
theorem zYW {b c:Bare}(hS:SameB b c):(zmy b).Guests=(zmy c).Guests/\(zmy b).Pending=(zmy c).Pending/\zrT b=zrT c/\zme b=zme c:=by unfold zmy zrT zme;rw[hS.o,hS.p];cases zbI c;{exact⟨hS.g,hS.p,rfl,rfl⟩};{exact⟨hS.g,rfl,rfl,rfl⟩}
theorem zYF {b:Bare}{n:Int}(h:SmB b):SmB (zj9 b n):=by unfold zj9;cases zfO b n;{exact h};{unfold zA4;cases ieq (ln<|zen b.Guests n) 0;{exact⟨h.1,(zAv _ zId h.2.1).1,h.2.2⟩};{exact h}}
theorem z0q {b:Bare}(h:SmB b):SmB (zmy b):=by unfold zmy;cases zbI b;{exact h};{exact h}
theorem zrB {H H':Host}{x y:Bool}(h1:H=H')(h2:x=y):some [AV.agg<|zbf H,AV.one<|.b x]=some [AV.agg<|zbf H',AV.one<|.b y]:=by rw[h1,h2]
theorem z2I {H H':Host}{n k:Int}{x y:Bool}(h1:H=H')(h2:n=k)(h3:x=y):some [AV.agg<|zbf H,AV.one<|.i .i64 n,AV.one<|.b x]=some [AV.agg<|zbf H',AV.one<|.i .i64 k,AV.one<|.b y]:=by rw[h1,h2,h3]
theorem zUr {b:Bare}(g p:Int)(s:Slot)(hb:SmB b):SmB (zey b g p s):=zph hb (z0t _ _<|zi2 _ hb)
theorem z0m {b c:Bare}(hS:SameB b c)(h:Host)(m:Int)(g p:Int)(s:Slot):zc5 h m (zey b g p s)=zc5 h m (zey c g p s)/\zfs b g p s=zfs c g p s:=by have e:=hS.at g;simp only[zey,zfs,e];exact⟨zoL hS _ _ _ _ _,zk3 hS _ _⟩
@[simp] abbrev zux (h:Host)(m:Int)(g p:Int)(s:Slot):Bool:=pc (zcJ h)
def zxT:Run:=rF5 dH dI dI dI (dT .slot) λb c d e f=>(zux b c d e f,[aH<|zlW b c d e f,aB<|zlX b c d e f])
def zCp (N:Nat)(a0:Host)(a1 a2 a3:Int)(a4:Slot):OA:=
 let y1:=zk a0;let y0:=ix y1.Mons a1 zf; (oN (zba a0)<|oN (zfL y1 a1)<|cond (nB<|zfK y1 a1) (some [aH y1,aB false])<|oN (inb a1<|ln y1.Mons)<|oN (ze1 y0)<|oN (zpR (zbF y0) a2 a3 a4)<|oN (ze0 y1 a1<|zey (zbF y0) a2 a3 a4)<|some [aH<|zhq y1 a1<|zey (zbF y0) a2 a3 a4,aB<|zfs (zbF y0) a2 a3 a4])
theorem zNT (a0:Host)(a1 a2 a3:Int)(a4:Slot)(hc:zux a0 a1 a2 a3 a4=true):∃N,zCp N a0 a1 a2 a3 a4=some [aH<|zlW a0 a1 a2 a3 a4,aB<|zlX a0 a1 a2 a3 a4]:=by
 have hs:=(zM a0).1 (zK.1 hc);refine⟨0,?_⟩;have key:=zmV (h:=a0) (m:=a1) (cB:=zpR (zcU<|ix a0.Mons a1 mZ) a2 a3 a4) (B:=zey (zcU<|ix a0.Mons a1 mZ) a2 a3 a4) (o0:=λH=>[.agg<|zbf H,.one<|.b false]) (o1:=λH=>[.agg<|zbf H,.one<|.b<|zfs (zcU<|ix a0.Mons a1 mZ) a2 a3 a4]) hs
  (λh0=>zbp (zfa<|hs.2.1.2 _<|zby (zcx.1 h0).2 _)) (λh0=>zUr _ _ _ (zfa<|hs.2.1.2 _<|zby (zcx.1 h0).2 _))
 refine(show zCp 0 a0 a1 a2 a3 a4=_ from key).trans ?_;unfold zlW zlX zhN zgH;cases h0:zcM a0 a1;{rfl};{obtain⟨e1,e2⟩:=z0m (zi9 h0<|znc h0) a0 a1 a2 a3 a4;simp only[cT];exact zrB e1 e2}
theorem zG4:vJ 320 zxT:=kF5 zi3 zo zbS zc4 (zx []) zNT
theorem zIs {b:Bare}(g v:Int)(hb:SmB b):SmB (zdg b g v):=zph hb (z0r _<|zi2 _ hb)
theorem zTr {b c:Bare}(hS:SameB b c)(h:Host)(m:Int)(g v:Int):zc5 h m (zdg b g v)=zc5 h m (zdg c g v)/\zd7 b g v=zd7 c g v:=by have e:=hS.at g;simp only[zdg,zd7,e];exact⟨zoL hS _ _ _ _ _,zk3 hS _ _⟩
@[simp] abbrev zpc (h:Host)(m:Int)(g v:Int):Bool:=pc (zcJ h)
def zsp:Run:=rF4 dH dI dI dI λb c d e=>(zpc b c d e,[aH<|ziM b c d e,aB<|ziN b c d e])
def zuT (N:Nat)(a0:Host)(a1 a2 a3:Int):OA:=
 let y1:=zk a0;let y0:=ix y1.Mons a1 zf; (oN (zba a0)<|oN (zfL y1 a1)<|cond (nB<|zfK y1 a1) (some [aH y1,aB false])<|oN (inb a1<|ln y1.Mons)<|oN (ze1 y0)<|oN (zls (zbF y0) a2 a3)<|oN (ze0 y1 a1<|zdg (zbF y0) a2 a3)<|some [aH<|zhq y1 a1<|zdg (zbF y0) a2 a3,aB<|zd7 (zbF y0) a2 a3])
theorem zEQ (a0:Host)(a1 a2 a3:Int)(hc:zpc a0 a1 a2 a3=true):∃N,zuT N a0 a1 a2 a3=some [aH<|ziM a0 a1 a2 a3,aB<|ziN a0 a1 a2 a3]:=by
 have hs:=(zM a0).1 (zK.1 hc);refine⟨0,?_⟩;have key:=zmV (h:=a0) (m:=a1) (cB:=zls (zcU<|ix a0.Mons a1 mZ) a2 a3) (B:=zdg (zcU<|ix a0.Mons a1 mZ) a2 a3) (o0:=λH=>[.agg<|zbf H,.one<|.b false]) (o1:=λH=>[.agg<|zbf H,.one<|.b<|zd7 (zcU<|ix a0.Mons a1 mZ) a2 a3]) hs
  (λh0=>zbp (zfa<|hs.2.1.2 _<|zby (zcx.1 h0).2 _)) (λh0=>zIs _ _ (zfa<|hs.2.1.2 _<|zby (zcx.1 h0).2 _))
 refine(show zuT 0 a0 a1 a2 a3=_ from key).trans ?_;unfold ziM ziN zhN zgH;cases h0:zcM a0 a1;{rfl};{obtain⟨e1,e2⟩:=zTr (zi9 h0<|znc h0) a0 a1 a2 a3;simp only[cT];exact zrB e1 e2}
theorem zzy:vJ 322 zsp:=kF4 zi3 zo zbS zc4 (zx []) zEQ
theorem zIu {b:Bare}(g:Int)(hb:SmB b):SmB (zdi b g):=zph hb (z0s<|zi2 _ hb)
theorem zTt {b c:Bare}(hS:SameB b c)(h:Host)(m:Int)(g:Int):zc5 h m (zdi b g)=zc5 h m (zdi c g)/\zd9 b g=zd9 c g:=by have e:=hS.at g;simp only[zdi,zd9,e];exact⟨zoL hS _ _ _ _ _,zk3 hS _ _⟩
@[simp] abbrev zpe (h:Host)(m:Int)(g:Int):Bool:=pc (zcJ h)
def zsr:Run:=rF3 dH dI dI λb c d=>(zpe b c d,[aH<|ziQ b c d,aB<|ziR b c d])
def zuV (N:Nat)(a0:Host)(a1 a2:Int):OA:=
 let y1:=zk a0;let y0:=ix y1.Mons a1 zf; (oN (zba a0)<|oN (zfL y1 a1)<|cond (nB<|zfK y1 a1) (some [aH y1,aB false])<|oN (inb a1<|ln y1.Mons)<|oN (ze1 y0)<|oN (zc1 (zbF y0) a2)<|oN (ze0 y1 a1<|zdi (zbF y0) a2)<|some [aH<|zhq y1 a1<|zdi (zbF y0) a2,aB<|zd9 (zbF y0) a2])
theorem zES (a0:Host)(a1 a2:Int)(hc:zpe a0 a1 a2=true):∃N,zuV N a0 a1 a2=some [aH<|ziQ a0 a1 a2,aB<|ziR a0 a1 a2]:=by
 have hs:=(zM a0).1 (zK.1 hc);refine⟨0,?_⟩;have key:=zmV (h:=a0) (m:=a1) (cB:=zc1 (zcU<|ix a0.Mons a1 mZ) a2) (B:=zdi (zcU<|ix a0.Mons a1 mZ) a2) (o0:=λH=>[.agg<|zbf H,.one<|.b false]) (o1:=λH=>[.agg<|zbf H,.one<|.b<|zd9 (zcU<|ix a0.Mons a1 mZ) a2]) hs
  (λh0=>zbp (zfa<|hs.2.1.2 _<|zby (zcx.1 h0).2 _)) (λh0=>zIu _ (zfa<|hs.2.1.2 _<|zby (zcx.1 h0).2 _))
 refine(show zuV 0 a0 a1 a2=_ from key).trans ?_;unfold ziQ ziR zhN zgH;cases h0:zcM a0 a1;{rfl};{obtain⟨e1,e2⟩:=zTt (zi9 h0<|znc h0) a0 a1 a2;simp only[cT];exact zrB e1 e2}
theorem zzB:vJ 323 zsr:=kF3 zi3 zo zbS zc4 (zx []) zES
theorem zIt {b:Bare}(g n:Int)(hb:SmB b):SmB (zdh b g n):=zph hb (zi2 (b:=b) _ hb)
theorem zTs {b c:Bare}(hS:SameB b c)(h:Host)(m:Int)(g n:Int):zc5 h m (zdh b g n)=zc5 h m (zdh c g n)/\zd8 b g n=zd8 c g n:=by have e:=hS.at g;simp only[zdh,zd8,e];exact⟨zoL hS _ _ _ _ _,zk3 hS _ _⟩
@[simp] abbrev zpd (h:Host)(m:Int)(g n:Int):Bool:=pc (zcJ h)
def zsq:Run:=rF4 dH dI dI dI λb c d e=>(zpd b c d e,[aH<|ziO b c d e,aB<|ziP b c d e])
def zuU (N:Nat)(a0:Host)(a1 a2 a3:Int):OA:=
 let y1:=zk a0;let y0:=ix y1.Mons a1 zf; (oN (zba a0)<|oN (zfL y1 a1)<|cond (nB<|zfK y1 a1) (some [aH y1,aB false])<|oN (inb a1<|ln y1.Mons)<|oN (ze1 y0)<|oN (zlt (zbF y0) a2 a3)<|oN (ze0 y1 a1<|zdh (zbF y0) a2 a3)<|some [aH<|zhq y1 a1<|zdh (zbF y0) a2 a3,aB<|zd8 (zbF y0) a2 a3])
theorem zER (a0:Host)(a1 a2 a3:Int)(hc:zpd a0 a1 a2 a3=true):∃N,zuU N a0 a1 a2 a3=some [aH<|ziO a0 a1 a2 a3,aB<|ziP a0 a1 a2 a3]:=by
 have hs:=(zM a0).1 (zK.1 hc);refine⟨0,?_⟩;have key:=zmV (h:=a0) (m:=a1) (cB:=zlt (zcU<|ix a0.Mons a1 mZ) a2 a3) (B:=zdh (zcU<|ix a0.Mons a1 mZ) a2 a3) (o0:=λH=>[.agg<|zbf H,.one<|.b false]) (o1:=λH=>[.agg<|zbf H,.one<|.b<|zd8 (zcU<|ix a0.Mons a1 mZ) a2 a3]) hs
  (λh0=>zbp (zfa<|hs.2.1.2 _<|zby (zcx.1 h0).2 _)) (λh0=>zIt _ _ (zfa<|hs.2.1.2 _<|zby (zcx.1 h0).2 _))
 refine(show zuU 0 a0 a1 a2 a3=_ from key).trans ?_;unfold ziO ziP zhN zgH;cases h0:zcM a0 a1;{rfl};{obtain⟨e1,e2⟩:=zTs (zi9 h0<|znc h0) a0 a1 a2 a3;simp only[cT];exact zrB e1 e2}
theorem zzA:vJ 324 zsq:=kF4 zi3 zo zbS zc4 (zx []) zER
theorem zUq {b:Bare}(g:Int)(x:Ctl)(hb:SmB b):SmB (zex b g x):=zph hb (zi2 (b:=b) _ hb)
theorem z0l {b c:Bare}(hS:SameB b c)(h:Host)(m:Int)(g:Int)(x:Ctl):zc5 h m (zex b g x)=zc5 h m (zex c g x)/\zfr b g x=zfr c g x:=by have e:=hS.at g;simp only[zex,zfr,e];exact⟨zoL hS _ _ _ _ _,zk3 hS _ _⟩
@[simp] abbrev zuu (h:Host)(m:Int)(g:Int)(x:Ctl):Bool:=pc (zcJ h)
def zxQ:Run:=rF4 dH dI dI dC λb c d e=>(zuu b c d e,[aH<|zlU b c d e,aB<|zlV b c d e])
def zCm (N:Nat)(a0:Host)(a1 a2:Int)(a3:Ctl):OA:=
 let y1:=zk a0;let y0:=ix y1.Mons a1 zf; (oN (zba a0)<|oN (zfL y1 a1)<|cond (nB<|zfK y1 a1) (some [aH y1,aB false])<|oN (inb a1<|ln y1.Mons)<|oN (ze1 y0)<|oN (zpQ (zbF y0) a2 a3)<|oN (ze0 y1 a1<|zex (zbF y0) a2 a3)<|some [aH<|zhq y1 a1<|zex (zbF y0) a2 a3,aB<|zfr (zbF y0) a2 a3])
theorem zNQ (a0:Host)(a1 a2:Int)(a3:Ctl)(hc:zuu a0 a1 a2 a3=true):∃N,zCm N a0 a1 a2 a3=some [aH<|zlU a0 a1 a2 a3,aB<|zlV a0 a1 a2 a3]:=by
 have hs:=(zM a0).1 (zK.1 hc);refine⟨0,?_⟩;have key:=zmV (h:=a0) (m:=a1) (cB:=zpQ (zcU<|ix a0.Mons a1 mZ) a2 a3) (B:=zex (zcU<|ix a0.Mons a1 mZ) a2 a3) (o0:=λH=>[.agg<|zbf H,.one<|.b false]) (o1:=λH=>[.agg<|zbf H,.one<|.b<|zfr (zcU<|ix a0.Mons a1 mZ) a2 a3]) hs
  (λh0=>zbp (zfa<|hs.2.1.2 _<|zby (zcx.1 h0).2 _)) (λh0=>zUq _ _ (zfa<|hs.2.1.2 _<|zby (zcx.1 h0).2 _))
 refine(show zCm 0 a0 a1 a2 a3=_ from key).trans ?_;unfold zlU zlV zhN zgH;cases h0:zcM a0 a1;{rfl};{obtain⟨e1,e2⟩:=z0l (zi9 h0<|znc h0) a0 a1 a2 a3;simp only[cT];exact zrB e1 e2}
theorem zG1:vJ 325 zxQ:=kF4 zi3 zo zbS zc4 (zx []) zNQ
theorem zRD {b:Bare}(n:Int)(hb:SmB b):SmB (zeX b n):=zYF hb
theorem zYy {b c:Bare}(hS:SameB b c)(h:Host)(m n:Int):zc5 h m (zeX b n)=zc5 h m (zeX c n)/\zgy b n=zgy c n:=by obtain⟨e1,e2,e3⟩:=zYl hS n;exact⟨back_eq e1 e2,e3⟩
@[simp] abbrev zsz (h:Host)(m:Int)(n:Int):Bool:=pc (zcJ h)
def zvC:Run:=rF3 dH dI dI λb c d=>(zsz b c d,[aH<|zkv b c d,aB<|zkw b c d])
def zyP (N:Nat)(a0:Host)(a1 a2:Int):OA:=
 let y1:=zk a0;let y0:=ix y1.Mons a1 zf; (oN (zba a0)<|oN (zfL y1 a1)<|cond (nB<|zfK y1 a1) (some [aH y1,aB false])<|oN (inb a1<|ln y1.Mons)<|oN (ze1 y0)<|oN (zfE (zbF y0) a2)<|oN (ze0 y1 a1<|zeX (zbF y0) a2)<|some [aH<|zhq y1 a1<|zeX (zbF y0) a2,aB<|zgy (zbF y0) a2])
theorem zKF (a0:Host)(a1 a2:Int)(hc:zsz a0 a1 a2=true):∃N,zyP N a0 a1 a2=some [aH<|zkv a0 a1 a2,aB<|zkw a0 a1 a2]:=by
 have hs:=(zM a0).1 (zK.1 hc);refine⟨0,?_⟩;have key:=zmV (h:=a0) (m:=a1) (cB:=zfE (zcU<|ix a0.Mons a1 mZ) a2) (B:=zeX (zcU<|ix a0.Mons a1 mZ) a2) (o0:=λH=>[.agg<|zbf H,.one<|.b false]) (o1:=λH=>[.agg<|zbf H,.one<|.b<|zgy (zcU<|ix a0.Mons a1 mZ) a2]) hs
  (λh0=>zbp (zfa<|hs.2.1.2 _<|zby (zcx.1 h0).2 _)) (λh0=>zRD _ (zfa<|hs.2.1.2 _<|zby (zcx.1 h0).2 _))
 refine(show zyP 0 a0 a1 a2=_ from key).trans ?_;unfold zkv zkw zhN zgH;cases h0:zcM a0 a1;{rfl};{obtain⟨e1,e2⟩:=zYy (zi9 h0<|znc h0) a0 a1 a2;simp only[cT];exact zrB e1 e2}
theorem zEn:vJ 327 zvC:=kF3 zi3 zo zbS zc4 (zx []) zKF
theorem zUp {b:Bare}(hb:SmB b):SmB (zeW b):=z0q hb
theorem z0k {b c:Bare}(hS:SameB b c)(h:Host)(m:Int):zc5 h m (zeW b)=zc5 h m (zeW c)/\zgg b=zgg c/\zgh b=zgh c:=by obtain⟨e1,e2,e3,e4⟩:=zYW hS;exact⟨back_eq e1 e2,e3,e4⟩
def zxO:Run:=rF2 dH dI λb c=>(zeQ b c,[aH<|zlR b c,aI<|zlS b c,aB<|zlT b c])
def zCk (N:Nat)(a0:Host)(a1:Int):OA:=
 let y1:=zk a0;let y0:=ix y1.Mons a1 zf; (oN (zba a0)<|oN (zfL y1 a1)<|cond (nB<|zfK y1 a1) (some [aH y1,aI<|-1,aB false])<|oN (inb a1<|ln y1.Mons)<|oN (ze1 y0)<|oN (zch<|zbF y0)<|oN (ze0 y1 a1<|zeW<|zbF y0)<|some [aH<|zhq y1 a1<|zeW<|zbF y0,aI<|zgg<|zbF y0,aB<|zgh<|zbF y0])
theorem zNO (a0:Host)(a1:Int)(hc:zeQ a0 a1=true):∃N,zCk N a0 a1=some [aH<|zlR a0 a1,aI<|zlS a0 a1,aB<|zlT a0 a1]:=by
 have hs:=(zM a0).1 (zK.1 hc);refine⟨0,?_⟩;have key:=zmV (h:=a0) (m:=a1) (cB:=zch (zcU<|ix a0.Mons a1 mZ)) (B:=zeW (zcU<|ix a0.Mons a1 mZ)) (o0:=λH=>[.agg<|zbf H,.one<|.i .i64<|-1,.one<|.b false]) (o1:=λH=>[.agg<|zbf H,.one<|.i .i64<|zgg<|zcU<|ix a0.Mons a1 mZ,.one<|.b<|zgh<|zcU<|ix a0.Mons a1 mZ]) hs
  (λh0=>zbp (zfa<|hs.2.1.2 _<|zby (zcx.1 h0).2 _)) (λh0=>zUp (zfa<|hs.2.1.2 _<|zby (zcx.1 h0).2 _))
 refine(show zCk 0 a0 a1=_ from key).trans ?_;unfold zlR zlS zlT zhN zgH;cases h0:zcM a0 a1;{rfl};{obtain⟨e1,e2,e3⟩:=z0k (zi9 h0<|znc h0) a0 a1;simp only[cT];exact z2I e1 e2 e3}
theorem zGZ:vJ 328 zxO:=kF2 zi3 zo zbS zc4 (zx []) zNO
def zW1:zS:=[(320,zxT),(322,zsp),(323,zsr),(324,zsq),(325,zxQ),(327,zvC),(328,zxO)]++zW0
theorem zp8:zL zW1:=zh zG4 (zh zzy<|zh zzB<|zh zzA<|zh zG1<|zh zEn<|zh zGZ zi3)
def zjy (h:Host)(m t:Int):Host:=bif zb1 h then (cond (hasB m<|ln h.Mons) (cond (zi t 0 3) {h with Mons:=up h.Mons m {ix h.Mons m mZ with Traps:=t}} h) h) else h
def zw1 (h:Host)(m t:Int):Bool:=bif zb1 h then (cond (hasB m<|ln h.Mons) (zi t 0 3) false) else false
@[simp] abbrev zsE (h:Host)(m t:Int):Bool:=pc (zcJ h)
@[simp] abbrev zon (h:Host)(m t:Int):Host:=zjy h m t
@[simp] abbrev zoo (h:Host)(m t:Int):Bool:=zw1 h m t
def zvJ:Run:=rF3 dH dI dI λb c d=>(zsE b c d,[aH<|zon b c d,aB<|zoo b c d])
def zyX (N:Nat)(a0:Host)(a1 a2:Int):OA:=
 let y0:=zk a0; (oN (zba a0)<|oN (zdn y0)<|cond (nB<|zdw y0) (some [aH y0,aB false])<|oN (zI a1 0<|wsub .i64 (ln y0.Mons) 1)<|cond (nB<|zi a1 0<|wsub .i64 (ln y0.Mons) 1) (some [aH y0,aB false])<|oN (zI a2 0 3)<|cond (nB<|zi a2 0 3) (some [aH y0,aB false])<|oN (inb a1<|ln y0.Mons)<|share (up y0.Mons a1 ({ (ix y0.Mons a1 zf) with Traps:=a2}:Mon)) λx4=>some [aH ({y0 with Mons:=x4}:Host),aB true])
theorem zKN (a0:Host)(a1 a2:Int)(hc:zsE a0 a1 a2=true):∃N,zyX N a0 a1 a2=some [aH<|zon a0 a1 a2,aB<|zoo a0 a1 a2]:=by
 have hs:=(zM a0).1 (zK.1 hc);refine⟨0,?_⟩;unfold zyX zon zoo zjy zw1 oN nB;conv=>zeta
 refine must hc (must rfl ?_);rw[show zdw (zk a0)=zb1 a0 from rfl];cases hh:zb1 a0;{rfl};{refine zcy rfl (must rfl ?_);rw[show zi a1 0 (wsub .i64 (ln (zk a0).Mons) 1)=hasB a1 (ln a0.Mons) from zLB hh a1];cases hm:hasB a1 (ln a0.Mons);{rfl};{refine zcy rfl (must rfl ?_);rw[show zi a2 0 3=zi a2 0 3 from rfl];cases ht:zi a2 0 3;{rfl};{exact zcy rfl (must (zA hm) rfl)}}}
theorem zEx:vJ 359 zvJ:=kF3 zp8 zo zbS zc4 (zx []) zKN
theorem zik {h:Host}{m p:Int}:(zb3 h m p=true)↔zb1 h=true/\hasB m (ln h.Mons)=true/\hasB p 8=true:=by unfold zb3;cases zb1 h<;>cases hasB m (ln h.Mons)<;>simp
def zg5 (h:Host)(m p:Int):Bool:=ieq (ix (ix h.Mons m mZ).Outer p sZ).Page (-1)
def zeH (h:Host)(m p:Int):Host:=bif zb3 h m p then (cond (zg5 h m p) h<|zdk h m p) else h
def ztt (h:Host)(m p:Int):Bool:=bif zb3 h m p then !zg5 h m p else false
def zsj (h:Host)(m p:Int):Host:=bif zb3 h m p then (cond (zg5 h m p) (fetched h m p) h) else h
def zEZ (h:Host)(m p:Int):Bool:=bif zb3 h m p then zg5 h m p else false
@[simp] abbrev zil (h:Host)(m p:Int):Host:=zeH h m p
@[simp] abbrev zjW (h:Host)(m p:Int):Bool:=ztt h m p
@[simp] abbrev zrt (h:Host)(m p:Int):Host:=zsj h m p
@[simp] abbrev zru (h:Host)(m p:Int):Bool:=zEZ h m p
theorem zH1 {h:Host}(hs:SmH h)(hh:zb1 h=true){m p:Int}(hm:hasB m (ln h.Mons)=true)(hp:hasB p 8=true) :
 (cond (ieq (ix (ix h.Mons m mZ).Outer p sZ).Page<|-1) (ieq (ix (ix h.Mons m mZ).Outer p sZ).Rights 0) false)=zg5 h m p:=by
 have hf:=(zri (zhb hh _<|zby hm mZ) hp).no;unfold zcT at hf;unfold zg5;rw[<- hf];cases h1:ieq (ix (ix h.Mons m mZ).Outer p sZ).Page (-1)<;>simp [noSlot,h1]
theorem zz1 {h:Host}(hs:SmH h)(hh:zb1 h=true){m p:Int}(hm:hasB m (ln h.Mons)=true)(hp:hasB p 8=true):inb p (ln (ix h.Mons m mZ).Outer)=true :=
 zA (by rw[ln,((ze3 hs hh).1.2 _ (zby hm mZ)).1];exact hp)
def zjH:Run:=rF3 dH dI dI λb c d=>(zgA b c d,[aH<|zil b c d,aB<|zjW b c d])
def zCt (N:Nat)(a0:Host)(a1 a2:Int):OA:=
 let y1:=zk a0;let y0:=(ix y1.Mons a1 zf).Outer; (oN (zba a0)<|oN (zi8 y1 a1 a2)<|cond (nB<|zei y1 a1 a2) (some [aH y1,aB false])<|oN (inb a1<|ln y1.Mons)<|oN (inb a2<|ln y0)<|oN zbE<|cond (cond (ieq (ix y0 a2 zO).Page zW.Page) (ieq (ix y0 a2 zO).Rights zW.Rights) false) (some [aH y1,aB false])<|oN (zib y1 a1 a2)<|some [aH<|zkN y1 a1 a2,aB true])
theorem zNW (a0:Host)(a1 a2:Int)(hc:zgA a0 a1 a2=true):∃N,zCt N a0 a1 a2=some [aH<|zil a0 a1 a2,aB<|zjW a0 a1 a2]:=by
 have hs:=(zM a0).1 (zK.1 hc);refine⟨0,?_⟩;unfold zCt zil zjW zeH ztt oN nB;conv=>zeta
 refine must hc (must rfl ?_);rw[show zei (zk a0) a1 a2=zb3 a0 a1 a2 from rfl];cases h0:zb3 a0 a1 a2;{rfl};{obtain⟨hh,hm,hp⟩:=zik.1 h0;refine zcy rfl (must (zA hm)<|must (zz1 hs hh hm hp) (must rfl ?_));rw[show (cond (ieq (ix (ix (zk a0).Mons a1 zf).Outer a2 zO).Page zW.Page) (ieq (ix (ix (zk a0).Mons a1 zf).Outer a2 zO).Rights zW.Rights) false)=zg5 a0 a1 a2 from zH1 hs hh hm hp];cases h1:zg5 a0 a1 a2;{exact zcy rfl (must (zbp ⟨(ze3 hs hh).1,hm,hp⟩) rfl)};{rfl}}
theorem zG9:vJ 356 zjH:=kF3 zp8 zo zbS zc4 (zx []) zNW
def zB4 (N:Nat)(a0:Host)(a1 a2:Int):OA:=
 let y0:=(ix a0.Mons a1 zf).Outer; (oN (zba a0)<|oN (zi8 a0 a1 a2)<|cond (nB<|zei a0 a1 a2) (some [aH<|zk a0,aB false])<|oN (inb a1<|ln a0.Mons)<|oN (inb a2<|ln y0)<|cond (ieq (ix y0 a2 zO).Page<|-1) (some [aH<|zk a0,aB false])<|oN (zib (zk a0) a1 a2)<|some [aH<|zkN (zk a0) a1 a2,aB true])
theorem zNA (a0:Host)(a1 a2:Int)(hc:zgA a0 a1 a2=true):∃N,zB4 N a0 a1 a2=some [aH<|zil a0 a1 a2,aB<|zjW a0 a1 a2]:=by
 have hs:=(zM a0).1 (zK.1 hc);refine⟨0,?_⟩;unfold zB4 zil zjW zeH ztt oN nB;conv=>zeta
 refine must hc (must rfl ?_);rw[show zei a0 a1 a2=zb3 a0 a1 a2 from rfl];cases h0:zb3 a0 a1 a2;{rfl};{obtain⟨hh,hm,hp⟩:=zik.1 h0;refine zcy rfl (must (zA hm)<|must (zz1 hs hh hm hp) ?_);rw[show ieq (ix (ix a0.Mons a1 zf).Outer a2 zO).Page (-1)=zg5 a0 a1 a2 from rfl];cases h1:zg5 a0 a1 a2;{exact zcy rfl (must (zbp ⟨(ze3 hs hh).1,hm,hp⟩) rfl)};{rfl}}
theorem ztj:vJ 21 zjH:=kF3 zp8 zo zbS zc4 (zx []) zNA
def zAe:Run:=rF3 dH dI dI λb c d=>(zgA b c d,[aH<|zrt b c d,aB<|zru b c d])
def zFM (N:Nat)(a0:Host)(a1 a2:Int):OA:=
 let y1:=zk a0;let y0:=(ix y1.Mons a1 zf).Outer; (oN (zba a0)<|oN (zi8 y1 a1 a2)<|cond (nB<|zei y1 a1 a2) (some [aH y1,aB false])<|oN (inb a1<|ln y1.Mons)<|oN (inb a2<|ln y0)<|oN zbE<|cond (nB<|cond (ieq (ix y0 a2 zO).Page zW.Page) (ieq (ix y0 a2 zO).Rights zW.Rights) false) (some [aH y1,aB false])<|oN (zkM y1 a1 a2)<|some [aH<|zlA y1 a1 a2,aB true])
theorem zQA (a0:Host)(a1 a2:Int)(hc:zgA a0 a1 a2=true):∃N,zFM N a0 a1 a2=some [aH<|zrt a0 a1 a2,aB<|zru a0 a1 a2]:=by
 have hs:=(zM a0).1 (zK.1 hc);refine⟨0,?_⟩;unfold zFM zrt zru zsj zEZ oN nB;conv=>zeta
 refine must hc (must rfl ?_);rw[show zei (zk a0) a1 a2=zb3 a0 a1 a2 from rfl];cases h0:zb3 a0 a1 a2;{rfl};{obtain⟨hh,hm,hp⟩:=zik.1 h0;refine zcy rfl (must (zA hm)<|must (zz1 hs hh hm hp) (must rfl ?_));rw[show (cond (ieq (ix (ix (zk a0).Mons a1 zf).Outer a2 zO).Page zW.Page) (ieq (ix (ix (zk a0).Mons a1 zf).Outer a2 zO).Rights zW.Rights) false)=zg5 a0 a1 a2 from zH1 hs hh hm hp];cases h1:zg5 a0 a1 a2;{rfl};{exact zcy rfl (must (zbp ⟨ze3 hs hh,hm,hp⟩) rfl)}}
theorem zJZ:vJ 357 zAe:=kF3 zp8 zo zbS zc4 (zx []) zQA
def zW2:zS:=[(359,zvJ),(356,zjH),(21,zjH),(357,zAe)]++zW1
theorem zL6:zL zW2:=zh zEx (zh zG9<|zh ztj<|zh zJZ zp8)
theorem zWx {x:Mon}{b:Bare}(h:zfY x)(hb:zmx b.Guests):zfY (zs6 x b):=⟨h.1,h.2.1,h.2.2.1,hb,h.2.2.2.2⟩
theorem zE7 {h:Host}{m:Int}{b:Bare}(hs:SmH h)(hm:hasB m (ln h.Mons)=true)(hb:zmx b.Guests):SmH (zc5 h m b):=
 ⟨hs.1,zja hs.2.1<|zWx (hs.2.1.2 _<|zby hm _) hb,hs.2.2⟩
theorem zO4 {h:Host}{m:Int}(b:Bare)(hm:hasB m (ln h.Mons)=true):hasB m (ln (zc5 h m b).Mons)=true:=by show hasB m (ln<|up h.Mons m _)=true;rw[ln,zgZ];exact hm
theorem z2x {h:Host}{m:Int}(b:Bare)(hm:hasB m (ln h.Mons)=true):ix (zc5 h m b).Mons m mZ=zs6 (ix h.Mons m mZ) b:=by obtain⟨k,rfl,hk⟩:=zdX (n:=h.Mons.length) hm;exact zd5 hk _ _
def zzl (h:Host)(m g p:Int):Host:=⟨h.Memory,up h.Mons m {ix h.Mons m mZ with Tables:=up (ix h.Mons m mZ).Tables g (zbR (ix (ix h.Mons m mZ).Tables g kZ) p)},zcB h.Buffer (zd1 m g) p,zcB h.IoBuffer (zd1 m g) p⟩
def zXv (H:Host)(m g p:Int)(o:Host->Ans):OA:=
 bif inb m (ln H.Mons) then (bif inb m (ln H.Mons) then (bif inb g (ln (ix H.Mons m mZ).Tables) then (bif zdv (ix (ix H.Mons m mZ).Tables g kZ) p then (bif inb g (ln (ix H.Mons m mZ).Tables) then (share (up H.Mons m {ix H.Mons m mZ with Tables:=up (ix H.Mons m mZ).Tables g (zbR (ix (ix H.Mons m mZ).Tables g kZ) p)}) λx=>
  (cond (zhj m g) (cond (ze6 H.Buffer (zd1 m g) p) (cond (zhj m g) (cond (ze6 H.IoBuffer (zd1 m g) p) (some<|o ⟨H.Memory,x,zcB H.Buffer (zd1 m g) p,zcB H.IoBuffer (zd1 m g) p⟩) none) none) none) none)) else none) else none) else none) else none) else none
theorem zXw {H:Host}{m g p:Int}{o:Host->Ans}(hs:SmH H)(hm:hasB m (ln H.Mons)=true)(hg:hasB g (ln (ix H.Mons m mZ).Tables)=true):zXv H m g p o=some (o<|zzl H m g p):=by have hx:=hs.2.1.2 _ (zby hm mZ);unfold zXv;exact must (zA hm) (must (zA hm)<|must (zA hg)<|must (zbp<|hx.2.2.2.2.2.2 _<|zby hg _)<|must (zA hg)<|shr (must rfl (must (zbp hs.2.2.1) (must rfl (must (zbp hs.2.2.2) rfl)))))
def zkq (h:Host)(m g p:Int):Host:=bif zcM h m then (cond (zcc (zy h m) g<|hasB p 4) (zzl (zc5 h m<|chg (zy h m) g (hasB p 4)<|zd2 (gAt (zy h m) g) p) m g p) h) else h
@[simp] abbrev zqX (h:Host)(m g p:Int):Bool:=pc (zcJ h)
@[simp] abbrev zms (h:Host)(m g p:Int):Host:=zkq h m g p
theorem zTu {h:Host}{m:Int}(hm:hasB m (ln h.Mons)=true):(zy h m).Guests=(ix h.Mons m mZ).Guests:=by unfold zy;rw[hm];rfl
theorem zMk {h:Host}{m g:Int}{k:Bool}(hs:SmH h)(h0:zcM h m=true)(b:Bare)(hk:zcc (zy h m) g k=true):hasB g (ln (ix (zc5 h m b).Mons m mZ).Tables)=true:=by obtain⟨hh,hm⟩:=zcx.1 h0;rw[z2x b hm];show hasB g (ln (ix h.Mons m mZ).Tables)=true;rw[ln,((ze3 hs hh).1.2 _ (zby hm mZ)).2.2.2,<- zTu hm];unfold zcc at hk;cases hb:zcb (zy h m) g;{rw [hb]at hk;cases hk};{exact(zdR.1 hb).2}
def ztE:Run:=rF4 dH dI dI dI λb c d e=>(zqX b c d e,[aH<|zms b c d e,aB<|zjF b c d e])
def zxr (N:Nat)(a0:Host)(a1 a2 a3:Int):OA:=
 let y5:=zjZ a1 a2;let y3:=zk a0;let y2:=ix y3.Mons a1 zf;let y0:=zhq y3 a1<|ze4 (zbF y2) a2 a3;let y1:=ix y0.Mons a1 zf;let y4:=ix y1.Tables a2 ze2; (oN (zba a0)<|oN (zfL y3 a1)<|cond (nB<|zfK y3 a1) (some [aH y3,aB false])<|oN (inb a1<|ln y3.Mons)<|oN (ze1 y2)<|oN (zqV (zbF y2) a2 a3)<|cond (nB<|zhW (zbF y2) a2 a3) (some [aH y3,aB false])<|oN (ze0 y3 a1<|ze4 (zbF y2) a2 a3)<|oN (inb a1<|ln y0.Mons)<|oN (inb a1<|ln y0.Mons)<|oN (inb a2<|ln y1.Tables)<|oN (zdv y4 a3)<|oN (inb a2<|ln y1.Tables)<|share (up y0.Mons a1 ({y1 with Tables:=(up y1.Tables a2<|zgT y4 a3)}:Mon)) λx5=>oN (zhj a1 a2)<|oN (ze6 y0.Buffer y5 a3)<|oN (zhj a1 a2)<|oN (ze6 y0.IoBuffer y5 a3)<|some [aH (⟨y0.Memory,x5,zhf y0.Buffer y5 a3,zhf y0.IoBuffer y5 a3⟩:Host),aB true])
theorem zHS (a0:Host)(a1 a2 a3:Int)(hb:zbC big [aH a0,aI a1,aI a2,aI a3])(hc:zqX a0 a1 a2 a3=true):∃N,zxr N a0 a1 a2 a3=some [aH<|zms a0 a1 a2 a3,aB<|zjF a0 a1 a2 a3]:=by
 have hs:=(zM a0).1 (zK.1 hc);refine⟨0,?_⟩;unfold zxr zms zjF zkq zgH oN nB;conv=>zeta
 refine must hc (must rfl ?_);rw[show zfK (zk a0) a1=zcM a0 a1 from rfl];cases h0:zcM a0 a1;{rfl};{obtain⟨hh,hm⟩:=zcx.1 h0;have hx:=hs.2.1.2 _ (zby hm mZ);have hv:=zfa hx;have hS:=zi9 h0 (znc h0);have hk:zcc (zcU<|ix a0.Mons a1 mZ) a2 (hasB a3 4)=zcc (zy a0 a1) a2 (hasB a3 4):=zk3 hS _ _;have hB:zc5 a0 a1 (ze4 (zcU<|ix a0.Mons a1 mZ) a2 a3)=zc5 a0 a1 (chg (zy a0 a1) a2 (hasB a3 4)<|zd2 (gAt (zy a0 a1) a2) a3):=(by rw[<- hS.at];exact zoL hS _ _ _ _ _);refine zcy rfl (must (zA hm)<|must (zbp hx)<|must (zbp hv) ?_);rw[show zhW (zbF<|ix (zk a0).Mons a1 zf) a2 a3=zcc (zy a0 a1) a2 (hasB a3 4) from hk];cases hf:zcc (zy a0 a1) a2 (hasB a3 4);{rfl};{have hb:SmB (ze4 (zcU<|ix a0.Mons a1 mZ) a2 a3):=zph hv (zIw _<|zi2 _ hv);refine zcy rfl (must (zbp ⟨hm,hb.2.1⟩) ?_);have key:=zXw (H:=zc5 a0 a1 (ze4 (zcU<|ix a0.Mons a1 mZ) a2 a3)) (m:=a1) (g:=a2) (p:=a3) (o:=λH=>[.agg<|zbf H,.one<|.b true]) (zE7 hs hm hb.2.1) (zO4 _ hm) (zMk hs h0 _ hf);refine(show _=_ from key).trans ?_;rw[hB];rfl}}
theorem zBr:vJ 321 ztE:=hF4 zL6 zo zbS zc4 (zx []) zHS
def zW3:zS:=[(321,ztE)]++zW2
theorem zL7:zL zW3:=zh zBr zL6
def zRi (h:Host)(m p c v:Int):Host:={mended h m p 2 with Memory:=zbB (mended h m p 2).Memory (ix (ix (mended h m p 2).Mons m mZ).Outer p sZ).Page c v}
def zfC (h:Host)(m p c v:Int):Bool:=bif zb3 h m p then (cond (hasB c 4) (zi v 0 99) false) else false
def zmF (h:Host)(m p c v:Int):Host:=bif zfC h m p c v then zRi h m p c v else h
@[simp] abbrev zsy (h:Host)(m p c v:Int):Bool:=pc (zcJ h)
@[simp] abbrev zod (h:Host)(m p c v:Int):Host:=zmF h m p c v
@[simp] abbrev zoe (h:Host)(m p c v:Int):Bool:=zfC h m p c v
def z2i (H:Host)(m p c v:Int)(o:Host->Ans):OA:=
 bif zhn H m p 2 then (cond (inb m<|ln (mended H m p 2).Mons) (cond (inb p<|ln (ix (mended H m p 2).Mons m mZ).Outer) (cond (zeZ (mended H m p 2).Memory (ix (ix (mended H m p 2).Mons m mZ).Outer p sZ).Page c v) (some<|o<|zRi H m p c v) none) none) none) else none
theorem z0c {h:Host}{m p c v:Int}{o:Host->Ans}(hs:SmH h)(h0:zb3 h m p=true):z2i h m p c v o=some (o<|zRi h m p c v):=by obtain⟨hh,hm,hp⟩:=zik.1 h0;have hf:=ze3 hs hh;obtain⟨h1,h2⟩:=zsI (n:=2) hf hm hp;unfold z2i;refine must (zbp ⟨hf,hm,hp,.inr rfl,zri (zhb hh _<|zby hm mZ) hp⟩) (must (zA h2)<|must (zA ?_) (must (zbp h1.1.1) rfl));rw[ln,(h1.2 _<|zby h2 mZ).1];exact hp
def zvB:Run:=rF5 dH dI dI dI dI λb c d e f=>(zsy b c d e f,[aH<|zod b c d e f,aB<|zoe b c d e f])
def zyO (N:Nat)(a0:Host)(a1 a2:Int)(a3 a4:Int):OA:=
 let y2:=zk a0;let y0:=zgC y2 a1 a2 2;let y1:=(ix y0.Mons a1 zf).Outer;let y3:=(ix y1 a2 zO).Page; (oN (zba a0)<|oN (zi8 y2 a1 a2)<|cond (nB<|zei y2 a1 a2) (some [aH y2,aB false])<|oN (zI a3 0 3)<|cond (nB<|zi a3 0 3) (some [aH y2,aB false])<|oN (zI a4 0 99)<|cond (nB<|zi a4 0 99) (some [aH y2,aB false])<|oN (zhn y2 a1 a2 2)<|oN (inb a1<|ln y0.Mons)<|oN (inb a2<|ln y1)<|oN (zeZ y0.Memory y3 a3 a4)<|some [aH ({y0 with Memory:=(ze7 y0.Memory y3 a3 a4)}:Host),aB true])
theorem zKE (a0:Host)(a1 a2:Int)(a3 a4:Int)(hc:zsy a0 a1 a2 a3 a4=true):∃N,zyO N a0 a1 a2 a3 a4=some [aH<|zod a0 a1 a2 a3 a4,aB<|zoe a0 a1 a2 a3 a4]:=by
 have hs:=(zM a0).1 (zK.1 hc);refine⟨0,?_⟩;unfold zyO zod zoe zmF zfC oN nB;conv=>zeta
 refine must hc (must rfl ?_);rw[show zei (zk a0) a1 a2=zb3 a0 a1 a2 from rfl];cases h0:zb3 a0 a1 a2;{rfl};{refine zcy rfl (must rfl ?_);rw[show zi a3 0 3=hasB a3 4 from z5l a3];cases h1:hasB a3 4;{rfl};{refine zcy rfl (must rfl ?_);rw[show zi a4 0 99=zi a4 0 99 from rfl];cases h2:zi a4 0 99;{rfl};{have key:=z0c (c:=a3) (v:=a4) (o:=λH=>[.agg<|zbf H,.one<|.b true]) hs h0;exact zcy rfl (show _=_ from key)}}}
theorem zEm:vJ 326 zvB:=kF5 zL7 zo zbS zc4 (zx []) zKE
def zW4:zS:=[(326,zvB)]++zW3
theorem zW5:zL zW4:=zh zEm zL7
def zW6:zS:=zW4
theorem zzg:zL zW6:=zW5
theorem zXZ (h:Host)(b:List Entry)(m g page need:Int)(io:Bool):(lookOf h b m g page need io).2.2=zbO h m g page need:=by cases hl:zbO h m g page need;{rw [zhw hl]};{rw [zEW hl];unfold zgf zeF;generalize zhS b m g page need=x;cases x;{generalize zer _ m g page need=y;cases y<;>rfl};{rfl}}
theorem z3t {h:Host}{m g page need:Int}(b:List Entry)(io:Bool)(hs:SmH h)(hl:zbO h m g page need=true):SmM (lookOf h b m g page need io).1.Memory:=by have hg:zbK h m g=true:=(by unfold zbO at hl;cases h1:zbK h m g;{rw [h1]at hl;cases hl};{rfl});exact(zrH hs hg).shape.1.1
def zzH (h:Host)(m g a n:Int):Host×Int×Bool:=lookOf h h.IoBuffer m g (zbc a) n true
def zha (h:Host)(m g a v:Int):Bool:=bif zi a 0 15 then (cond (zi v 0 99) (zbO h m g (zbc a) 2) false) else false
def zoT (h:Host)(m g a v:Int):Host:=bif zha h m g a v then { (zzH h m g a 2).1 with Memory:=zbB (zzH h m g a 2).1.Memory (zzH h m g a 2).2.1 (zdd a) v} else h
def zgc (h:Host)(m g a:Int):Bool:=bif zi a 0 15 then zbO h m g (zbc a) 1 else false
def zmG (h:Host)(m g a:Int):Host:=bif zgc h m g a then (zzH h m g a 1).1 else h
def zqj (h:Host)(m g a:Int):Int:=bif zgc h m g a then cellAt (zzH h m g a 1).1.Memory (zzH h m g a 1).2.1 (zdd a) else 0
@[simp] abbrev zuv (h:Host)(m g a v:Int):Bool:=pc (zcJ h)
@[simp] abbrev zpS (h:Host)(m g a v:Int):Host:=zoT h m g a v
@[simp] abbrev zpT (h:Host)(m g a v:Int):Bool:=zha h m g a v
@[simp] abbrev zsA (h:Host)(m g a:Int):Bool:=pc (zcJ h)
@[simp] abbrev zof (h:Host)(m g a:Int):Host:=zmG h m g a
@[simp] abbrev zog (h:Host)(m g a:Int):Int:=zqj h m g a
@[simp] abbrev zoh (h:Host)(m g a:Int):Bool:=zgc h m g a
def zxR:Run:=rF5 dH dI dI dI dI λb c d e f=>(zuv b c d e f,[aH<|zpS b c d e f,aB<|zpT b c d e f])
def zCn (N:Nat)(a0:Host)(a1 a2:Int)(a3 a4:Int):OA:=
 let y1:=zk a0;let y2:=zj3 y1 y1.IoBuffer a1 a2 (zbN a3) 2 true;let y0:=zfx y1 y1.IoBuffer a1 a2 (zbN a3) 2 true; (oN (zba a0)<|oN (zI a3 0 15)<|cond (nB<|zi a3 0 15) (some [aH y1,aB false])<|oN (zI a4 0 99)<|cond (nB<|zi a4 0 99) (some [aH y1,aB false])<|oN (zbJ a3)<|oN (zj4 y1 y1.IoBuffer a1 a2 (zbN a3) 2 true)<|cond (nB<|zhp y1 y1.IoBuffer a1 a2 (zbN a3) 2 true) (some [aH y0,aB false])<|oN (zbJ a3)<|oN (zeZ y0.Memory y2 (zcX a3) a4)<|some [aH ({y0 with Memory:=(ze7 y0.Memory y2 (zcX a3) a4)}:Host),aB true])
theorem zNR (a0:Host)(a1 a2:Int)(a3 a4:Int)(hc:zuv a0 a1 a2 a3 a4=true):∃N,zCn N a0 a1 a2 a3 a4=some [aH<|zpS a0 a1 a2 a3 a4,aB<|zpT a0 a1 a2 a3 a4]:=by
 have hs:=(zM a0).1 (zK.1 hc);refine⟨0,?_⟩;unfold zCn zpS zpT zoT zha oN nB;conv=>zeta
 refine must hc (must rfl ?_);rw[show zi a3 0 15=zi a3 0 15 from rfl];cases h1:zi a3 0 15;{rfl};{refine zcy rfl (must rfl ?_);rw[show zi a4 0 99=zi a4 0 99 from rfl];cases h2:zi a4 0 99;{rfl};{refine zcy rfl (must rfl (must hc ?_));rw[show zhp (zk a0) (zk a0).IoBuffer a1 a2 (zbN a3) 2 true=zbO a0 a1 a2 (zbc a3) 2 from zXZ _ _ _ _ _ _ _];cases h3:zbO a0 a1 a2 (zbc a3) 2;{rw [show zfx (zk a0) (zk a0).IoBuffer a1 a2 (zbN a3) 2 true=a0 from congrArg Prod.fst (zhw h3)];rfl};{exact zcy rfl (must rfl (must (zbp<|z3t a0.IoBuffer true hs h3) rfl))}}}
theorem zG2:vJ 329 zxR:=kF5 zzg zo zbS zc4 (zx []) zNR
def zvD:Run:=rF4 dH dI dI dI λb c d e=>(zsA b c d e,[aH<|zof b c d e,aI<|zog b c d e,aB<|zoh b c d e])
def zyQ (N:Nat)(a0:Host)(a1 a2 a3:Int):OA:=
 let y1:=zk a0;let y2:=zj3 y1 y1.IoBuffer a1 a2 (zbN a3) 1 true;let y0:=zfx y1 y1.IoBuffer a1 a2 (zbN a3) 1 true; (oN (zba a0)<|oN (zI a3 0 15)<|cond (nB<|zi a3 0 15) (some [aH y1,aI 0,aB false])<|oN (zbJ a3)<|oN (zj4 y1 y1.IoBuffer a1 a2 (zbN a3) 1 true)<|cond (nB<|zhp y1 y1.IoBuffer a1 a2 (zbN a3) 1 true) (some [aH y0,aI 0,aB false])<|oN (zbJ a3)<|oN (ze8 y0.Memory y2<|zcX a3)<|some [aH y0,aI<|zf7 y0.Memory y2<|zcX a3,aB true])
theorem zKG (a0:Host)(a1 a2 a3:Int)(hc:zsA a0 a1 a2 a3=true):∃N,zyQ N a0 a1 a2 a3=some [aH<|zof a0 a1 a2 a3,aI<|zog a0 a1 a2 a3,aB<|zoh a0 a1 a2 a3]:=by
 have hs:=(zM a0).1 (zK.1 hc);refine⟨0,?_⟩;unfold zyQ zof zog zoh zmG zqj zgc oN nB;conv=>zeta
 refine must hc (must rfl ?_);rw[show zi a3 0 15=zi a3 0 15 from rfl];cases h1:zi a3 0 15;{rfl};{refine zcy rfl (must rfl (must hc ?_));rw[show zhp (zk a0) (zk a0).IoBuffer a1 a2 (zbN a3) 1 true=zbO a0 a1 a2 (zbc a3) 1 from zXZ _ _ _ _ _ _ _];cases h3:zbO a0 a1 a2 (zbc a3) 1;{rw [show zfx (zk a0) (zk a0).IoBuffer a1 a2 (zbN a3) 1 true=a0 from congrArg Prod.fst (zhw h3)];rfl};{exact zcy rfl (must rfl (must rfl rfl))}}
theorem zEo:vJ 330 zvD:=kF4 zzg zo zbS zc4 (zx []) zKG
def zW7:zS:=[(329,zxR),(330,zvD)]++zW6
theorem zW8:zL zW7:=zh zG2 (zh zEo zzg)
def zW9:zS:=[(198,zo9),(99,zo7)]++zW7
theorem zL8:zL zW9:=zh zsc (zh zsb zW8)
def zjV:Kept:=⟨rp 4 false,zkQ⟩
@[simp] abbrev zuz (n:Int):Bool:=ieq n 4
@[simp] abbrev ztT (n:Int):Kept:=zjV
def zxV:Run:=rF1 dI λb=>(zuz b,[aT .kept<|ztT b])
def zSq (N:Nat)(a0:Int):OA:=
 let y0:=ln<|zg8 a0; (oN (ziW a0)<|oN (cond (few y0) (ieq y0 y0) false)<|some [aT .kept (⟨rp y0 false,zg8 a0⟩:Kept)])
theorem zNV (a0:Int)(hc:zuz a0=true):∃N,zSq N a0=some [aT .kept<|ztT a0]:=by refine⟨0,?_⟩;have h:a0=4:=qD hc;subst h;change _=_;kernel_rfl
theorem zG6:vJ 355 zxV:=kF1 zL8 zo zbS zc4 (zx []) zNV
def zXa:zS:=[(355,zxV)]++zW9
theorem zL9:zL zXa:=zh zG6 zL8
def zsK:List Slot:=List.replicate 8 ⟨-1,0⟩
def zgY (ps:List (List Ins)):Mon:=⟨zsK,zKX,rp 8 false,(ps.take 2).map ze9,[],0,0,(ps.take 2).map λ_=>zjV,0⟩
theorem zHX {α β γ ρ:Type}(m:Nat)(f:α->β)(g:α->γ)(K:List β×List γ->Option ρ):∀(l:List α) (i:Nat) (u:List β×List γ),u.1.length+l.length<=2147483648->u.2.length+l.length<=2147483648->
 goL (λ(i:Nat) x (u:List β×List γ) k=>bif ilt (i:Int) (m:Int) then (cond (few<|ln<|ap u.1 [f x]) (cond (few<|ln<|ap u.2 [g x]) (k (ap u.1 [f x],ap u.2 [g x])) none) none) else K u) K l i u=K (u.1++(l.take<|m-i).map f,u.2++(l.take<|m-i).map g)
 |[],i,u,_,_=>by simp[goL]
 |x::l,i,u,h1,h2=>by simp only[qV]at h1 h2;have e1:few (ln<|ap u.1 [f x])=true:=zgt (by simp[ap];omega);have e2:few (ln<|ap u.2 [g x])=true:=zgt (by simp[ap];omega);by_cases h:i<m;{have hi:ilt (i:Int) (m:Int)=true:=qJ (by omega);simp only[goL,hi,e1,e2,cT];rw[zHX m f g K l (i+1) _ (by simp[ap];omega) (by simp[ap];omega)];rw[show m-i=m-(i+1)+1 by omega];simp[ap]};{have hi:ilt (i:Int) (m:Int)=false:=qG (by omega);simp only[goL,hi,cF];rw[show m-i=0 by omega];simp}
def zX6 (u:List Guest×List Kept):OA:=some [AV.agg<|Ty.cells .mon (⟨zsK,zKX,rp 8 false,u.1,[],0,0,u.2,0⟩:Mon)]
@[simp] abbrev zrr (ps:List (List Ins)):Bool:=pc (z4e ps)
@[simp] abbrev zE3 (ps:List (List Ins)):Mon:=zgY ps
def zAd:Run:=rF1 (dS<|.sl .ins) λb=>(zrr b,[aT .mon<|zE3 b])
def zFJ (N:Nat)(a0:lP):OA:=
 (oN (ziW 8)<|oN (zoi 8)<|oN (cond (few 8) (ieq 8 8) false)<|iter (σ:=(Int×Int×Int×Int×Int×Int×Int×lP×lS×lM×lB×lG×(List Int)×lK×lS×lM×lB×lG×(List Int)×lK×Unit)) N (λr2 s3=>let y8:=s3.2.2.2.2.2.2.2.2.2.2.2.2.2.2.1;let y7:=s3.2.2.2.2.2.2.2.2.2.2.2.2.2.2.2.1;let y6:=s3.2.2.2.2.2.2.2.2.2.2.2.2.2.2.2.2.1;let y5:=s3.2.2.2.2.2.2.2.2.2.2.2.2.2.2.2.2.2.1;let y4:=s3.2.2.2.2.2.2.2.2.2.2.2.2.2.2.2.2.2.2.1;let y3:=s3.2.2.2.2.2.2.2.1;let y2:=s3.2.2.2.2.2.2.2.2.2.2.2.2.2.2.2.2.2.2.2.1;let y1:=ap y5 [zob<|ix y3 s3.1 []];let y0:=aT .mon (⟨y8,y7,y6,y5,y4,s3.2.2.2.2.1,s3.2.2.2.2.2.1,y2,s3.2.2.2.2.2.2.1⟩:Mon); (cond (ilt s3.1<|ln y3) (cond (ilt s3.1 2) (oN (inb s3.1<|ln y3)<|oN (zoc<|ix y3 s3.1 [])<|oN (few<|ln y1)<|oN (zuz 4)<|oN (few<|ln<|ap y2 [ztT 4])<|r2 (zD .i64 s3.1 1,s3.2.1,s3.2.2.1,s3.2.2.2.1,s3.2.2.2.2.1,s3.2.2.2.2.2.1,s3.2.2.2.2.2.2.1,y3,s3.2.2.2.2.2.2.2.2.1,s3.2.2.2.2.2.2.2.2.2.1,s3.2.2.2.2.2.2.2.2.2.2.1,s3.2.2.2.2.2.2.2.2.2.2.2.1,s3.2.2.2.2.2.2.2.2.2.2.2.2.1,s3.2.2.2.2.2.2.2.2.2.2.2.2.2.1,y8,y7,y6,y1,y4,ap y2 [ztT 4],()))<|some [y0])<|some [y0])) (0,0,0,0,0,0,0,a0,[],[],[],[],[],[],zg8 8,zjt 8,rp 8 false,[],[],[],()))
def zR7:=zx [(316,0,{n:=36,tm:=[(0,.sl 0 []),(2,.lp 0 0),(3,.lp 1 0),(4,ti)],lo:=[(0,[.sl 1 [],.sl 2 [],.sl 3 [],.sl 4 [],.sl 5 [],ti,ti,.sl 6 [],ti]),(1,[.sl 7 [],.sl 8 [],.sl 9 [],.sl 10 [],.sl 11 [],ti,ti,.sl 12 [],ti])],ro:=[(0,.sl .ins,false),(1,.slot,true),(2,.sl .int,true),(3,.bool,true),(4,.guest,true),(5,.int,true),(6,.kept,true),(7,.slot,true),(8,.sl .int,true),(9,.bool,true),(10,.guest,true),(11,.int,true),(12,.kept,true)]})]
theorem zQy (a0:List lI)(hc:zrr a0=true):∃N,zFJ N a0=some [aT .mon<|zE3 a0]:=by
 have hs:=zK.1 hc;have hl:=zct hs.1;refine zb0 λN hNN=>?_;unfold zFJ oN;conv=>zeta
 refine must rfl (must rfl (must rfl ?_));refine(zbd a0 (λi (t:lG×lK)=>((i:Int),0,0,0,0,0,0,a0,[],[],[],[],[],[],zg8 8,zjt 8,rp 8 false,t.1,[],t.2,())) _ (λi (x:List Ins) (u:List Guest×List Kept) κ=>bif ilt (i:Int) ((2:Nat):Int) then (cond (few<|ln<|ap u.1 [ze9 x]) (cond (few<|ln<|ap u.2 [zjV]) (κ (ap u.1 [ze9 x],ap u.2 [zjV])) none) none) else zX6 u) (λ(t:lG×lK)=>some [.agg<|Ty.cells .mon (⟨zg8 8,zjt 8,rp 8 false,t.1,[],0,0,t.2,0⟩:Mon)]) (λi hi t rec=>?_) (λt rec=>?_) _ ([],[])<|hNN hl.1).trans ?_;{simp only [zbv hi,zY hi,zbg hi,zU hi hl.1,cT];have hx:zoc a0[i]=true:=zbp (hs.2 _<|jG hi);simp only[hx,cT];rfl};{simp only [zbm,cF]};exact zHX 2 ze9 (λ_=>zjV) zX6 a0 0 ([],[]) (by simpa using hl.2) (by simpa using hl.2)
theorem zJV:vJ 316 zAd:=kF1 zL9 zo zbS zc4 zR7 zQy
def zXb:zS:=[(316,zAd)]++zXa
theorem zMa:zL zXb:=zh zJV zL9
def zVT:List (List Int):=List.replicate 12 [0,0,0,0]
def zfN (ps:List (List<|List Ins)):Host:=⟨zVT,(ps.take 3).map zgY,[],[]⟩
def zF3 (ps:List (List<|List Ins)):Prop:=ps.length<=1048576/\∀p∈ps,z4e p
@[simp] abbrev zuw (ps:List (List<|List Ins)):Bool:=pc (zF3 ps)
@[simp] abbrev zhh (ps:List (List<|List Ins)):Host:=zfN ps
def zT3 (t:List Mon):OA:=some [AV.agg<|zbf ⟨zVT,t,[],[]⟩]
def zxS:Run:=rF1 (dS<|.sl<|.sl .ins) λb=>(zuw b,[aH<|zhh b])
def zCo (N:Nat)(a0:lQ):OA:=
 (oN (zoi 12)<|iter (σ:=(Int×lQ×lM×lN×lE×lE×lM×lN×lE×lE×Unit)) N (λr2 s3=>let y1:=ap s3.2.2.2.2.2.2.2.1 [zE3<|ix s3.2.1 s3.1 []];let y0:=aH (⟨s3.2.2.2.2.2.2.1,s3.2.2.2.2.2.2.2.1,s3.2.2.2.2.2.2.2.2.1,s3.2.2.2.2.2.2.2.2.2.1⟩:Host); (cond (ilt s3.1<|ln s3.2.1) (cond (ilt s3.1 3) (oN (inb s3.1<|ln s3.2.1)<|oN (zrr<|ix s3.2.1 s3.1 [])<|oN (few<|ln y1)<|r2 (zD .i64 s3.1 1,s3.2.1,s3.2.2.1,s3.2.2.2.1,s3.2.2.2.2.1,s3.2.2.2.2.2.1,s3.2.2.2.2.2.2.1,y1,s3.2.2.2.2.2.2.2.2.1,s3.2.2.2.2.2.2.2.2.2.1,()))<|some [y0])<|some [y0])) (0,a0,[],[],[],[],zjt 12,[],[],[],()))
def zOm:=zx [(269,0,{n:=28,tm:=[(0,.sl 0 []),(2,.lp 0 0),(3,.lp 1 0),(4,ti)],lo:=[(0,[.sl 1 [],.sl 2 [],.sl 3 [],.sl 4 []]),(1,[.sl 5 [],.sl 6 [],.sl 7 [],.sl 8 []])],ro:=[(0,.sl<|.sl .ins,false),(1,.sl .int,true),(2,.mon,true),(3,.entry,true),(4,.entry,true),(5,.sl .int,true),(6,.mon,true),(7,.entry,true),(8,.entry,true)]})]
theorem zNS (a0:List lP)(hc:zuw a0=true):∃N,zCo N a0=some [aH<|zhh a0]:=by
 have hs:=zK.1 hc;have hl:=zct hs.1;refine zb0 λN hNN=>?_;unfold zCo oN;conv=>zeta
 refine must rfl ?_;refine(zbd a0 (λi (t:lN)=>((i:Int),a0,[],[],[],[],zjt 12,t,[],[],())) _ (λi (x:List lI) (t:List Mon) κ=>bif ilt (i:Int) ((3:Nat):Int) then (cond (few<|ln<|ap t [zgY x]) (κ<|ap t [zgY x]) none) else zT3 t) (λ(t:lN)=>some [.agg<|zbf (⟨zjt 12,t,[],[]⟩:Host)]) (λi hi t rec=>?_) (λt rec=>?_) _ ([])<|hNN hl.1).trans ?_;{simp only [zbv hi,zY hi,zbg hi,zU hi hl.1,cT];have hx:zrr a0[i]=true:=zbp (hs.2 _<|jG hi);simp only[hx,cT];rfl};{simp only [zbm,cF]};exact zMv 3 zgY zT3 a0 0 [] (by simpa using hl.2)
theorem zG3:vJ 269 zxS:=kF1 zMa zo zbS zc4 zOm zNS
def zXc:zS:=[(269,zxS)]++zXb
theorem zMb:zL zXc:=zh zG3 zMa
def ziG:Nat->Nat->Kept->Kept
 | 0,_,k=>k
 |n+1,i,k=>ziG n (i+1) (zbR k (i:Int))
def zjf (k:Kept):Kept:=ziG k.Known.length 0 k
theorem zVw (k:Kept)(p:Int):(zbR k p).Known.length=k.Known.length:=by unfold zbR;cases zdf k p;{rfl};{exact zgZ _ _ _}
theorem zuD:∀(n i:Nat) (k:Kept),SmK k->SmK (ziG n i k)
 | 0,_,_,h=>h
 |n+1,i,k,h=>zuD n (i+1) _ (zoD h)
@[simp] abbrev zut (k:Kept):Kept:=zjf k
def ztD:Run:=rF1 (dT .kept) λb=>(zem b,[aT .kept<|zut b])
def zxq (N:Nat)(a0:Kept):OA:=
 (oN (zgl a0)<|iter (σ:=(Int×lB×lS×lB×lS×Unit)) N (λr2 s3=>let y0:=(⟨s3.2.1,s3.2.2.1⟩:Kept); (cond (ilt s3.1<|ln s3.2.1) (oN (zdv y0 s3.1)<|r2 (zD .i64 s3.1 1,(zgT y0 s3.1).Known,(zgT y0 s3.1).Slots,s3.2.2.2.1,s3.2.2.2.2.1,()))<|some [aT .kept y0])) (0,(zdL a0).Known,(zdL a0).Slots,[],[],()))
def zIS:=zx [(387,0,{n:=17,tm:=[(1,.lp 0 0),(2,.lp 1 0),(3,ti)],lo:=[(0,[.sl 0 [],.sl 1 []]),(1,[.sl 2 [],.sl 3 []])],ro:=[(0,.bool,true),(1,.slot,true),(2,.bool,true),(3,.slot,true)]})]
theorem zHQ (a0:Kept)(hc:zem a0=true):∃N,zxq N a0=some [aT .kept<|zut a0]:=by
 have hs:=zK.1 hc;have hl:=zct hs.1;refine zb0 λN hNN=>?_;unfold zxq oN;conv=>zeta
 refine must (zbe<|(zuW _).2 hs) ?_;refine(zoV a0.Known.length (λi (k:Kept)=>((i:Int),k.Known,k.Slots,[],[],())) _ (λi k=>SmK k/\k.Known.length=a0.Known.length) (λi k=>some [AV.agg<|Ty.cells .kept<|ziG (a0.Known.length-i) i k]) (λi k rec hi hI hr=>?_) (λk rec hI=>?_) N 0 a0 ⟨hs,rfl⟩ (jS _)<|hNN hl.1).trans rfl;{refine must (zbv (by rw[hI.2];exact hi)) (must (zbp hI.1) ?_);have q:=hr (zbR k (i:Int)) ⟨zoD hI.1,by rw[zVw];exact hI.2⟩;rw[show a0.Known.length-i=a0.Known.length-(i+1)+1 by omega];rw[zU hi hl.1];exact q};{refine zcy (by show ilt (a0.Known.length:Int) (ln k.Known)=false;rw[ln,hI.2];exact qG (by omega)) ?_;rw[kQ];rfl}
theorem zBq:vJ 387 ztD:=kF1 zMb zo zbS zc4 zIS zHQ
def zXd:zS:=[(387,ztD)]++zXc
theorem zMc:zL zXd:=zh zBq zMb
def zs7:Nat->Nat->List Kept->List Kept
 | 0,_,l=>l
 |n+1,j,l=>zs7 n (j+1) (up l (j:Int)<|zjf<|ix l (j:Int) kZ)
def zs8 (x:Mon)(n j:Nat):Mon:={x with Tables:=zs7 n j x.Tables}
def znm:Nat->Nat->List Mon->List Mon
 | 0,_,t=>t
 |n+1,i,t=>znm n (i+1) (up t (i:Int)<|zs8 (ix t (i:Int) mZ) (ix t (i:Int) mZ).Tables.length 0)
def cold (h:Host):Host:=⟨h.Memory,znm h.Mons.length 0 h.Mons,[],[]⟩
theorem zIy:∀(n j:Nat) (l:List Kept),j+n<=l.length->zy4 l->zy4 (zs7 n j l)
 | 0,_,_,_,h=>h
 |n+1,j,l,hn,h=>by have hj:j<l.length:=(by omega);refine zIy n (j+1) _ (by rw[zgZ];omega) (zvS h<|zuD _ _ _ ?_);rw[zbg hj];exact h.2 _ (jG hj)
theorem zIA {x:Mon}(h:zfY x){n j:Nat}(hn:j+n<=x.Tables.length):zfY (zs8 x n j):=⟨h.1,h.2.1,h.2.2.1,h.2.2.2.1,h.2.2.2.2.1,zIy n j _ hn h.2.2.2.2.2⟩
@[simp] abbrev zRo (h:Host):Host:=cold h
def zIk:Run:=rF1 dH λb=>(zba b,[aH<|zRo b])
def zOQ (N:Nat)(a0:Host):OA:=
 (oN (zba a0)<|iter (σ:=(Int×lM×lN×lE×lE×lM×lN×lE×lE×Unit)) N (λr2 s3=>cond (ilt s3.1<|ln s3.2.2.1) (iter (σ:=(Int×Int×lM×lN×lE×lE×lM×lN×lE×lE×Unit)) N (λr4 s5=>let y1:=inb s5.1<|ln s5.2.2.2.1;let y0:=ix s5.2.2.2.1 s5.1 zf;let y2:=ix y0.Tables s5.2.1 ze2; (oN y1<|cond (ilt s5.2.1<|ln y0.Tables) (oN y1<|oN y1<|oN (inb s5.2.1<|ln y0.Tables)<|oN (zem y2)<|oN (inb s5.2.1<|ln y0.Tables)<|share (up s5.2.2.2.1 s5.1 ({y0 with Tables:=(up y0.Tables s5.2.1<|zut y2)}:Mon)) λx6=>r4 (s5.1,zD .i64 s5.2.1 1,s5.2.2.1,x6,s5.2.2.2.2.1,s5.2.2.2.2.2.1,s5.2.2.2.2.2.2.1,s5.2.2.2.2.2.2.2.1,s5.2.2.2.2.2.2.2.2.1,s5.2.2.2.2.2.2.2.2.2.1,()))<|r2 (zD .i64 s5.1 1,s5.2.2.1,s5.2.2.2.1,s5.2.2.2.2.1,s5.2.2.2.2.2.1,s5.2.2.2.2.2.2.1,s5.2.2.2.2.2.2.2.1,s5.2.2.2.2.2.2.2.2.1,s5.2.2.2.2.2.2.2.2.2.1,()))) (s3.1,0,s3.2.1,s3.2.2.1,s3.2.2.2.1,s3.2.2.2.2.1,s3.2.2.2.2.2.1,s3.2.2.2.2.2.2.1,s3.2.2.2.2.2.2.2.1,s3.2.2.2.2.2.2.2.2.1,()))<|some [aH (⟨s3.2.1,s3.2.2.1,[],[]⟩:Host)]) (0,(zk a0).Memory,(zk a0).Mons,(zk a0).Buffer,(zk a0).IoBuffer,[],[],[],[],()))
def zWD:=zx [(360,0,{n:=48,tm:=[(1,.lp 0 0),(2,.lp 1 0),(3,ti)],lo:=[(0,[.sl 0 [],.sl 1 [],.sl 2 [],.sl 3 []]),(1,[.sl 4 [],.sl 5 [],.sl 6 [],.sl 7 []])],ro:=[(0,.sl .int,true),(1,.mon,true),(2,.entry,true),(3,.entry,true),(4,.sl .int,true),(5,.mon,true),(6,.entry,true),(7,.entry,true)]}),(360,2,{n:=48,tm:=[(1,.lp 0 0),(2,.lp 1 0),(3,ti),(4,ti)],lo:=[(0,[.sl 0 [],.sl 1 [],.sl 2 [],.sl 3 []]),(1,[.sl 4 [],.sl 5 [],.sl 6 [],.sl 7 []])],ro:=[(0,.sl .int,true),(1,.mon,true),(2,.entry,true),(3,.entry,true),(4,.sl .int,true),(5,.mon,true),(6,.entry,true),(7,.entry,true)]})]
theorem zVR (a0:Host)(hc:zba a0=true):∃N,zOQ N a0=some [aH<|zRo a0]:=by
 have hs:=(zM a0).1 (zK.1 hc);have hl:=zct hs.2.1.1;refine zb0 λN hNN=>?_;unfold zOQ oN;conv=>zeta
 refine must hc ?_;refine(zoV a0.Mons.length (λi (t:List Mon)=>((i:Int),a0.Memory,t,a0.Buffer,a0.IoBuffer,[],[],[],[],())) _ (λi t=>zp3 t/\t.length=a0.Mons.length) (λi t=>some [AV.agg<|zbf ⟨a0.Memory,znm (a0.Mons.length-i) i t,[],[]⟩]) (λi t rec hi hI hr=>?_) (λt rec hI=>?_) N 0 a0.Mons ⟨hs.2.1,rfl⟩ (jS _)<|hNN hl.1).trans rfl
 .have hit:i<t.length:=(by rw[hI.2];exact hi);have hx:zfY (ix t (i:Int) mZ):=by rw[zbg hit];exact hI.1.2 _ (jG hit)
  have hk:=zct hx.2.2.2.2.2.1;refine must (zbv hit) ?_;refine(zoV (ix t (i:Int) mZ).Tables.length (λj (u:List Mon)=>((i:Int),(j:Int),a0.Memory,u,a0.Buffer,a0.IoBuffer,[],[],[],[],()))
   _ (λj u=>u.length=t.length/\zfY (ix u (i:Int) mZ)/\(ix u (i:Int) mZ).Tables.length=(ix t (i:Int) mZ).Tables.length)
   (λj u=>rec (((i+1:Nat):Int),a0.Memory,up u (i:Int)<|zs8 (ix u (i:Int) mZ) ((ix t (i:Int) mZ).Tables.length-j) j,a0.Buffer,a0.IoBuffer,[],[],[],[],()))
   (λj u rec1 hj hJ hr1=>?_) (λu rec1 hJ=>?_) N 0 t ⟨rfl,hx,rfl⟩ (jS _) (hNN hk.1)).trans ?_
  .have hiu:i<u.length:=(by rw[hJ.1];exact hit);have hju:j<(ix u (i:Int) mZ).Tables.length:=(by rw[hJ.2.2];exact hj);have hkj:SmK (ix (ix u (i:Int) mZ).Tables (j:Int) kZ):=by rw[zbg hju];exact hJ.2.1.2.2.2.2.2.2 _ (jG hju)
   refine must (zY hiu) (must (zbv hju)<|must (zY hiu)<|must (zY hiu)<|must (zY hju)<|must (zbp hkj)<|must (zY hju)<|shr ?_);have hn:zfY {ix u (i:Int) mZ with Tables:=up (ix u (i:Int) mZ).Tables (j:Int) (zjf<|ix (ix u (i:Int) mZ).Tables (j:Int) kZ)} :=
    ⟨hJ.2.1.1,hJ.2.1.2.1,hJ.2.1.2.2.1,hJ.2.1.2.2.2.1,hJ.2.1.2.2.2.2.1,zvS hJ.2.1.2.2.2.2.2<|zuD _ _ _ hkj⟩
   have q:=hr1 (up u (i:Int) {ix u (i:Int) mZ with Tables:=up (ix u (i:Int) mZ).Tables (j:Int) (zjf<|ix (ix u (i:Int) mZ).Tables (j:Int) kZ)}) ⟨by rw[zgZ];exact hJ.1,by rw[zd5 hiu];exact hn,by rw[zd5 hiu];simp only[zgZ];exact hJ.2.2⟩;rw[zU hj hk.1];refine q.trans ?_;rw[zd5 hiu,zt0,show (ix t (i:Int) mZ).Tables.length-j=(ix t (i:Int) mZ).Tables.length-(j+1)+1 by omega];rfl
  {have hiu:i<u.length:=(by rw[hJ.1];exact hit);refine must (zY hiu) (zcy (by show ilt ((ix t (i:Int) mZ).Tables.length:Int) (ln (ix u (i:Int) mZ).Tables)=false;rw[ln,hJ.2.2];exact qG (by omega)) ?_);rw[zU hi hl.1,kQ];show rec (_,a0.Memory,u,_)=rec (_,a0.Memory,up u (i:Int)<|ix u (i:Int) mZ,_);rw[zLw hiu]};{have q:=hr (up t (i:Int)<|zs8 (ix t (i:Int) mZ) (ix t (i:Int) mZ).Tables.length 0) ⟨zja hI.1<|zIA hx (by omega),by rw[zgZ];exact hI.2⟩;refine q.trans ?_;rw[show a0.Mons.length-i=a0.Mons.length-(i+1)+1 by omega];rfl}
 {refine zcy (by show ilt (a0.Mons.length:Int) (ln t)=false;rw[ln,hI.2];exact qG (by omega)) ?_;rw[kQ];rfl}
theorem zPW:vJ 360 zIk:=kF1 zMc zo zbS zc4 zWD zVR
def zXe:zS:=[(360,zIk)]++zXd
theorem zXf:zL zXe:=zh zPW zMc
end
end Go.Proofs.YtgjpbkhaaiffkaaGreat.E
