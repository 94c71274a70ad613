/- What is proved here: a part of the proof that the statement of this claim holds (several texts of wip/, laid together). -/
import Derived.Test.YtnnmbkjhakbicaaGreatV4
import Derived.Shelf.Bits.Mul64
import Derived.Ground.NamesProg
import Derived.Laws.CopyOwn
import Derived.Deep.RegionLaw
import Derived.WalkKit
import Derived.Tactics2
import Derived.Maps.OwnOps
import Derived.Maps.Views
namespace Go.Proofs.YtnnmbkjhakbicaaGreat.E
open Go
set_option linter.unusedVariables false
set_option maxRecDepth 100000
set_option linter.unusedSimpArgs false
set_option linter.unusedSectionVars false
noncomputable section
def zbp (h:Host)(m p:Int):Host:={ h with Mons:=up h.Mons m { ix h.Mons m mZ with Dirty:=up (ix h.Mons m mZ).Dirty p true } }
def opened (h:Host)(m p:Int):Host:=bif ieq (wand .i64 (ix (ix h.Mons m mZ).Outer p sZ).Rights 2) 0 then zdm h m p ⟨(ix (ix h.Mons m mZ).Outer p sZ).Page,3⟩ else h
def zia (h:Host)(m p n:Int):Host:=bif ieq (wand .i64 n 2) 0 then h else opened (zbp h m p) m p
def mended (h:Host)(m p n:Int):Host:=bif ieq (ix (ix h.Mons m mZ).Outer p sZ).Page (-1) then zia (fetched h m p) m p n else zia h m p n
theorem zSG {r:Int}(h0:0<=r)(h3:r<=3):enough r 2 = !ieq (wand .i64 r 2) 0:=by
 have:r=0\/r=1\/r=2\/r=3:=by omega
 rcases this with rfl|rfl|rfl|rfl<;>rfl
structure SlotFit (s:Slot):Prop where
 no:zcq s noSlot=ieq s.Page (-1)
 lo:0<=s.Rights
 hi:s.Rights<=3
theorem zNn {s:Slot}{n:Int}(h:zdf s n=true):SlotFit s:=by
 refine ⟨zPc h,?_,?_⟩<;>unfold zdf at h<;>cases h1:zcq s noSlot
 .rw [h1]at h;simp only[cF,zce]at h;have:=(zdy.1 h.2.2).1;omega
 .unfold zcq at h1;rw[qD]at h1;have:s.Rights=0:=qG h1.2;omega
 .rw [h1]at h;simp only[cF,zce]at h;have:=(zdy.1 h.2.2).2;omega
 .unfold zcq at h1;rw[qD]at h1;have:s.Rights=0:=qG h1.2;omega
theorem zi8 {h:Host}{m p:Int}(hs:Shape h)(hm:hasB m (ln h.Mons)=true):Shape (zbp h m p):=by
 obtain ⟨g1,g2⟩:=zbB hs hm;exact zfS hs ⟨g1.1,g1.2.1,by simpa using g1.2.2.1,g1.2.2.2⟩ ⟨g2.1,g2.2.1,by simpa using g2.2.2.1,g2.2.2.2⟩
theorem zJx {h:Host}{m p:Int}(hs:Shape h)(hm:hasB m (ln h.Mons)=true):Shape (opened h m p)/\hasB m (ln (opened h m p).Mons)=true:=by
 unfold opened;cases ieq (wand .i64 (ix (ix h.Mons m mZ).Outer p sZ).Rights 2) 0
 .exact ⟨hs,hm⟩
 .exact ⟨zmQ hm hs,zxh hm⟩
theorem zxR {h:Host}{m p n:Int}(hs:Shape h)(hm:hasB m (ln h.Mons)=true):Shape (zia h m p n)/\hasB m (ln (zia h m p n).Mons)=true:=by
 unfold zia;cases ieq (wand .i64 n 2) 0
 .exact zJx (zi8 hs hm) (zdI hm)
 .exact ⟨hs,hm⟩
theorem zJw {h:Host}{m p n:Int}(hf:Fit h)(hm:hasB m (ln h.Mons)=true)(hp:hasB p 8=true):Shape (mended h m p n)/\hasB m (ln (mended h m p n).Mons)=true:=by
 unfold mended;cases ieq (ix (ix h.Mons m mZ).Outer p sZ).Page (-1)
 .exact zxR hf.1 hm
 .obtain ⟨h1,h2⟩:=zi9 hf hm hp;exact zxR h1 h2
theorem zHC {h:Host}{m p:Int}(hf:Fit h)(hm:hasB m (ln h.Mons)=true)(hp:hasB p 8=true):(ix (ix (fetched h m p).Mons m mZ).Outer p sZ).Rights=3:=by
 have hR:=room hf;have hrm:=zk5 hf hm;obtain ⟨g1,g2⟩:=zbB hR.shape hrm;obtain ⟨k,rfl,hk⟩:=zcH (n:=(zcy h).Mons.length) hrm;obtain ⟨q,rfl,hq⟩:=zcH (n:=8) hp;unfold fetched zhb;rw[(zef _ _ _ _).1];have hk':k<(landing (zcy h) (k:Int) (q:Int) (ix (zbX (zcy h)) 0 0)).Mons.length:=by simpa [landing] using hk
 rw[zdp hk'];have ho:q<(ix (landing (zcy h) (k:Int) (q:Int) (ix (zbX (zcy h)) 0 0)).Mons (k:Int) mZ).Outer.length:=by
  unfold landing;rw[zdp hk]
  show q<(ix (zcy h).Mons (k:Int) mZ).Outer.length
  rw[g2.1];exact hq
 show (ix (up (ix (landing (zcy h) (k:Int) (q:Int) (ix (zbX (zcy h)) 0 0)).Mons (k:Int) mZ).Outer (q:Int) ⟨_,3⟩) (q:Int) sZ).Rights=3
 rw[zdp ho]
def zG6 (h:Host)(m p n:Int):Prop:=Fit h/\hasB m (ln h.Mons)=true/\hasB p 8=true/\(n=1\/n=2)/\SlotFit (ix (ix h.Mons m mZ).Outer p sZ)
@[simp] abbrev zp5 (h:Host)(m p n:Int):Bool:=pc (zG6 h m p n)
@[simp] abbrev zl8 (h:Host)(m p n:Int):Host:=mended h m p n
def zmI:List AV->Option (Bool×List AV)
 | [.agg [.s (.sl .int) b,.s .mon c,.s .entry d,.s .entry e],.one (.i .i64 f),.one (.i .i64 g),.one (.i .i64 h)]=>some ((zp5 (⟨b,c,d,e⟩:Host) f g h),[aH (zl8 (⟨b,c,d,e⟩:Host) f g h)])
 | _=>none
def zpF (N:Nat)(a0:Host)(a1 a2 a3:Int):OA:=
 let y3:=(zwc a0 a1 a2);let y6:=(ix y3.Mons a1 zi);let y0:=(ix a0.Mons a1 zi);let y7:=(ix y0.Outer a2 zL); (oN (inb a1 (ln a0.Mons)) (oN (inb a2 (ln y0.Outer)) (oN zb5 (cond (cond (ieq y7.Page zbo.Page) (ieq y7.Rights zbo.Rights) false) (oN (zvB a0 a1 a2) (cond (ieq (wand .i64 a3 2) 0) (some [(aH y3)]) (oN (inb a1 (ln y3.Mons)) (oN (inb a2 (ln y6.Dirty)) (share (up y3.Mons a1 ({ y6 with Dirty:=(up y6.Dirty a2 true) }:Mon)) (fun x5=>let y8:=(ix x5 a1 zi).Outer;let y4:=({ y3 with Mons:=x5 }:Host);let y1:=(ix y8 a2 zL);let y9:=({ y1 with Rights:=3 }:Slot); (oN (inb a1 (ln x5)) (oN (inb a2 (ln y8)) (cond (ieq (wand .i64 y1.Rights 2) 0) (oN (zd1 y4 a1 a2 y9) (some [(aH (zfC y4 a1 a2 y9))])) (some [(aH y4)])))))))))) (cond (ieq (wand .i64 a3 2) 0) (some [(aH a0)]) (oN (inb a1 (ln a0.Mons)) (oN (inb a2 (ln y0.Dirty)) (share (up a0.Mons a1 ({ y0 with Dirty:=(up y0.Dirty a2 true) }:Mon)) (fun x5=>let y10:=(ix x5 a1 zi).Outer;let y5:=({ a0 with Mons:=x5 }:Host);let y2:=(ix y10 a2 zL);let y11:=({ y2 with Rights:=3 }:Slot); (oN (inb a1 (ln x5)) (oN (inb a2 (ln y10)) (cond (ieq (wand .i64 y2.Rights 2) 0) (oN (zd1 y5 a1 a2 y11) (some [(aH (zfC y5 a1 a2 y11))])) (some [(aH y5)])))))))))))))
theorem zI6 (N:Nat)(a0:Host)(a1 a2 a3:Int):zvV (cQ zlr zkg zMY zJM) (zo []) N 12 264 [true,true,true,true,false,false,false] 1 1 [[0],[1],[2],[4],[7]] .mon [aH a0,aI a1,aI a2,aI a3]=zpF N a0 a1 a2 a3:=by kernel_rfl
theorem zGm (a0:Host)(a1 a2 a3:Int)(hb:zbq big [aH a0,aI a1,aI a2,aI a3])(hc:zp5 a0 a1 a2 a3=true):∃N,zpF N a0 a1 a2 a3=some [aH (zl8 a0 a1 a2 a3)]:=by
 obtain ⟨hf,hm,hp,hn,hs⟩:=zB.1 hc;obtain ⟨g1,g2⟩:=zbB hf.1 hm;have tail:∀r,Shape r->hasB a1 (ln r.Mons)=true->(cond (ieq (wand .i64 a3 2) 0) (some [(AV.agg (zbh r))]) (cond (inb a1 (ln r.Mons)) (cond (inb a2 (ln (ix r.Mons a1 zi).Dirty)) (share (up r.Mons a1 ({ (ix r.Mons a1 zi) with Dirty:=(up (ix r.Mons a1 zi).Dirty a2 true) }:Mon)) (fun x5=>(cond (inb a1 (ln x5)) (cond (inb a2 (ln (ix x5 a1 zi).Outer)) (cond (ieq (wand .i64 (ix (ix x5 a1 zi).Outer a2 zL).Rights 2) 0) (cond (zd1 ({ r with Mons:=x5 }:Host) a1 a2 ({ (ix (ix x5 a1 zi).Outer a2 zL) with Rights:=3 }:Slot)) (some [(AV.agg (zbh (zfC ({ r with Mons:=x5 }:Host) a1 a2 ({ (ix (ix x5 a1 zi).Outer a2 zL) with Rights:=3 }:Slot))))]) none) (some [(AV.agg (zbh ({ r with Mons:=x5 }:Host)))])) none) none))) none) none))=some [AV.agg (zbh (zia r a1 a2 a3))]:=by
  intro r hr hrm;obtain ⟨q1,q2⟩:=zbB hr hrm;have hD:=zi8 (p:=a2) hr hrm;unfold zia;cases h0:ieq (wand .i64 a3 2) 0
  .obtain ⟨k,rfl,hk⟩:=zcH (n:=r.Mons.length) hrm;have ex:ix (zbp r (k:Int) a2).Mons (k:Int) mZ={ ix r.Mons (k:Int) mZ with Dirty:=up (ix r.Mons (k:Int) mZ).Dirty a2 true }:=zdp hk _ _;refine ze5 rfl (must (zx hrm) (must (zx (zcm q2.2.2.1 hp)) (shr (must (zx (zdI hrm)) (must ?_ ?_)))))
   .rw [zdp hk];exact zx (zcm q2.1 hp)
   .unfold opened
    show (cond (ieq (wand .i64 (ix (ix (zbp r (k:Int) a2).Mons (k:Int) mZ).Outer a2 sZ).Rights 2) 0) _ _)=_
    cases h1:ieq (wand .i64 (ix (ix (zbp r (k:Int) a2).Mons (k:Int) mZ).Outer a2 sZ).Rights 2) 0
    .rfl
    .refine must rfl (must (zbj ⟨(zbL _).2 hD.1,zdI hrm,?_,?_⟩) rfl)
     .show hasB a2 (ln (ix (zbp r (k:Int) a2).Mons (k:Int) mZ).Outer)=true
      rw[ex];exact zcm q2.1 hp
     .show (ix (zbp r (k:Int) a2).Mons (k:Int) mZ).Tables.length<=(ix (zbp r (k:Int) a2).Mons (k:Int) mZ).Guests.length
      rw[ex];exact Nat.le_of_eq q2.2.2.2
  .rfl
 refine ⟨0,?_⟩;unfold zpF zl8 mended oN
 conv=>zeta
 refine must (zx hm) (must (zx (zcm g2.1 hp)) (must rfl ?_));have e:(cond (ieq (ix (ix a0.Mons a1 mZ).Outer a2 sZ).Page zbo.Page) (ieq (ix (ix a0.Mons a1 mZ).Outer a2 sZ).Rights zbo.Rights) false)=ieq (ix (ix a0.Mons a1 mZ).Outer a2 sZ).Page (-1):=by
  rw[<- hs.no];unfold zcq zbo;cases ieq (ix (ix a0.Mons a1 mZ).Outer a2 sZ).Page noSlot.Page<;>rfl
 rw[e];cases h0:ieq (ix (ix a0.Mons a1 mZ).Outer a2 sZ).Page (-1)
 .exact tail a0 hf.1 hm
 .obtain ⟨h1,h2⟩:=zi9 (p:=a2) hf hm hp;exact must rfl (must (zbj ⟨hf,hm,hp⟩) (tail _ h1 h2))
theorem zA9:zcP Tryz.prog 264 [true,true,true,true,false,false,false] (some (1,1,[[0],[1],[2],[4],[7]])) zmI:=by
 refine zhZ (kt:=.mon) (zb7 zfI zq zEh zwg) (zcO (by kernel_rfl)) (by kernel_rfl) ?_
 intro avs rs hl hr h;have hb:=zfX hr;unfold zmI at h;split at h
 .obtain ⟨hc,rfl⟩:=zhI h;obtain ⟨N,hN⟩:=zGm _ _ _ _ (by exact hb) hc
  exact ⟨⟨_,rfl⟩,rfl,_,N,12,(zI6 N _ _ _ _ ).trans hN⟩
 .cases h
@[simp] abbrev zyQ (h:Host)(m p n:Int):Bool:=pc (zG6 h m p n)
@[simp] abbrev zol (h:Host)(m p n:Int):Host:=mended h m p n
def zpW:List CV->List AV->Option (Bool×List CV×List AV)
 | [.s (.sl .int) b,.s .mon c,.s .entry d,.s .entry e],[.one (.i .i64 f),.one (.i .i64 g),.one (.i .i64 h)]=>some ((zyQ (⟨b,c,d,e⟩:Host) f g h),zbh (zol (⟨b,c,d,e⟩:Host) f g h),[])
 | _,_=>none
def zx1 (N:Nat)(c:Host)(a0 a1 a2:Int):OA:=
 let y3:=(zpe c a0 a1);let y6:=(ix y3.Mons a0 zi);let y2:=(ix c.Mons a0 zi); (oN (inb a0 (ln c.Mons)) (oN (inb a1 (ln y2.Outer)) (cond (ieq (ix y2.Outer a1 zL).Page (-1)) (oN (zup c a0 a1) (oN (zch a2 2) (cond (nB (zcF a2 2)) (some [(aH y3)]) (oN (inb a0 (ln y3.Mons)) (oN (inb a1 (ln y6.Dirty)) (share (up y3.Mons a0 ({ y6 with Dirty:=(up y6.Dirty a1 true) }:Mon)) (fun x5=>let y4:=(ix x5 a0 zi);let y0:=(ix y4.Outer a1 zL); (oN (inb a1 (ln y4.Outer)) (oN (zch y0.Rights 2) (cond (nB (zcF y0.Rights 2)) (oN (inb a1 (ln y4.Outer)) (share (up x5 a0 ({ y4 with Outer:=(up y4.Outer a1 ({ y0 with Rights:=3 }:Slot)) }:Mon)) (fun x6=>let y7:=({ y3 with Mons:=x6 }:Host); (oN (zc0 y7 a0 a1 y0) (some [(aH (zc1 y7 a0 a1 y0))]))))) (some [(aH ({ y3 with Mons:=x5 }:Host))]))))))))))) (oN (zch a2 2) (cond (nB (zcF a2 2)) (some [(aH c)]) (oN (inb a0 (ln c.Mons)) (oN (inb a1 (ln y2.Dirty)) (share (up c.Mons a0 ({ y2 with Dirty:=(up y2.Dirty a1 true) }:Mon)) (fun x5=>let y5:=(ix x5 a0 zi);let y1:=(ix y5.Outer a1 zL); (oN (inb a1 (ln y5.Outer)) (oN (zch y1.Rights 2) (cond (nB (zcF y1.Rights 2)) (oN (inb a1 (ln y5.Outer)) (share (up x5 a0 ({ y5 with Outer:=(up y5.Outer a1 ({ y1 with Rights:=3 }:Slot)) }:Mon)) (fun x6=>let y8:=({ c with Mons:=x6 }:Host); (oN (zc0 y8 a0 a1 y1) (some [(aH (zc1 y8 a0 a1 y1))]))))) (some [(aH ({ c with Mons:=x5 }:Host))])))))))))))))
theorem zOR (N:Nat)(c:Host)(a0 a1 a2:Int):zej (cQ zlr zkg zMY zJM) (zo []) N 12 239 [true,true,true,true] (zbh c) [aI a0,aI a1,aI a2]=zx1 N c a0 a1 a2:=by kernel_rfl
theorem zML (c:Host)(a0 a1 a2:Int)(hb:zbq big (.agg (zbh c) :: [aI a0,aI a1,aI a2]))(hc:zyQ c a0 a1 a2=true):∃N,zx1 N c a0 a1 a2=some (.agg (zbh (zol c a0 a1 a2)) :: []):=by
 obtain ⟨hf,hm,hp,hn,hs⟩:=zB.1 hc;obtain ⟨g1,g2⟩:=zbB hf.1 hm;have en:enough a2 2 = !ieq (wand .i64 a2 2) 0:=by rcases hn with rfl|rfl<;>rfl
 have tail:∀r,Shape r->hasB a0 (ln r.Mons)=true->enough (ix (ix r.Mons a0 mZ).Outer a1 sZ).Rights 2=(!ieq (wand .i64 (ix (ix r.Mons a0 mZ).Outer a1 sZ).Rights 2) 0)->(cond (zch a2 2) (cond (cond (zcF a2 2) false true) (some [(AV.agg (zbh r))]) (cond (inb a0 (ln r.Mons)) (cond (inb a1 (ln (ix r.Mons a0 zi).Dirty)) (share (up r.Mons a0 ({ (ix r.Mons a0 zi) with Dirty:=(up (ix r.Mons a0 zi).Dirty a1 true) }:Mon)) (fun x5=>(cond (inb a1 (ln (ix x5 a0 zi).Outer)) (cond (zch (ix (ix x5 a0 zi).Outer a1 zL).Rights 2) (cond (cond (zcF (ix (ix x5 a0 zi).Outer a1 zL).Rights 2) false true) (cond (inb a1 (ln (ix x5 a0 zi).Outer)) (share (up x5 a0 ({ (ix x5 a0 zi) with Outer:=(up (ix x5 a0 zi).Outer a1 ({ (ix (ix x5 a0 zi).Outer a1 zL) with Rights:=3 }:Slot)) }:Mon)) (fun x6=>(cond (zc0 ({ r with Mons:=x6 }:Host) a0 a1 (ix (ix x5 a0 zi).Outer a1 zL)) (some [(AV.agg (zbh (zc1 ({ r with Mons:=x6 }:Host) a0 a1 (ix (ix x5 a0 zi).Outer a1 zL))))]) none))) none) (some [(AV.agg (zbh ({ r with Mons:=x5 }:Host)))])) none) none))) none) none)) none)=some [AV.agg (zbh (zia r a0 a1 a2))]:=by
  intro r hr hrm her;obtain ⟨q1,q2⟩:=zbB hr hrm;have hD:=zi8 (p:=a1) hr hrm;unfold zia;simp only[zch,zcF,en,cT];cases h0:ieq (wand .i64 a2 2) 0
  .obtain ⟨k,rfl,hk⟩:=zcH (n:=r.Mons.length) hrm;have ex:ix (zbp r (k:Int) a1).Mons (k:Int) mZ={ ix r.Mons (k:Int) mZ with Dirty:=up (ix r.Mons (k:Int) mZ).Dirty a1 true }:=zdp hk _ _;have hk':k<(zbp r (k:Int) a1).Mons.length:=by simpa [zbp] using hk
   have hi:inb a1 (ln (ix (zbp r (k:Int) a1).Mons (k:Int) mZ).Outer)=true:=by
    rw[ex];exact zx (zcm q2.1 hp)
   refine ze5 rfl (must (zx hrm) (must (zx (zcm q2.2.2.1 hp)) (shr (must hi ?_))));unfold opened
   show (cond (cond (enough (ix (ix (zbp r (k:Int) a1).Mons (k:Int) mZ).Outer a1 sZ).Rights 2) false true) _ _)=_
   have e2:(cond (enough (ix (ix (zbp r (k:Int) a1).Mons (k:Int) mZ).Outer a1 sZ).Rights 2) false true)=ieq (wand .i64 (ix (ix (zbp r (k:Int) a1).Mons (k:Int) mZ).Outer a1 sZ).Rights 2) 0:=by
    rw[ex]
    show (cond (enough (ix (ix r.Mons (k:Int) mZ).Outer a1 sZ).Rights 2) false true)=ieq (wand .i64 (ix (ix r.Mons (k:Int) mZ).Outer a1 sZ).Rights 2) 0
    rw[her];cases ieq (wand .i64 (ix (ix r.Mons (k:Int) mZ).Outer a1 sZ).Rights 2) 0<;>rfl
   rw[e2];cases h1:ieq (wand .i64 (ix (ix (zbp r (k:Int) a1).Mons (k:Int) mZ).Outer a1 sZ).Rights 2) 0
   .rfl
   .have hX:Shape { zbp r (k:Int) a1 with Mons:=up (zbp r (k:Int) a1).Mons (k:Int) { ix (zbp r (k:Int) a1).Mons (k:Int) mZ with Outer:=up (ix (zbp r (k:Int) a1).Mons (k:Int) mZ).Outer a1 ⟨(ix (ix (zbp r (k:Int) a1).Mons (k:Int) mZ).Outer a1 sZ).Page,3⟩ } }:=by
     obtain ⟨w1,w2⟩:=zbB hD (zdI hrm);exact zfS hD ⟨by simpa using w1.1,w1.2⟩ ⟨by simpa using w2.1,w2.2⟩
    have hh:∀(x y:Mon),hasB (k:Int) (ln (up (up r.Mons (k:Int) x) (k:Int) y))=true:=fun x y=>by simpa [ln] using hrm
    refine must rfl (must hi (shr (must (zbj ⟨hX,hh _ _⟩) ?_)));exact congrArg (fun x=>some [AV.agg (zbh x)]) (zso (h:=zbp r (k:Int) a1) (p:=a1) (s:=⟨(ix (ix (zbp r (k:Int) a1).Mons (k:Int) mZ).Outer a1 sZ).Page,3⟩) hk' (by rw[ex];exact q2.2.2.2))
  .rfl
 refine ⟨0,?_⟩;unfold zx1 zol mended oN nB
 conv=>zeta
 refine must (zx hm) (must (zx (zcm g2.1 hp)) ?_);cases h0:ieq (ix (ix c.Mons a0 mZ).Outer a1 sZ).Page (-1)
 .exact tail c hf.1 hm (zSG hs.lo hs.hi)
 .obtain ⟨h1,h2⟩:=zi9 (p:=a1) hf hm hp;exact must rfl (must (zbj ⟨hf,hm,hp⟩) (tail _ h1 h2 (by rw[zHC hf hm hp];rfl)))
theorem zHN:zcD Tryz.prog 239 [true,true,true,true] zpW:=by
 refine zbw (zb7 zfI zq zEh zwg) (zcO (by kernel_rfl)) ?_
 intro cs avs cs' rs hl hr h;have hb:=zbI hr;unfold zpW at h;split at h
 .obtain ⟨hc,rfl,rfl⟩:=zbU h;obtain ⟨N,hN⟩:=zML _ _ _ _ (by exact hb) hc
  exact ⟨rfl,_,N,12,(zOR N _ _ _ _ ).trans hN⟩
 .cases h
def zM8:zcv:=[(239,([true,true,true,true],zpW))]++zMY
theorem zfh:zbM zM8:=zcT zEh (by
 intro x hx;simp only[qH,qU,or_false]at hx;rcases hx with rfl
 .exact zHN)
def zNw:zdq:=[(264,([true,true,true,true,false,false,false],(some (1,1,[[0],[1],[2],[4],[7]])),zmI))]++zJM
theorem zwh:zcQ zNw:=zli zwg (by
 intro x hx;simp only[qH,qU,or_false]at hx;rcases hx with rfl
 .exact zA9)
theorem zMB {h:Host}(hh:zbC h=true):h.Memory.length=12:=by
 unfold zbC at hh;simp only[zce]at hh;have h1:=hh.1;unfold zgn at h1;simp only[zce]at h1;have:ln h.Memory=12:=qG h1.2;simp only[ln] at this;omega
theorem zgO {h:Host}(hh:zbC h=true):∀x∈h.Mons,zcM x=true:=by
 unfold zbC at hh;simp only[zce]at hh;exact zBe _ _ hh.2.2.2.2
theorem zy9 {x:Mon}(hk:zcM x=true):ShM x:=by
 have ho:=zmb (zfO hk);unfold zcM at hk;simp only[zce]at hk;have e1:ln x.Tables=ln x.Guests:=qG hk.2.1;have e2:ln x.Out=8:=qG hk.2.2.2.1;have e3:ln x.Dirty=8:=qG hk.2.2.2.2.1;simp only[ln] at *;exact ⟨by omega,by omega,by omega,by omega⟩
theorem zm6 {h:Host}(hs:SmH h)(hh:zbC h=true):Fit h:=by
 refine ⟨⟨hs,fun x hx=>zy9 (zgO hh x hx)⟩,by rw[zMB hh];decide,?_⟩
 unfold zbC at hh;simp only[zce]at hh;have:=zHQ _ _ rfl hh.2.2.2.2;omega
theorem zBF {x:Mon}(hk:zcM x=true){p:Int}(hp:hasB p 8=true):SlotFit (ix x.Outer p sZ):=by
 have ht:=zfO hk;unfold zcf at ht;simp only[zce]at ht;exact zNn (qS.1 ht.1 _ (zbJ (zcm (zy9 hk).1 hp) _))
theorem zKs {h:Host}{m p:Int}(hf:Fit h)(hm:hasB m (ln h.Mons)=true):Fit (zbp h m p):=by
 refine ⟨zi8 hf.1 hm,hf.2.1,?_⟩;obtain ⟨k,rfl,hk⟩:=zcH (n:=h.Mons.length) hm;have:=zKc h.Mons k (ix h.Mons (k:Int) mZ) { ix h.Mons (k:Int) mZ with Dirty:=up (ix h.Mons (k:Int) mZ).Dirty p true } (by rw[zZ hk];exact qB hk)
 have h3:=hf.2.2;unfold zbp;simp only[up,kU]
 dsimp only at this
 simp only[up] at this;omega
abbrev gZ:Guest:=Ty.dflt .guest
@[simp] abbrev zlV (h:Host)(m:Int):Bool:=pc (zcn h)
@[simp] abbrev zbD (h:Host)(m:Int):Mon:=bif hasB m (ln h.Mons) then ix h.Mons m mZ else mZ
@[simp] abbrev zhn (h:Host)(m:Int):Bool:=hasB m (ln h.Mons)
def zxA:Run:=rF2 dH dI fun b c=>(zlV b c,[aT .mon (zbD b c),aB (zhn b c)])
def zEJ (N:Nat)(a0:Host)(a1:Int):OA:=
 let y0:=(ix a0.Mons a1 zi); (oN (zbs a1 (ln a0.Mons)) (cond (nB (zbA a1 (ln a0.Mons))) (some [(aT .mon (⟨[],[],[],[],[],0,0,[],0⟩:Mon)),(aB false)]) (oN (inb a1 (ln a0.Mons)) (oN (zgT y0) (some [(aT .mon (zhs y0)),(aB true)])))))
theorem zKF (a0:Host)(a1:Int)(hc:zlV a0 a1=true):∃N,zEJ N a0 a1=some [aT .mon (zbD a0 a1),aB (zhn a0 a1)]:=by
 have hs:=(zbL a0).1 (zB.1 hc);refine ⟨0,?_⟩;unfold zEJ zbD zhn oN nB
 conv=>zeta
 refine must rfl ?_;rw[show zbA a1 (ln a0.Mons)=hasB a1 (ln a0.Mons) from rfl]
 cases hh:hasB a1 (ln a0.Mons)
 .rfl
 .exact ze5 rfl (must (zx hh) (must (zbj (hs.2.1.2 _ (zbJ hh _))) rfl))
theorem zFH:uV 160 zxA:=kF2 zfI zq zfh zwh (zo []) zKF
def zbW (h:Host)(m g:Int):Bool:=bif zbC h then (cond (hasB m (ln h.Mons)) (hasB g (ln (ix h.Mons m mZ).Guests)) false) else false
def ze0 (h:Host)(m:Int):Nat->Nat->List (List Int)
 | 0,_=>[]
 | n+1,i=>zdd h m (i:Int) :: ze0 h m n (i+1)
theorem zr7 (h:Host)(m:Int):∀(n i:Nat),(ze0 h m n i).length=n
 | 0,_=>rfl
 | n+1,i=>by simp[ze0,zr7 h m n]
def zbc (h:Host)(m:Int):Bare:=bif hasB m (ln h.Mons) then ⟨ze0 h m 8 0,(ix h.Mons m mZ).Guests,(ix h.Mons m mZ).Outs,(ix h.Mons m mZ).Pending⟩ else ⟨[],[],[],0⟩
theorem zt7 {ρ:Type}(h:Host)(m:Int)(K:List (List Int)->Option ρ):∀(n i:Nat) (acc:List (List Int)),acc.length+n<=2147483648 ->
 goN (fun i acc κ=>bif few (ln (ap acc [zdd h m (i:Int)])) then κ (ap acc [zdd h m (i:Int)]) else none) K n i acc=K (acc++ze0 h m n i)
 | 0,_,acc,_=>by simp[goN,ze0]
 | n+1,i,acc,hl=>by
  simp only[goN,ze0];rw[zd5 (by simp[ap];omega),cT,zt7 h m K n (i+1) _ (by simp[ap];omega)]
  simp[ap]
@[simp] abbrev zh3 (h:Host)(m:Int):Bool:=pc (zcn h)
@[simp] abbrev zeU (h:Host)(m:Int):Bare:=zbc h m
def zRC:zK:=[(160,zxA)]++zlr
theorem zHu:zy zRC:=zf zFH zfI
def zu1:Run:=rF2 dH dI fun b c=>(zh3 b c,[aT .bare (zeU b c)])
def zzP (N:Nat)(a0:Host)(a1:Int):OA:=
 (oN (zlV a0 a1) (cond (nB (zhn a0 a1)) (some [(aT .bare (⟨[],[],[],0⟩:Bare))]) (iter (σ:=(Int×(Int×(Int×(Int×(lM×(lN×(lE×(lE×(lM×(lG×((List Int)×(lM×(lG×((List Int)×Unit))))))))))))))) N (fun r3 s4=>let y3:=s4.2.2.2.2.2.2.2.2.2.2.2.2.1;let y2:=s4.2.2.2.2.2.2.2.2.2.2.2.2.2.1;let y0:=(⟨s4.2.2.2.2.1,s4.2.2.2.2.2.1,s4.2.2.2.2.2.2.1,s4.2.2.2.2.2.2.2.1⟩:Host);let y1:=(ap s4.2.2.2.2.2.2.2.2.2.2.2.1 [(zrP y0 s4.1 s4.2.1)]); (cond (ilt s4.2.1 8) (oN (zrQ y0 s4.1 s4.2.1) (oN (few (ln y1)) (r3 (s4.1,((zG .i64 s4.2.1 1),(s4.2.2.1,(s4.2.2.2.1,(s4.2.2.2.2.1,(s4.2.2.2.2.2.1,(s4.2.2.2.2.2.2.1,(s4.2.2.2.2.2.2.2.1,(s4.2.2.2.2.2.2.2.2.1,(s4.2.2.2.2.2.2.2.2.2.1,(s4.2.2.2.2.2.2.2.2.2.2.1,(y1,(y3,(y2,()))))))))))))))))) (some [(aT .bare (⟨s4.2.2.2.2.2.2.2.2.2.2.2.1,y3,y2,s4.2.2.2.1⟩:Bare))]))) (a1,(0,(0,((zbD a0 a1).Pending,(a0.Memory,(a0.Mons,(a0.Buffer,(a0.IoBuffer,([],([],([],([],((zbD a0 a1).Guests,((zbD a0 a1).Outs,())))))))))))))))))
def zJT:FuncId->Nat->Option Tmpl:=zo [(146,0,{ n:=39,tm:=[(1,ti),(2,.lp 0 0),(4,.lp 1 0),(7,.lp 2 0),(8,ti)],lo:=[(0,[.sl 0 [],.sl 1 [],.sl 2 [],.sl 3 []]),(1,[.sl 4 [],.sl 5 [],.sl 6 [],ti]),(2,[.sl 7 [],.sl 8 [],.sl 9 [],ti])],ro:=[(0,(.sl .int),false),(1,.mon,false),(2,.entry,false),(3,.entry,false),(4,(.sl .int),true),(5,.guest,true),(6,.int,true),(7,(.sl .int),true),(8,.guest,true),(9,.int,true)] })]
theorem zIi (a0:Host)(a1:Int)(hc:zh3 a0 a1=true):∃N,zzP N a0 a1=some [aT .bare (zeU a0 a1)]:=by
 have hs:=zB.1 hc;refine zbK fun N hNN=>?_;unfold zzP zeU zbc oN nB
 conv=>zeta
 refine must (zbj hs) ?_;rw[show zhn a0 a1=hasB a1 (ln a0.Mons) from rfl]
 cases hh:hasB a1 (ln a0.Mons)
 .rfl
 .refine ze5 rfl ?_;refine (zom 8 (fun i (t:lM)=>(a1,(i:Int),0,(zbD a0 a1).Pending,a0.Memory,a0.Mons,a0.Buffer,a0.IoBuffer,[],[],[],t,(zbD a0 a1).Guests,(zbD a0 a1).Outs,())) _ (fun i (acc:List (List Int)) κ=>bif few (ln (ap acc [zdd a0 a1 (i:Int)])) then κ (ap acc [zdd a0 a1 (i:Int)]) else none) (fun (t:lM)=>(some [(.agg (Ty.cells .bare (⟨t,(zbD a0 a1).Guests,(zbD a0 a1).Outs,(zbD a0 a1).Pending⟩:Bare)))])) (fun i hi t rec=>?_) (fun t rec=>?_) _ ([]) (hNN (by decide))).trans ?_
  .simp only [show ilt (i:Int) 8=true from qL (by omega),zN hi (show 8<=big by decide),cT]
   exact must (zbj hs) rfl
  .simp only [show ilt (((8:Nat)):Int) 8=false from qK (by omega),cF]
  rw[zt7 a0 a1 _ 8 0 [] (by decide)]
  simp only[zbD,hh,cT,jL]
theorem zCZ:uV 146 zu1:=kF2 zHu zq zfh zwh zJT zIi
theorem zK1:zb3 zsv=true:=by decide
theorem zLr {p:Nat->Bool}:∀{n i q:Nat},zkN p n i=true->i<=q->q<i+n->p q=true
 | 0,i,q,_,h1,h2=>by omega
 | n+1,i,q,h,h1,h2=>by
  simp only[zkN,qD]at h
  by_cases he:i=q
  .subst he;exact h.1
  .exact zLr h.2 (by omega) (by omega)
theorem zOY {h:Host}{m:Int}(hh:zbC h=true)(hm:hasB m (ln h.Mons)=true){p:Int}(hp:hasB p 8=true):zb3 (zdd h m p)=true:=by
 have hk:=zgO hh _ (zbJ hm mZ);have hsh:=zy9 hk;have hmem:h.Memory.all zb3=true:=by
  unfold zbC at hh;simp only[zce]at hh;have h1:=hh.1;unfold zgn at h1;simp only[zce]at h1;exact h1.1
 unfold zdd;rw[hm,hp];simp only[cT];have hsl:zcp (ix h.Mons m mZ).Outer p=ix (ix h.Mons m mZ).Outer p sZ:=by
  unfold zcp;rw[zcm hsh.1 hp];rfl
 rw[hsl];have hAt:∀(mm:List (List Int)) (q:Int),(hasB q (ln mm)=true->zb3 (ix mm q [])=true)->zb3 (zfu mm q)=true:=by
  intro mm q hq;unfold zfu;cases h1:hasB q (ln mm)
  .exact zK1
  .exact hq h1
 cases hpg:ine (ix (ix h.Mons m mZ).Outer p sZ).Page (-1)
 .refine hAt _ _ (fun hq=>?_);obtain ⟨q,rfl,hq8⟩:=zcH (n:=8) hp;have hfit:fits (ix h.Mons m mZ) q=true:=by
   unfold zcM at hk;simp only[zce]at hk;exact zLr hk.2.2.2.2.2.2.2.2.2.2 (by omega) (by omega)
  unfold fits znM at hfit;have hno:zcq (ix (ix h.Mons m mZ).Outer (q:Int) sZ) noSlot=true:=by
   rw[(zBF (zgO hh _ (zbJ hm mZ)) hp).no];rw[zh7]at hpg;cases h1:ieq (ix (ix h.Mons m mZ).Outer (q:Int) sZ).Page (-1)
   .rw [h1]at hpg;cases hpg
   .rfl
  rw[hno]at hfit;exact hfit
 .exact hAt _ _ (fun hq=>qS.1 hmem _ (zbJ hq _))
theorem zFj {h:Host}{m:Int}(hh:zbC h=true)(hm:hasB m (ln h.Mons)=true):∀(n i:Nat),i+n<=8->(ze0 h m n i).all zb3=true
 | 0,_,_=>rfl
 | n+1,i,hi=>by
  simp only[ze0,kQ,qD];exact ⟨zOY hh hm (qL (by omega)),zFj hh hm n (i+1) (by omega)⟩
theorem zKj {h:Host}{m:Int}(hh:zbC h=true)(hm:hasB m (ln h.Mons)=true):zds (zbc h m)=true:=by
 have hk:=zgO hh _ (zbJ hm mZ);unfold zcM at hk;simp only[zce]at hk;unfold zbc zds zgn;rw[hm];simp only[cT,hk.2.2.2.2.2.2.2.2.2.1,zFj hh hm 8 0 (by decide),ln,zr7]
 simp only[ln]at hk;rw[hk.1,hk.2.2.2.2.2.1,hk.2.2.2.2.2.2.1];rfl
def zGH:zK:=[(146,zu1)]++zRC
theorem zyg:zy zGH:=zf zCZ zHu
def zcR (l:List Mon):List (List Guest):=l.map fun x=>x.Guests
theorem zrL {l:List Mon}{m:Int}{x:Mon}(hm:hasB m (ln l)=true)(hx:x.Guests=(ix l m mZ).Guests):zcR (up l m x)=zcR l:=by
 obtain ⟨k,rfl,hk⟩:=zcH (n:=l.length) hm;unfold zcR up;rw[List.map_set,kU,hx,zZ hk];have:=@uE _ (l.map fun x=>x.Guests) k (by simpa using hk)
 simpa using this
theorem zMz {l l':List Mon}(h:zcR l'=zcR l)(m:Int):(ix l' m mZ).Guests=(ix l m mZ).Guests:=by
 unfold zcR at h;have h2:(l'.map fun x=>x.Guests)[m.toNat]?=(l.map fun x=>x.Guests)[m.toNat]?:=by rw[h]
 rw[qM,qM]at h2;unfold ix;simp only[kB];cases h3:l'[m.toNat]? <;> cases h4:l[m.toNat]? <;> rw [h3,h4]at h2<;>simp at h2 ⊢;exact h2
theorem zrK {h:Host}{m p:Int}{s:Slot}(hm:hasB m (ln h.Mons)=true):zcR (zdm h m p s).Mons=zcR h.Mons:=by
 rw[(zef h m p s).1];exact zrL hm rfl
theorem zSL {h:Host}{m p:Int}(hm:hasB m (ln h.Mons)=true):zcR (zdS h m p).Mons=zcR h.Mons:=(zrK (h:=zdZ h m p) (zdI hm)).trans (zrL hm rfl)
theorem zSK {h:Host}(hf:Fit h):zcR (zcy h).Mons=zcR h.Mons:=by
 unfold zcy;cases h0:ieq (ln (zbX h)) 0
 .rfl
 .exact zSL (zv7 hf h0).1
theorem zMy {h:Host}{m p:Int}(hf:Fit h)(hm:hasB m (ln h.Mons)=true):zcR (fetched h m p).Mons=zcR h.Mons:=by
 have hr:=zk5 hf hm;exact ((zrK (h:=landing (zcy h) m p (ix (zbX (zcy h)) 0 0)) (zdI hr)).trans (zrL hr rfl)).trans (zSK hf)
theorem zHI {h:Host}{m p n:Int}(hm:hasB m (ln h.Mons)=true):zcR (zia h m p n).Mons=zcR h.Mons:=by
 have hd:zcR (zbp h m p).Mons=zcR h.Mons:=zrL hm rfl;unfold zia;cases ieq (wand .i64 n 2) 0
 .unfold opened;cases ieq (wand .i64 (ix (ix (zbp h m p).Mons m mZ).Outer p sZ).Rights 2) 0
  .exact hd
  .exact (zrK (h:=zbp h m p) (zdI hm)).trans hd
 .rfl
theorem zOx {h:Host}{m p n:Int}(hf:Fit h)(hm:hasB m (ln h.Mons)=true)(hp:hasB p 8=true):zcR (mended h m p n).Mons=zcR h.Mons:=by
 unfold mended;cases ieq (ix (ix h.Mons m mZ).Outer p sZ).Page (-1)
 .exact zHI hm
 .exact (zHI (zi9 hf hm hp).2).trans (zMy hf hm)
theorem zTH {l l':List Mon}(h:zcR l'=zcR l):l'.length=l.length:=by
 have:=congrArg List.length h;simpa [zcR] using this
abbrev kZ:Kept:=Ty.dflt .kept
theorem zUw {x:Guest}(hk:zcl x=true){p n:Int}(hw:zex x.Live p n=true):hasB (zb4 x.Live p n) 8=true:=by
 have ht:zcf x.Live 4 8=true:=by
  unfold zcl at hk;simp only[qD]at hk;exact hk.2.2.2.2.1
 unfold zb4;rw[hw];simp only[cT];unfold zex at hw;cases h1:ieq (zcp x.Live p).Page (-1)
 .unfold zcp at h1 ⊢;cases h2:hasB p (ln x.Live)
  .rw [h2]at h1;cases h1
  .rw [h2]at h1;simp only[cT]at h1 ⊢;unfold zcf at ht;simp only[zce]at ht;have hs:=qS.1 ht.1 _ (zbJ h2 sZ);unfold zdf at hs;cases h3:zcq (ix x.Live p sZ) noSlot
   .rw [h3]at hs;simp only[cF,zce]at hs;have:=zdy.1 hs.2.1;rw[show wsub .i64 8 1=7 from rfl] at this
    show hasB (ix x.Live p sZ).Page 8=true
    exact qL (by omega)
   .unfold zcq at h3;rw[qD]at h3;have:(ix x.Live p sZ).Page = -1:=qG h3.1;rw[show ieq (ix x.Live p zL).Page (-1)=true from qL this]at h1
    cases h1
 .rw [h1]at hw;cases hw
def zcx (h:Host)(m g:Int):List Slot:=(ix (ix h.Mons m mZ).Guests g gZ).Live
def zb2 (h:Host)(m g:Int):Kept:=ix (ix h.Mons m mZ).Tables g kZ
def zm4 (h:Host)(io:Bool):List Entry:=bif io then h.IoBuffer else h.Buffer
def zn6 (b:List Entry)(m g page:Int):Option Entry:=zrA b (zen m g) page
def zhW (b:List Entry)(m g page need:Int):Bool:=bif (zn6 b m g page).isSome then enough ((zn6 b m g page).getD ⟨0,0,0,0⟩).Rights need else false
def zdn (h:Host)(m g page need:Int):Bool:=bif ziI (zb2 h m g) page then (cond (ieq (zdG (zb2 h m g) page).Page (-1)) true (!enough (zdG (zb2 h m g) page).Rights need)) else true
def zcd (h:Host)(m g page:Int):Host:={ h with Mons:=up h.Mons m { ix h.Mons m mZ with Tables:=up (ix h.Mons m mZ).Tables g (filled (zb2 h m g) (zcx h m g) (ix h.Mons m mZ).Outer page) } }
def zRR (h:Host)(m g page:Int):Entry:=⟨zen m g,page,(zdG (zb2 h m g) page).Page,(zdG (zb2 h m g) page).Rights⟩
def zGN (h:Host)(m g page:Int)(io:Bool):Host:=bif io then { h with IoBuffer:=zuG h.IoBuffer (zRR h m g page) } else { h with Buffer:=zuG h.Buffer (zRR h m g page) }
def zdv (h:Host)(m g page:Int)(io:Bool):Host×Int×Bool:=(zGN h m g page io,(zdG (zb2 h m g) page).Page,true)
def zfV (h:Host)(b:List Entry)(m g page need q:Int)(io:Bool):Host×Int×Bool :=
 bif zhW b m g page need then (h,((zn6 b m g page).getD ⟨0,0,0,0⟩).Host,true)
 else (cond (zdn h m g page need) (zdv (zcd (mended h m q need) m g page) m g page io) (zdv h m g page io))
def zeY (need:Int):Bool:=bif ieq need 1 then true else ieq need 2
def zcJ (h:Host)(m g page need:Int):Bool:=bif zbW h m g then (cond (zeY need) (zex (zcx h m g) page need) false) else false
def lookOf (h:Host)(b:List Entry)(m g page need:Int)(io:Bool):Host×Int×Bool :=
 bif zcJ h m g page need then zfV (cond (ieq need 2) (zbp h m (zb4 (zcx h m g) page need)) h) b m g page need (zb4 (zcx h m g) page need) io else (h,-1,false)
structure Kp (h r:Host):Prop where
 shape:Shape r
 gs:zcR r.Mons=zcR h.Mons
theorem Kp.has {h r:Host}(k:Kp h r){m:Int}(hm:hasB m (ln h.Mons)=true):hasB m (ln r.Mons)=true:=by
 rw[ln,zTH k.gs];exact hm
theorem zNk {h:Host}{m g page:Int}(hs:Shape h)(hm:hasB m (ln h.Mons)=true)(hg:hasB g (ln (ix h.Mons m mZ).Guests)=true):Shape (zcd h m g page):=by
 obtain ⟨g1,g2⟩:=zbB hs hm;have ht:hasB g (ln (ix h.Mons m mZ).Tables)=true:=by rw[ln,g2.2.2.2];exact hg
 exact zfS hs ⟨g1.1,g1.2.1,g1.2.2.1,g1.2.2.2.1,g1.2.2.2.2.1,zEq g1.2.2.2.2.2 (zNp (g1.2.2.2.2.2.2 _ (zbJ ht _)))⟩ ⟨g2.1,g2.2.1,g2.2.2.1,by simpa using g2.2.2.2⟩
theorem zOD {h r:Host}{m g page:Int}{io:Bool}(k:Kp h r):Kp h (zGN r m g page io):=by
 obtain ⟨⟨h1,h2,h3,h4⟩,h5⟩:=k.shape;unfold zGN;cases io
 .exact ⟨⟨⟨h1,h2,(zsa _ h3).1,h4⟩,h5⟩,k.gs⟩
 .exact ⟨⟨⟨h1,h2,h3,(zsa _ h4).1⟩,h5⟩,k.gs⟩
structure LookAt (h:Host) (m g q need:Int):Prop where
 fit:Fit h
 hm:hasB m (ln h.Mons)=true
 hg:hasB g (ln (ix h.Mons m mZ).Guests)=true
 hq:hasB q 8=true
 hn:need=1\/need=2
 hs:SlotFit (ix (ix h.Mons m mZ).Outer q sZ)
theorem LookAt.mend {h:Host}{m g q need:Int}(A:LookAt h m g q need):zG6 h m q need:=⟨A.fit,A.hm,A.hq,A.hn,A.hs⟩
theorem LookAt.kp {h:Host}{m g q need:Int}(A:LookAt h m g q need):Kp h (mended h m q need):=⟨(zJw A.fit A.hm A.hq).1,zOx A.fit A.hm A.hq⟩
theorem LookAt.fill {h:Host}{m g q need:Int}(A:LookAt h m g q need)(page:Int):Kp h (zcd (mended h m q need) m g page):=by
 have k:=A.kp;have hg:hasB g (ln (ix (mended h m q need).Mons m mZ).Guests)=true:=by rw[zMz k.gs];exact A.hg
 have e:zcR (zcd (mended h m q need) m g page).Mons=zcR (mended h m q need).Mons:=zrL (k.has A.hm) rfl;exact ⟨zNk k.shape (k.has A.hm) hg,e.trans k.gs⟩
theorem zHY {h:Host}{b:List Entry}{m g page need q:Int}{io:Bool}(A:LookAt h m g q need):Kp h (zfV h b m g page need q io).1:=by
 unfold zfV;cases zhW b m g page need
 .cases zdn h m g page need
  .exact zOD ⟨A.fit.1,rfl⟩
  .exact zOD (A.fill page)
 .exact ⟨A.fit.1,rfl⟩
theorem zd7 {h:Host}{m g:Int}(hh:zbW h m g=true):zbC h=true/\hasB m (ln h.Mons)=true/\hasB g (ln (ix h.Mons m mZ).Guests)=true:=by
 unfold zbW at hh;simp only[zce]at hh;exact hh
theorem zMA {h:Host}{m g:Int}(hh:zbW h m g=true):zcl (ix (ix h.Mons m mZ).Guests g gZ)=true:=by
 obtain ⟨h1,h2,h3⟩:=zd7 hh;have hk:=zgO h1 _ (zbJ h2 mZ);unfold zcM at hk;simp only[zce]at hk;exact qS.1 hk.2.2.2.2.2.2.2.2.2.1 _ (zbJ h3 _)
theorem zBH {n:Int}(h:zeY n=true):n=1\/n=2:=by
 unfold zeY at h;cases h1:ieq n 1
 .rw [h1]at h;exact .inr (qG h)
 .exact .inl (qG h1)
theorem zuA {h:Host}{m g page need:Int}(hs:SmH h)(hh:zcJ h m g page need=true) :
 LookAt h m g (zb4 (zcx h m g) page need) need/\LookAt (zbp h m (zb4 (zcx h m g) page need)) m g (zb4 (zcx h m g) page need) need:=by
 unfold zcJ at hh;simp only[zce]at hh;obtain ⟨h1,h2,h3⟩:=hh;obtain ⟨g1,g2,g3⟩:=zd7 h1;have hq:hasB (zb4 (zcx h m g) page need) 8=true:=zUw (zMA h1) h3;have hsl:=zBF (zgO g1 _ (zbJ g2 mZ)) hq;have hf:=zm6 hs g1;refine ⟨⟨hf,g2,g3,hq,zBH h2,hsl⟩,⟨zKs hf g2,zdI g2,?_,hq,zBH h2,?_⟩⟩
 .have e:zcR (zbp h m (zb4 (zcx h m g) page need)).Mons=zcR h.Mons:=zrL g2 rfl;rw[zMz e];exact g3
 .obtain ⟨k,rfl,hk⟩:=zcH (n:=h.Mons.length) g2;unfold zbp;rw[zdp hk];exact hsl
theorem zLH {h:Host}{b:List Entry}{m g page need:Int}{io:Bool}(hs:SmH h)(hh:zbW h m g=true):Kp h (lookOf h b m g page need io).1:=by
 have hf:=zm6 hs (zd7 hh).1;unfold lookOf;cases h1:zcJ h m g page need
 .exact ⟨hf.1,rfl⟩
 .obtain ⟨A,B⟩:=zuA hs h1;simp only[cT];cases ieq need 2
  .exact zHY A
  .have k:=zHY (b:=b) (page:=page) (io:=io) B;have e:zcR (zbp h m (zb4 (zcx h m g) page need)).Mons=zcR h.Mons:=zrL A.hm rfl;exact ⟨k.shape,k.gs.trans e⟩
def zgp (x:Host×Int×Bool):List AV:=[.agg (zbh x.1),.one (.i .i64 x.2.1),.one (.b x.2.2)]
theorem zgU {h:Host}{b:List Entry}{m g page need:Int}{io:Bool}(hh:zcJ h m g page need=false):lookOf h b m g page need io=(h,-1,false):=by
 unfold lookOf;rw[hh];rfl
theorem zjG {h:Host}{m g page need:Int}(hh:zbW h m g=false):zcJ h m g page need=false:=by
 unfold zcJ;rw[hh];rfl
theorem zCA {h:Host}{m g:Int}(hh:zbC h=false):zbW h m g=false:=by
 unfold zbW;rw[hh];rfl
theorem zCB {h:Host}{m g:Int}(hh:hasB m (ln h.Mons)=false):zbW h m g=false:=by
 unfold zbW;rw[hh];cases zbC h<;>rfl
theorem zCC {h:Host}{m g:Int}(hh:hasB g (ln (ix h.Mons m mZ).Guests)=false):zbW h m g=false:=by
 unfold zbW;rw[hh];cases zbC h<;>cases hasB m (ln h.Mons)<;>rfl
theorem zCD {h:Host}{m g:Int}(h1:zbC h=true)(h2:hasB m (ln h.Mons)=true)(h3:hasB g (ln (ix h.Mons m mZ).Guests)=true):zbW h m g=true:=by
 unfold zbW;rw[h1,h2,h3];rfl
structure LookF (r:Host) (m g:Int):Prop where
 hm:hasB m (ln r.Mons)=true
 hg:hasB g (ln (ix r.Mons m mZ).Guests)=true
 ht:hasB g (ln (ix r.Mons m mZ).Tables)=true
 hk:SmK (zb2 r m g)
 hb:r.Buffer.length<=1048576
 hi:r.IoBuffer.length<=1048576
theorem zkf {h r:Host}{m g:Int}(k:Kp h r)(hm:hasB m (ln h.Mons)=true)(hg:hasB g (ln (ix h.Mons m mZ).Guests)=true):LookF r m g:=by
 obtain ⟨g1,g2⟩:=zbB k.shape (k.has hm);have hg':hasB g (ln (ix r.Mons m mZ).Guests)=true:=by rw[zMz k.gs];exact hg
 have ht:hasB g (ln (ix r.Mons m mZ).Tables)=true:=by rw[ln,g2.2.2.2];exact hg'
 exact ⟨k.has hm,hg',ht,g1.2.2.2.2.2.2 _ (zbJ ht _),k.shape.1.2.2.1,k.shape.1.2.2.2⟩
@[simp] abbrev zxN (h:Host)(b:List Entry)(m g page need:Int)(io:Bool):Bool:=pc (zcn h)
@[simp] abbrev zxK (h:Host)(b:List Entry)(m g page need:Int)(io:Bool):Host:=(lookOf h b m g page need io).1
@[simp] abbrev zxL (h:Host)(b:List Entry)(m g page need:Int)(io:Bool):Int:=(lookOf h b m g page need io).2.1
@[simp] abbrev zxM (h:Host)(b:List Entry)(m g page need:Int)(io:Bool):Bool:=(lookOf h b m g page need io).2.2
def zmK:List AV->Option (Bool×List AV)
 | [.agg [.s (.sl .int) c,.s .mon d,.s .entry e,.s .entry f],.one (.s .entry g),.one (.i .i64 h),.one (.i .i64 j),.one (.i .i64 k),.one (.i .i64 l),.one (.b m)]=>some ((zxN (⟨c,d,e,f⟩:Host) g h j k l m),[aH (zxK (⟨c,d,e,f⟩:Host) g h j k l m),aI (zxL (⟨c,d,e,f⟩:Host) g h j k l m),aB (zxM (⟨c,d,e,f⟩:Host) g h j k l m)])
 | _=>none
abbrev zFz (u9_11:lM)(u9_12:lN)(u9_13:lE)(u9_14:lE)(u9_0:Int)(u9_5:Int)(u9_3:Int):Mon :=
 (ix (zl8 (⟨u9_11,u9_12,u9_13,u9_14⟩:Host) u9_0 u9_5 u9_3).Mons u9_0 zi)
abbrev zFA (a0:Host)(a2 a3:Int)(a4 a5:Int):Int :=
 (zgH (ix (ix a0.Mons a2 zi).Guests a3 zC).Live a4 a5)
def zCn (N:Nat)(u11_0:Int)(u11_2:lM)(u11_3:lN)(u11_4:lE)(u11_5:lE):OA:=
 (some [(aH (⟨u11_2,u11_3,u11_4,u11_5⟩:Host)),(aI u11_0),(aB true)])
def zkL (N:Nat)(u10_0:Int)(u10_1:Bool)(u10_2:Int)(u10_7:Int)(u10_8:Int)(u10_9:lM)(u10_10:lN)(u10_11:lE)(u10_12:lE)(u10_13:lM)(u10_14:lN)(u10_15:lE)(u10_16:lE):OA:=
 let y0:=(⟨u10_2,u10_0,u10_7,u10_8⟩:Entry); (share (fun (s11:(Int×(Int×(lM×(lN×(lE×(lE×(lM×(lN×(lE×(lE×Unit)))))))))))=>(zCn N s11.1 s11.2.2.1 s11.2.2.2.1 s11.2.2.2.2.1 s11.2.2.2.2.2.1)) (fun r11=>(cond u10_1 (oN (zkv u10_12 y0) (r11 (u10_7,(u10_8,(u10_9,(u10_10,(u10_11,((zku u10_12 y0),(u10_13,(u10_14,(u10_15,(u10_16,())))))))))))) (oN (zkv u10_11 y0) (r11 (u10_7,(u10_8,(u10_9,(u10_10,((zku u10_11 y0),(u10_12,(u10_13,(u10_14,(u10_15,(u10_16,())))))))))))))))
def zmj (N:Nat)(u9_11:lM)(u9_12:lN)(u9_13:lE)(u9_14:lE)(u9_0:Int)(u9_5:Int)(u9_3:Int)(u9_1:Int)(u9_2:Int)(r10:((Int×(Bool×(Int×(Int×(Int×(Int×(Int×(Int×(Int×(lM×(lN×(lE×(lE×(lM×(lN×(lE×(lE×Unit))))))))))))))))))->OA)(u9_4:Bool)(u9_6:Int)(u9_7:Int)(u9_8:Int)(u9_9:Int)(u9_10:Int)(u9_15:lM)(u9_16:lN)(u9_17:lE)(u9_18:lE):OA:=
 let y7:=(⟨u9_11,u9_12,u9_13,u9_14⟩:Host);let y1:=(zl8 y7 u9_0 u9_5 u9_3);let y3:=(inb u9_0 (ln y1.Mons));let y0:=(zFz u9_11 u9_12 u9_13 u9_14 u9_0 u9_5 u9_3);let y6:=(ix y0.Tables u9_1 zcr);let y4:=(ix y0.Guests u9_1 zC).Live; (oN (zp5 y7 u9_0 u9_5 u9_3) (oN y3 (oN y3 (oN (inb u9_1 (ln y0.Tables)) (oN y3 (oN (inb u9_1 (ln y0.Guests)) (oN y3 (oN (zzf y6 y4 y0.Outer u9_2) (oN (inb u9_1 (ln y0.Tables)) (share (up y1.Mons u9_0 ({ y0 with Tables:=(up y0.Tables u9_1 (zBW y6 y4 y0.Outer u9_2)) }:Mon)) (fun x11=>let y5:=(ix x11 u9_0 zi).Tables;let y2:=(ix y5 u9_1 zcr); (oN (inb u9_0 (ln x11)) (oN (inb u9_1 (ln y5)) (oN (zwa y2 u9_2) (r10 (u9_2,(u9_4,(u9_6,(u9_7,(u9_8,(u9_9,(u9_10,((znN y2 u9_2).Page,((znN y2 u9_2).Rights,(y1.Memory,(x11,(y1.Buffer,(y1.IoBuffer,(u9_15,(u9_16,(u9_17,(u9_18,()))))))))))))))))))))))))))))))))
def zhQ (N:Nat)(u9_0:Int)(u9_1:Int)(u9_2:Int)(u9_3:Int)(u9_4:Bool)(u9_5:Int)(u9_6:Int)(u9_7:Int)(u9_8:Int)(u9_9:Int)(u9_10:Int)(u9_11:lM)(u9_12:lN)(u9_13:lE)(u9_14:lE)(u9_15:lM)(u9_16:lN)(u9_17:lE)(u9_18:lE):OA:=
 let y3:=(ix u9_12 u9_0 zi).Tables;let y0:=(ix y3 u9_1 zcr);let y2:=(znN y0 u9_2); (oN (inb u9_0 (ln u9_12)) (oN (inb u9_1 (ln y3)) (oN (zwa y0 u9_2) (share (fun (s10:(Int×(Bool×(Int×(Int×(Int×(Int×(Int×(Int×(Int×(lM×(lN×(lE×(lE×(lM×(lN×(lE×(lE×Unit))))))))))))))))))=>(zkL N s10.1 s10.2.1 s10.2.2.1 s10.2.2.2.2.2.2.2.1 s10.2.2.2.2.2.2.2.2.1 s10.2.2.2.2.2.2.2.2.2.1 s10.2.2.2.2.2.2.2.2.2.2.1 s10.2.2.2.2.2.2.2.2.2.2.2.1 s10.2.2.2.2.2.2.2.2.2.2.2.2.1 s10.2.2.2.2.2.2.2.2.2.2.2.2.2.1 s10.2.2.2.2.2.2.2.2.2.2.2.2.2.2.1 s10.2.2.2.2.2.2.2.2.2.2.2.2.2.2.2.1 s10.2.2.2.2.2.2.2.2.2.2.2.2.2.2.2.2.1)) (fun r10=>let y1:=(zmj N u9_11 u9_12 u9_13 u9_14 u9_0 u9_5 u9_3 u9_1 u9_2 r10 u9_4 u9_6 u9_7 u9_8 u9_9 u9_10 u9_15 u9_16 u9_17 u9_18); (cond (nB (zv9 y0 u9_2)) y1 (cond (ieq y2.Page (-1)) y1 (oN (zeA y2.Rights u9_3) (cond (nB (ze4 y2.Rights u9_3)) y1 (r10 (u9_2,(u9_4,(u9_6,(u9_7,(u9_8,(u9_9,(u9_10,(y2.Page,(y2.Rights,(u9_11,(u9_12,(u9_13,(u9_14,(u9_15,(u9_16,(u9_17,(u9_18,())))))))))))))))))))))))))))
def zmk (N:Nat)(a2:Int)(a0:Host)(a3 a4 a5:Int)(a1:lE)(a6:Bool):OA:=
 let y3:=(zre a2 a3);let y2:=(zFA a0 a2 a3 a4 a5);let y1:=(ix a0.Mons a2 zi);let y5:=(ix y1.Guests a3 zC).Live;let y0:=(zi6 a1 y3 a4);let y4:=y0.Rights; (oN (inb a2 (ln a0.Mons)) (oN (inb a3 (ln y1.Guests)) (oN (zmN y5 a4 a5) (cond (nB (zgI y5 a4 a5)) (some [(aH a0),(aI (-1)),(aB false)]) (oN (zl5 a2 a3) (cond (ieq a5 2) (oN (inb a2 (ln a0.Mons)) (oN (inb y2 (ln y1.Dirty)) (share (up a0.Mons a2 ({ y1 with Dirty:=(up y1.Dirty y2 true) }:Mon)) (fun x8=>(oN (zi7 a1 y3 a4) (share (fun (s9:(Int×(Int×(Int×(Int×(Bool×(Int×(Int×(Int×(Int×(Int×(Int×(lM×(lN×(lE×(lE×(lM×(lN×(lE×(lE×Unit))))))))))))))))))))=>(zhQ N s9.1 s9.2.1 s9.2.2.1 s9.2.2.2.1 s9.2.2.2.2.1 s9.2.2.2.2.2.1 s9.2.2.2.2.2.2.1 s9.2.2.2.2.2.2.2.1 s9.2.2.2.2.2.2.2.2.1 s9.2.2.2.2.2.2.2.2.2.1 s9.2.2.2.2.2.2.2.2.2.2.1 s9.2.2.2.2.2.2.2.2.2.2.2.1 s9.2.2.2.2.2.2.2.2.2.2.2.2.1 s9.2.2.2.2.2.2.2.2.2.2.2.2.2.1 s9.2.2.2.2.2.2.2.2.2.2.2.2.2.2.1 s9.2.2.2.2.2.2.2.2.2.2.2.2.2.2.2.1 s9.2.2.2.2.2.2.2.2.2.2.2.2.2.2.2.2.1 s9.2.2.2.2.2.2.2.2.2.2.2.2.2.2.2.2.2.1 s9.2.2.2.2.2.2.2.2.2.2.2.2.2.2.2.2.2.2.1)) (fun r9=>(cond (zgF a1 y3 a4) (oN (zeA y4 a5) (cond (ze4 y4 a5) (some [(aH ({ a0 with Mons:=x8 }:Host)),(aI y0.Host),(aB true)]) (r9 (a2,(a3,(a4,(a5,(a6,(y2,(y3,(y0.Tag,(y0.Page,(y0.Host,(y4,(a0.Memory,(x8,(a0.Buffer,(a0.IoBuffer,([],([],([],([],())))))))))))))))))))))) (r9 (a2,(a3,(a4,(a5,(a6,(y2,(y3,(y0.Tag,(y0.Page,(y0.Host,(y4,(a0.Memory,(x8,(a0.Buffer,(a0.IoBuffer,([],([],([],([],())))))))))))))))))))))))))))) (oN (zi7 a1 y3 a4) (share (fun (s8:(Int×(Int×(Int×(Int×(Bool×(Int×(Int×(Int×(Int×(Int×(Int×(lM×(lN×(lE×(lE×(lM×(lN×(lE×(lE×Unit))))))))))))))))))))=>(zhQ N s8.1 s8.2.1 s8.2.2.1 s8.2.2.2.1 s8.2.2.2.2.1 s8.2.2.2.2.2.1 s8.2.2.2.2.2.2.1 s8.2.2.2.2.2.2.2.1 s8.2.2.2.2.2.2.2.2.1 s8.2.2.2.2.2.2.2.2.2.1 s8.2.2.2.2.2.2.2.2.2.2.1 s8.2.2.2.2.2.2.2.2.2.2.2.1 s8.2.2.2.2.2.2.2.2.2.2.2.2.1 s8.2.2.2.2.2.2.2.2.2.2.2.2.2.1 s8.2.2.2.2.2.2.2.2.2.2.2.2.2.2.1 s8.2.2.2.2.2.2.2.2.2.2.2.2.2.2.2.1 s8.2.2.2.2.2.2.2.2.2.2.2.2.2.2.2.2.1 s8.2.2.2.2.2.2.2.2.2.2.2.2.2.2.2.2.2.1 s8.2.2.2.2.2.2.2.2.2.2.2.2.2.2.2.2.2.2.1)) (fun r8=>(cond (zgF a1 y3 a4) (oN (zeA y4 a5) (cond (ze4 y4 a5) (some [(aH a0),(aI y0.Host),(aB true)]) (r8 (a2,(a3,(a4,(a5,(a6,(y2,(y3,(y0.Tag,(y0.Page,(y0.Host,(y4,(a0.Memory,(a0.Mons,(a0.Buffer,(a0.IoBuffer,([],([],([],([],())))))))))))))))))))))) (r8 (a2,(a3,(a4,(a5,(a6,(y2,(y3,(y0.Tag,(y0.Page,(y0.Host,(y4,(a0.Memory,(a0.Mons,(a0.Buffer,(a0.IoBuffer,([],([],([],([],()))))))))))))))))))))))))))))))
def zll (N:Nat)(a0:Host)(a1:lE)(a2 a3:Int)(a4 a5:Int)(a6:Bool):OA:=
 let y1:=(zmk N a2 a0 a3 a4 a5 a1 a6);let y0:=(wsub .i64 (ln (ix a0.Mons a2 zi).Guests) 1); (oN (zsf a0) (cond (nB (zse a0)) (some [(aH a0),(aI (-1)),(aB false)]) (oN (zT a2 0 (wsub .i64 (ln a0.Mons) 1)) (cond (nB (zba a2 0 (wsub .i64 (ln a0.Mons) 1))) (some [(aH a0),(aI (-1)),(aB false)]) (oN (inb a2 (ln a0.Mons)) (oN (zT a3 0 y0) (cond (nB (zba a3 0 y0)) (some [(aH a0),(aI (-1)),(aB false)]) (cond (ine a5 1) (cond (ine a5 2) (some [(aH a0),(aI (-1)),(aB false)]) y1) y1))))))))
def zmR:FuncId->Nat->Option Tmpl:=zo [(265,999999,{ n:=0,tm:=[],lo:=[],ro:=[] }),(265,1007023,{ n:=210,tm:=[(2,ti),(3,ti),(4,ti),(5,ti),(6,.b),(7,.lp 0 0),(14,.lp 1 0),(17,ti),(19,ti),(20,.lp 2 0)],lo:=[(0,[.sl 0 [],.sl 1 [],.sl 2 [],.sl 3 []]),(1,[.sl 4 [],.sl 5 [],.sl 6 [],.sl 7 []]),(2,[ti,ti,ti,ti])],ro:=[(0,(.sl .int),true),(1,.mon,true),(2,.entry,true),(3,.entry,true),(4,(.sl .int),true),(5,.mon,true),(6,.entry,true),(7,.entry,true)],kr:=1 }),(265,1009011,{ n:=210,tm:=[(4,ti),(6,.b),(7,.lp 0 0),(14,.lp 1 0),(19,ti),(20,.lp 2 0),(22,.lp 3 0)],lo:=[(0,[.sl 0 [],.sl 1 [],.sl 2 [],.sl 3 []]),(1,[.sl 4 [],.sl 5 [],.sl 6 [],.sl 7 []]),(2,[ti,ti,ti,ti]),(3,[ti,ti])],ro:=[(0,(.sl .int),true),(1,.mon,true),(2,.entry,true),(3,.entry,true),(4,(.sl .int),true),(5,.mon,true),(6,.entry,true),(7,.entry,true)],kr:=1 }),(265,1005003,{ n:=210,tm:=[(7,.lp 0 0),(14,.lp 1 0),(22,.lp 2 0)],lo:=[(0,[.sl 0 [],.sl 1 [],.sl 2 [],.sl 3 []]),(1,[.sl 4 [],.sl 5 [],.sl 6 [],.sl 7 []]),(2,[ti,ti])],ro:=[(0,(.sl .int),true),(1,.mon,true),(2,.entry,true),(3,.entry,true),(4,(.sl .int),true),(5,.mon,true),(6,.entry,true),(7,.entry,true)],kr:=1 })]
theorem zEb (N:Nat)(a0:Host)(a2 a3:Int)(a4 a5:Int)(a6:Bool):zGI (cQ zGH zkg zM8 zNw) zmR N 12 265 [true,true,true,true,false,false,false,false,false,false] [(4,2)] 1 1 [[0],[1],[2],[4],[7]] .mon [aH a0,aS .entry a0.Buffer,aI a2,aI a3,aI a4,aI a5,aB a6]=zll N a0 a0.Buffer a2 a3 a4 a5 a6:=by kernel_rfl
theorem zEc (N:Nat)(a0:Host)(a2 a3:Int)(a4 a5:Int)(a6:Bool):zGI (cQ zGH zkg zM8 zNw) zmR N 12 265 [true,true,true,true,false,false,false,false,false,false] [(4,3)] 1 1 [[0],[1],[2],[4],[7]] .mon [aH a0,aS .entry a0.IoBuffer,aI a2,aI a3,aI a4,aI a5,aB a6]=zll N a0 a0.IoBuffer a2 a3 a4 a5 a6:=by kernel_rfl
theorem zvW {N:Nat}{r:Host}{m g page:Int}{io:Bool}{z1 z2 z3 z4}(hb:r.Buffer.length<=1048576)(hi:r.IoBuffer.length<=1048576) :
 zkL N page io (zen m g) (zdG (zb2 r m g) page).Page (zdG (zb2 r m g) page).Rights r.Memory r.Mons r.Buffer r.IoBuffer z1 z2 z3 z4=some (zgp (zdv r m g page io)):=by
 unfold zkL oN
 conv=>zeta
 refine shr ?_;cases io
 .exact ze5 rfl (must (zbj hb) rfl)
 .exact must rfl (must (zbj hi) rfl)
theorem zHD {N:Nat}{r:Host}{m g page need q:Int}{io:Bool}{R:OA}{r11}{u6 u7 u8 u9 u10 z1 z2 z3 z4}(A:LookAt r m g q need)(hr:r11 (page,(io,(u6,(u7,(u8,(u9,(u10,((zdG (zb2 (zcd (mended r m q need) m g page) m g) page).Page,((zdG (zb2 (zcd (mended r m q need) m g page) m g) page).Rights,((zcd (mended r m q need) m g page).Memory,((zcd (mended r m q need) m g page).Mons,((zcd (mended r m q need) m g page).Buffer,((zcd (mended r m q need) m g page).IoBuffer,(z1,(z2,(z3,(z4,())))))))))))))))))=R) :
 zmj N r.Memory r.Mons r.Buffer r.IoBuffer m q need g page r11 io u6 u7 u8 u9 u10 z1 z2 z3 z4=R:=by
 have M:=zkf A.kp A.hm A.hg;have F:=zkf (A.fill page) A.hm A.hg;unfold zmj oN
 conv=>zeta
 exact must (zbj A.mend) (must (zx M.hm) (must (zx M.hm) (must (zx M.ht) (must (zx M.hm) (must (zx M.hg) (must (zx M.hm) (must (zbj M.hk) (must (zx M.ht) (shr (must (zx F.hm) (must (zx F.ht) (must (zbj F.hk) hr))))))))))))
theorem zLU {r:Host}{m g page need:Int}(h:ziI (zb2 r m g) page=false):zdn r m g page need=true:=by
 unfold zdn;rw[h];rfl
theorem zLV {r:Host}{m g page need:Int}(h:ieq (zdG (zb2 r m g) page).Page (-1)=true):zdn r m g page need=true:=by
 unfold zdn;rw[h];cases ziI (zb2 r m g) page<;>rfl
theorem zLW {r:Host}{m g page need:Int}(h:enough (zdG (zb2 r m g) page).Rights need=false):zdn r m g page need=true:=by
 unfold zdn;rw[h];cases ziI (zb2 r m g) page<;>cases ieq (zdG (zb2 r m g) page).Page (-1)<;>rfl
theorem zLX {r:Host}{m g page need:Int}(h1:ziI (zb2 r m g) page=true)(h2:ieq (zdG (zb2 r m g) page).Page (-1)=false)(h3:enough (zdG (zb2 r m g) page).Rights need=true):zdn r m g page need=false:=by
 unfold zdn;rw[h1,h2,h3];rfl
theorem znK {r:Host}{m g page need q:Int}{io:Bool}(h:zdn r m g page need=true):(cond (zdn r m g page need) (zdv (zcd (mended r m q need) m g page) m g page io) (zdv r m g page io))=zdv (zcd (mended r m q need) m g page) m g page io:=by
 rw[h];rfl
theorem zLJ {r:Host}{m g page need q:Int}{io:Bool}(h:zdn r m g page need=false):(cond (zdn r m g page need) (zdv (zcd (mended r m q need) m g page) m g page io) (zdv r m g page io))=zdv r m g page io:=by
 rw[h];rfl
theorem zvX {N:Nat}{r:Host}{m g page need q:Int}{io:Bool}{u7 u8 u9 u10 z1 z2 z3 z4}(A:LookAt r m g q need) :
 zhQ N m g page need io q (zen m g) u7 u8 u9 u10 r.Memory r.Mons r.Buffer r.IoBuffer z1 z2 z3 z4=some (zgp (cond (zdn r m g page need) (zdv (zcd (mended r m q need) m g page) m g page io) (zdv r m g page io))):=by
 have M:=zkf ⟨A.fit.1,rfl⟩ A.hm A.hg;have F:=zkf (A.fill page) A.hm A.hg;unfold zhQ oN nB
 conv=>zeta
 refine must (zx M.hm) (must (zx M.ht) (must (zbj M.hk) (shr (brN (fun h1=>?_) (fun h1=>br (fun h2=>?_) (fun h2=>must rfl (brN (fun h3=>?_) (fun h3=>?_))))))))
 .rw [znK (zLU h1)];exact zHD A (zvW (r:=zcd (mended r m q need) m g page) (m:=m) (g:=g) F.hb F.hi)
 .rw [znK (zLV h2)];exact zHD A (zvW (r:=zcd (mended r m q need) m g page) (m:=m) (g:=g) F.hb F.hi)
 .rw [znK (zLW h3)];exact zHD A (zvW (r:=zcd (mended r m q need) m g page) (m:=m) (g:=g) F.hb F.hi)
 .rw [zLJ (zLX h1 h2 h3)];exact zvW (r:=r) (m:=m) (g:=g) M.hb M.hi
theorem zv0 {b:List Entry}{m g page need:Int}(h:(zn6 b m g page).isSome=false):zhW b m g page need=false:=by
 unfold zhW;rw[h];rfl
theorem zjz {b:List Entry}{m g page need:Int}{x:Bool}(h1:(zn6 b m g page).isSome=true)(h:enough ((zn6 b m g page).getD ⟨0,0,0,0⟩).Rights need=x):zhW b m g page need=x:=by
 unfold zhW;rw[h1,h];rfl
theorem zjF {r:Host}{b:List Entry}{m g page need q:Int}{io:Bool}(h:zhW b m g page need=false):zfV r b m g page need q io=bif zdn r m g page need then zdv (zcd (mended r m q need) m g page) m g page io else zdv r m g page io:=by
 unfold zfV;rw[h];rfl
theorem zv4 {r:Host}{b:List Entry}{m g page need q:Int}{io:Bool}(h:zhW b m g page need=true):zfV r b m g page need q io=(r,((zn6 b m g page).getD ⟨0,0,0,0⟩).Host,true):=by
 unfold zfV;rw[h];rfl
theorem zIX {h:Host}{b:List Entry}{m g page need:Int}{io:Bool}(hh:zcJ h m g page need=true):lookOf h b m g page need io=zfV (cond (ieq need 2) (zbp h m (zb4 (zcx h m g) page need)) h) b m g page need (zb4 (zcx h m g) page need) io:=by
 unfold lookOf;rw[hh];rfl
theorem zOm {N:Nat}{r:Host}{b:List Entry}{m g page need:Int}{io:Bool}(hs:SmH r)(hg:zbW r m g=true)(hn:zeY need=true) :
 zmk N m r g page need b io=some (zgp (lookOf r b m g page need io)):=by
 obtain ⟨g1,g2,g3⟩:=zd7 hg;unfold zmk oN nB
 conv=>zeta
 refine must (zx g2) (must (zx g3) (must rfl (brN (fun hw=>?_) (fun hw=>must rfl ?_))))
 .have:zcJ r m g page need=false:=by
   unfold zcJ;rw[hg,hn,show zex (zcx r m g) page need=false from hw]
   rfl
  rw[zgU this];rfl
 .have hl:zcJ r m g page need=true:=by
   unfold zcJ;rw[hg,hn,show zex (zcx r m g) page need=true from hw]
   rfl
  obtain ⟨A,B⟩:=zuA hs hl;rw[zIX hl];have hd:hasB (zb4 (zcx r m g) page need) (ln (ix r.Mons m mZ).Dirty)=true:=zcm (zbB A.fit.1 g2).2.2.2.1 A.hq;refine br (fun h2=>?_) (fun h2=>?_)
  .rw [h2]
   show _=some (zgp (zfV (zbp r m (zb4 (zcx r m g) page need)) b m g page need (zb4 (zcx r m g) page need) io))
   refine must (zx g2) (must (zx hd) (shr (must rfl (shr (br (fun f1=>must rfl (br (fun f2=>?_) (fun f2=>?_))) (fun f1=>?_))))))
   .rw [zv4 (zjz f1 f2)];rfl
   .rw [zjF (zjz f1 f2)];exact zvX (r:=zbp r m (zb4 (zcx r m g) page need)) B
   .rw [zjF (zv0 f1)];exact zvX (r:=zbp r m (zb4 (zcx r m g) page need)) B
  .rw [h2]
   show _=some (zgp (zfV r b m g page need (zb4 (zcx r m g) page need) io))
   refine must rfl (shr (br (fun f1=>must rfl (br (fun f2=>?_) (fun f2=>?_))) (fun f1=>?_)))
   .rw [zv4 (zjz f1 f2)];rfl
   .rw [zjF (zjz f1 f2)];exact zvX A
   .rw [zjF (zv0 f1)];exact zvX A
theorem zGo (a0:Host)(a1:List Entry)(a2 a3:Int)(a4 a5:Int)(a6:Bool)(hb:zbq big [aH a0,aS .entry a1,aI a2,aI a3,aI a4,aI a5,aB a6])(hc:zxN a0 a1 a2 a3 a4 a5 a6=true):∃N,zll N a0 a1 a2 a3 a4 a5 a6=some [aH (zxK a0 a1 a2 a3 a4 a5 a6),aI (zxL a0 a1 a2 a3 a4 a5 a6),aB (zxM a0 a1 a2 a3 a4 a5 a6)]:=by
 have hs:=(zbL a0).1 (zB.1 hc);refine ⟨0,?_⟩
 show _=some (zgp (lookOf a0 a1 a2 a3 a4 a5 a6))
 unfold zll oN nB
 conv=>zeta
 refine must rfl (brN (fun h1=>?_) (fun h1=>must rfl ?_))
 .rw [zgU (zjG (zCA h1))];rfl
 rw[show zba a2 0 (wsub .i64 (ln a0.Mons) 1)=hasB a2 (ln a0.Mons) from zwi hs.2.1.1 a2]
 refine brN (fun h2=>?_) (fun h2=>must (zx h2) (must rfl ?_))
 .rw [zgU (zjG (zCB h2))];rfl
 have hl:(ix a0.Mons a2 mZ).Guests.length<=1048576:=(hs.2.1.2 _ (zbJ h2 _)).2.2.2.1.1;rw[show zba a3 0 (wsub .i64 (ln (ix a0.Mons a2 zi).Guests) 1)=hasB a3 (ln (ix a0.Mons a2 mZ).Guests) from zwi hl a3]
 refine brN (fun h3=>?_) (fun h3=>?_)
 .rw [zgU (zjG (zCC h3))];rfl
 have hg:=zCD h1 h2 h3;have hno:∀{n:Int},zeY n=false->zcJ a0 a2 a3 a4 n=false:=fun {n} h=>by
  unfold zcJ;rw[hg,h];rfl
 rw[zh7,zh7];cases h4:ieq a5 1
 .cases h5:ieq a5 2
  .have:zeY a5=false:=by unfold zeY;rw[h4,h5];rfl
   rw[zgU (hno this)];rfl
  .exact zOm hs hg (by unfold zeY;rw[h4,h5];rfl)
 .exact zOm hs hg (by unfold zeY;rw[h4];rfl)
theorem zBb:zcP Tryz.prog 265 [true,true,true,true,false,false,false,false,false,false] (some (1,1,[[0],[1],[2],[4],[7]])) zmK:=by
 refine zCE (kt:=.mon) (zb7 zyg zq zfh zwh) (zcO (by kernel_rfl)) ?_
 intro al avs rs hal heq hl hr h;have hb:=zfX hr;have hal':al=[(4,2)]\/al=[(4,3)]:=by
  rw[show zfm 265=[[(4,2)],[(4,3)]] from by kernel_rfl]at hal
  simpa using hal
 unfold zmK at h;split at h
 .rename_i a0_0 a0_1 a0_2 a0_3 a1 a2 a3 a4 a5 a6;obtain ⟨hc,rfl⟩:=zhI h;obtain ⟨N,hN⟩:=zGo (⟨a0_0,a0_1,a0_2,a0_3⟩:Host) a1 a2 a3 a4 a5 a6 hb hc;refine ⟨⟨_,rfl⟩,rfl,zmR,N,12,?_⟩;rcases hal' with rfl|rfl
  .have e:=heq 4 2 (by simp)
   simp only[zk,j3,AV.cvs] at e;cases e;exact (zEb N (⟨a0_0,a0_1,a0_2,a0_3⟩:Host) a2 a3 a4 a5 a6).trans hN
  .have e:=heq 4 3 (by simp)
   simp only[zk,j3,AV.cvs] at e;cases e;exact (zEc N (⟨a0_0,a0_1,a0_2,a0_3⟩:Host) a2 a3 a4 a5 a6).trans hN
 .cases h
def zQK:zdq:=[(265,([true,true,true,true,false,false,false,false,false,false],(some (1,1,[[0],[1],[2],[4],[7]])),zmK))]++zNw
theorem zrg:zcQ zQK:=zli zwh (by
 intro x hx;simp only[qH,qU,or_false]at hx;rcases hx with rfl
 .exact zBb)
def gOf (h:Host)(m g:Int):Guest:=ix (ix h.Mons m mZ).Guests g gZ
def zgo (h:Host)(m g:Int)(x:Guest):Host:={ h with Mons:=up h.Mons m { ix h.Mons m mZ with Guests:=up (ix h.Mons m mZ).Guests g x } }
def zlz (h:Host)(m g:Int)(x:Guest)(w:Bool):Host×Int×Bool:=lookOf h h.Buffer m g (zdr (address x)) (zft w) false
def zlj (L:Host×Int×Bool)(m g:Int)(x:Guest)(w:Bool):Host :=
 bif L.2.2 then (cond w (zgo { L.1 with Memory:=zfT L.1.Memory L.2.1 (zg6 (address x)) x.A } m g (zbv x)) (zgo L.1 m g (loaded x (cellAt L.1.Memory L.2.1 (zg6 (address x))))))
 else zgo L.1 m g (stopped x (zt4 (zdr (address x)) w))
def owned (h:Host)(m:Int):Host:=bif ilt (ix h.Mons m mZ).Own 1000000000 then { h with Mons:=up h.Mons m { ix h.Mons m mZ with Own:=zG .i64 (ix h.Mons m mZ).Own 1 } } else h
def zkh (h:Host)(m n:Int):Host:=bif ilt (ln (ix h.Mons m mZ).Outs) 40 then { h with Mons:=up h.Mons m { ix h.Mons m mZ with Outs:=ap (ix h.Mons m mZ).Outs [n] } } else h
def zik (h:Host)(m:Int)(x:Guest)(w:Int):Host:=bif (cond (ine w 6) (ieq (zmv (ix h.Mons m mZ).Traps x.Ctl.Traps (zew w)) 2) false) then owned h m else h
def zpB (h:Host)(m:Int)(x:Guest)(w:Int):Host:=bif (cond (zim x.Ctl.Traps w) (ieq w 5) false) then zkh h m (zc8 x.Prog x.Pc).X else h
def znz (h:Host)(m g:Int)(x:Guest)(w:Int):Host:=zgo (zpB (zik h m x w) m x w) m g (zil x x.Ctl.Traps w)
def zB5 (h:Host)(m g:Int)(x:Guest)(w:Int):Host×Bool :=
 bif ieq w 0 then (h,false) else (bif ieq w 1 then (zgo h m g (interrupted x),true) else (bif ieq w 2 then (zgo h m g (plainly x),true) else
  (cond (cond (ieq w 3) true (ieq w 4)) (zlj (zlz h m g x (ieq w 4)) m g x (ieq w 4),true) (znz h m g x w,true))))
def zbF (h:Host)(m g:Int):Host×Bool:=bif zbW h m g then zB5 h m g (gOf h m g) (zD (gOf h m g)) else (h,false)
def zpY (x:Host×Bool):List AV:=[.agg (zbh x.1),.one (.b x.2)]
theorem zB2 {h:Host}{m g:Int}(hs:SmH h)(hm:hasB m (ln h.Mons)=true)(hg:hasB g (ln (ix h.Mons m mZ).Guests)=true):SmG (gOf h m g):=(hs.2.1.2 _ (zbJ hm _)).2.2.2.1.2 _ (zbJ hg _)
theorem zNl {h:Host}{m g:Int}{x:Guest}(hs:Shape h)(hm:hasB m (ln h.Mons)=true)(hx:SmG x):Shape (zgo h m g x):=by
 obtain ⟨g1,g2⟩:=zbB hs hm;exact zfS hs ⟨g1.1,g1.2.1,g1.2.2.1,zEp g1.2.2.2.1 hx,g1.2.2.2.2⟩ ⟨g2.1,g2.2.1,g2.2.2.1,by simpa using g2.2.2.2⟩
theorem zTS (o i t:Int):ieq (zmv o i t) 1=zcN i t:=by
 unfold zmv;cases zcN i t
 .cases zcN o t<;>rfl
 .rfl
theorem zTT {o i t:Int}(h:zcN i t=true):ieq (zmv o i t) 2=false:=by
 unfold zmv;rw[h];rfl
theorem zuC {h:Host}{m:Int}(hm:hasB m (ln h.Mons)=true)(x:Mon):ix (up h.Mons m x) m mZ=x:=by
 obtain ⟨k,rfl,hk⟩:=zcH (n:=h.Mons.length) hm;exact zdp hk _ _
theorem zRS {α:Type}{l:List α}{x:α}(h:ilt (ln l) 40=true):few (ln (ap l [x]))=true:=by
 have:=qG h;simp only[ln] at this;exact zd5 (by simp[ap];omega)
theorem zL0 {h:Host}{m:Int}{x:Guest}{w:Int}(hh:(cond (zim x.Ctl.Traps w) (ieq w 5) false)=false):zpB h m x w=h:=by
 unfold zpB;rw[hh];rfl
theorem zPh {h:Host}{m:Int}{x:Guest}{w:Int}(h1:zim x.Ctl.Traps w=false):zpB h m x w=h:=zL0 (by rw[h1];rfl)
theorem zT1 {h:Host}{m:Int}{x:Guest}{w:Int}(h1:ieq w 5=false):zpB h m x w=h:=zL0 (by rw[h1];cases zim x.Ctl.Traps w<;>rfl)
theorem zOy (a:Int):(cond (ieq a a) true false)=true:=by rw[zrY];rfl
theorem zwf {h:Host}{m g:Int}(hh:zbW h m g=false):zbF h m g=(h,false):=by
 unfold zbF;rw[hh];rfl
theorem zJH {h:Host}{m g:Int}(hh:zbW h m g=true):zbF h m g=zB5 h m g (gOf h m g) (zD (gOf h m g)):=by
 unfold zbF;rw[hh];rfl
@[simp] abbrev zrX (h:Host)(m g page need:Int)(io:Bool):Bool:=pc (zcn h)
@[simp] abbrev zrU (h:Host)(m g page need:Int)(io:Bool):Host:=(lookOf h (zm4 h io) m g page need io).1
@[simp] abbrev zrV (h:Host)(m g page need:Int)(io:Bool):Int:=(lookOf h (zm4 h io) m g page need io).2.1
@[simp] abbrev zrW (h:Host)(m g page need:Int)(io:Bool):Bool:=(lookOf h (zm4 h io) m g page need io).2.2
def zva:Run:=rF6 dH dI dI dI dI dB fun b c d e f g=>(zrX b c d e f g,[aH (zrU b c d e f g),aI (zrV b c d e f g),aB (zrW b c d e f g)])
abbrev zGY (u9_10:lM)(u9_11:lN)(u9_12:lE)(u9_13:lE)(u9_0:Int)(u9_4:Int)(u9_3:Int):Mon :=
 (ix (zol (⟨u9_10,u9_11,u9_12,u9_13⟩:Host) u9_0 u9_4 u9_3).Mons u9_0 zi)
def zmc (N:Nat)(u10_0:Int)(u10_1:Int)(u10_2:Int)(u10_3:Int)(u10_8:lM)(u10_9:lN)(u10_10:lE)(u10_11:lE):OA:=
 let y0:=(⟨u10_1,u10_0,u10_2,u10_3⟩:Entry); (oN (zj5 u10_11 y0) (some [(aH (⟨u10_8,u10_9,u10_10,(zj4 u10_11 y0)⟩:Host)),(aI u10_2),(aB true)]))
def znV (N:Nat)(u9_10:lM)(u9_11:lN)(u9_12:lE)(u9_13:lE)(u9_0:Int)(u9_4:Int)(u9_3:Int)(u9_1:Int)(u9_2:Int)(r10:((Int×(Int×(Int×(Int×(lM×(lN×(lE×(lE×(lM×(lN×(lE×(lE×Unit)))))))))))))->OA)(u9_5:Int)(u9_6:lM)(u9_7:lN)(u9_8:lE)(u9_9:lE):OA:=
 let y6:=(⟨u9_10,u9_11,u9_12,u9_13⟩:Host);let y1:=(zol y6 u9_0 u9_4 u9_3);let y0:=(zGY u9_10 u9_11 u9_12 u9_13 u9_0 u9_4 u9_3);let y5:=(ix y0.Tables u9_1 zcr);let y3:=(ix y0.Guests u9_1 zC).Live; (oN (zyQ y6 u9_0 u9_4 u9_3) (oN (inb u9_0 (ln y1.Mons)) (oN (inb u9_1 (ln y0.Tables)) (oN (inb u9_1 (ln y0.Guests)) (oN (zyP y5 y3 y0.Outer u9_2) (oN (inb u9_1 (ln y0.Tables)) (share (up y1.Mons u9_0 ({ y0 with Tables:=(up y0.Tables u9_1 (zBf y5 y3 y0.Outer u9_2)) }:Mon)) (fun x11=>let y4:=(ix x11 u9_0 zi).Tables;let y2:=(ix y4 u9_1 zcr); (oN (inb u9_1 (ln y4)) (oN (zqx y2 u9_2) (r10 (u9_2,(u9_5,((znG y2 u9_2).Page,((znG y2 u9_2).Rights,(u9_6,(u9_7,(u9_8,(u9_9,(y1.Memory,(x11,(y1.Buffer,(y1.IoBuffer,())))))))))))))))))))))))
def zjM (N:Nat)(u9_11:lN)(u9_0:Int)(u9_1:Int)(u9_2:Int)(u9_10:lM)(u9_12:lE)(u9_13:lE)(u9_4:Int)(u9_3:Int)(r10:((Int×(Int×(Int×(Int×(lM×(lN×(lE×(lE×(lM×(lN×(lE×(lE×Unit)))))))))))))->OA)(u9_5:Int)(u9_6:lM)(u9_7:lN)(u9_8:lE)(u9_9:lE):OA:=
 let y1:=(znV N u9_10 u9_11 u9_12 u9_13 u9_0 u9_4 u9_3 u9_1 u9_2 r10 u9_5 u9_6 u9_7 u9_8 u9_9);let y0:=(ix (ix u9_11 u9_0 zi).Tables u9_1 zcr);let y2:=(znG y0 u9_2); (cond (nB (zv2 y0 u9_2)) y1 (cond (ieq y2.Page (-1)) y1 (oN (zch y2.Rights u9_3) (cond (nB (zcF y2.Rights u9_3)) y1 (r10 (u9_2,(u9_5,(y2.Page,(y2.Rights,(u9_6,(u9_7,(u9_8,(u9_9,(u9_10,(u9_11,(u9_12,(u9_13,())))))))))))))))))
def zmd (N:Nat)(u9_0:Int)(u9_1:Int)(u9_2:Int)(u9_3:Int)(u9_4:Int)(u9_5:Int)(u9_6:lM)(u9_7:lN)(u9_8:lE)(u9_9:lE)(u9_10:lM)(u9_11:lN)(u9_12:lE)(u9_13:lE):OA:=
 let y0:=(ix u9_11 u9_0 zi).Tables; (oN (inb u9_0 (ln u9_11)) (oN (inb u9_1 (ln y0)) (oN (zqx (ix y0 u9_1 zcr) u9_2) (share (fun (s10:(Int×(Int×(Int×(Int×(lM×(lN×(lE×(lE×(lM×(lN×(lE×(lE×Unit)))))))))))))=>(zmc N s10.1 s10.2.1 s10.2.2.1 s10.2.2.2.1 s10.2.2.2.2.2.2.2.2.1 s10.2.2.2.2.2.2.2.2.2.1 s10.2.2.2.2.2.2.2.2.2.2.1 s10.2.2.2.2.2.2.2.2.2.2.2.1)) (fun r10=>(zjM N u9_11 u9_0 u9_1 u9_2 u9_10 u9_12 u9_13 u9_4 u9_3 r10 u9_5 u9_6 u9_7 u9_8 u9_9))))))
def zme (N:Nat)(u10_0:Int)(u10_1:Int)(u10_2:Int)(u10_3:Int)(u10_8:lM)(u10_9:lN)(u10_10:lE)(u10_11:lE):OA:=
 let y0:=(⟨u10_1,u10_0,u10_2,u10_3⟩:Entry); (oN (zj5 u10_10 y0) (some [(aH (⟨u10_8,u10_9,(zj4 u10_10 y0),u10_11⟩:Host)),(aI u10_2),(aB true)]))
def zmf (N:Nat)(u9_0:Int)(u9_1:Int)(u9_2:Int)(u9_3:Int)(u9_4:Int)(u9_5:Int)(u9_6:lM)(u9_7:lN)(u9_8:lE)(u9_9:lE)(u9_10:lM)(u9_11:lN)(u9_12:lE)(u9_13:lE):OA:=
 let y0:=(ix u9_11 u9_0 zi).Tables; (oN (inb u9_0 (ln u9_11)) (oN (inb u9_1 (ln y0)) (oN (zqx (ix y0 u9_1 zcr) u9_2) (share (fun (s10:(Int×(Int×(Int×(Int×(lM×(lN×(lE×(lE×(lM×(lN×(lE×(lE×Unit)))))))))))))=>(zme N s10.1 s10.2.1 s10.2.2.1 s10.2.2.2.1 s10.2.2.2.2.2.2.2.2.1 s10.2.2.2.2.2.2.2.2.2.1 s10.2.2.2.2.2.2.2.2.2.2.1 s10.2.2.2.2.2.2.2.2.2.2.2.1)) (fun r10=>(zjM N u9_11 u9_0 u9_1 u9_2 u9_10 u9_12 u9_13 u9_4 u9_3 r10 u9_5 u9_6 u9_7 u9_8 u9_9))))))
def zmg (N:Nat)(u8_0:Int)(u8_1:Int)(u8_2:Int)(u8_3:Int)(u8_4:Bool)(u8_5:Int)(u8_6:lM)(u8_7:lN)(u8_8:lE)(u8_9:lE)(u8_10:lM)(u8_11:lN)(u8_12:lE)(u8_13:lE):OA:=
 let y1:=(aH (⟨u8_10,u8_11,u8_12,u8_13⟩:Host));let y0:=(znI u8_0 u8_1);let y3:=(zgA u8_12 y0 u8_2);let y2:=(zgA u8_13 y0 u8_2); (cond u8_4 (oN (zlX u8_0 u8_1) (share (fun (s9:(Int×(Int×(Int×(Int×(Int×(Int×(lM×(lN×(lE×(lE×(lM×(lN×(lE×(lE×Unit)))))))))))))))=>(zmd N s9.1 s9.2.1 s9.2.2.1 s9.2.2.2.1 s9.2.2.2.2.1 s9.2.2.2.2.2.1 s9.2.2.2.2.2.2.1 s9.2.2.2.2.2.2.2.1 s9.2.2.2.2.2.2.2.2.1 s9.2.2.2.2.2.2.2.2.2.1 s9.2.2.2.2.2.2.2.2.2.2.1 s9.2.2.2.2.2.2.2.2.2.2.2.1 s9.2.2.2.2.2.2.2.2.2.2.2.2.1 s9.2.2.2.2.2.2.2.2.2.2.2.2.2.1)) (fun r9=>(oN (ziZ u8_13 y0 u8_2) (cond (zgB u8_13 y0 u8_2) (oN (zch y2.Rights u8_3) (cond (zcF y2.Rights u8_3) (some [y1,(aI y2.Host),(aB true)]) (r9 (u8_0,(u8_1,(u8_2,(u8_3,(u8_5,(y0,(u8_6,(u8_7,(u8_8,(u8_9,(u8_10,(u8_11,(u8_12,(u8_13,()))))))))))))))))) (r9 (u8_0,(u8_1,(u8_2,(u8_3,(u8_5,(y0,(u8_6,(u8_7,(u8_8,(u8_9,(u8_10,(u8_11,(u8_12,(u8_13,())))))))))))))))))))) (oN (zlX u8_0 u8_1) (share (fun (s9:(Int×(Int×(Int×(Int×(Int×(Int×(lM×(lN×(lE×(lE×(lM×(lN×(lE×(lE×Unit)))))))))))))))=>(zmf N s9.1 s9.2.1 s9.2.2.1 s9.2.2.2.1 s9.2.2.2.2.1 s9.2.2.2.2.2.1 s9.2.2.2.2.2.2.1 s9.2.2.2.2.2.2.2.1 s9.2.2.2.2.2.2.2.2.1 s9.2.2.2.2.2.2.2.2.2.1 s9.2.2.2.2.2.2.2.2.2.2.1 s9.2.2.2.2.2.2.2.2.2.2.2.1 s9.2.2.2.2.2.2.2.2.2.2.2.2.1 s9.2.2.2.2.2.2.2.2.2.2.2.2.2.1)) (fun r9=>(oN (ziZ u8_12 y0 u8_2) (cond (zgB u8_12 y0 u8_2) (oN (zch y3.Rights u8_3) (cond (zcF y3.Rights u8_3) (some [y1,(aI y3.Host),(aB true)]) (r9 (u8_0,(u8_1,(u8_2,(u8_3,(u8_5,(y0,(u8_6,(u8_7,(u8_8,(u8_9,(u8_10,(u8_11,(u8_12,(u8_13,()))))))))))))))))) (r9 (u8_0,(u8_1,(u8_2,(u8_3,(u8_5,(y0,(u8_6,(u8_7,(u8_8,(u8_9,(u8_10,(u8_11,(u8_12,(u8_13,())))))))))))))))))))))
def zmh (N:Nat)(u7_0:Int)(u7_1:Int)(u7_2:Int)(u7_3:Int)(u7_4:Bool)(u7_8:lM)(u7_9:lN)(u7_10:lE)(u7_11:lE)(u7_12:lM)(u7_13:lN)(u7_14:lE)(u7_15:lE)(u7_19:lG):OA:=
 let y1:=(ix u7_13 u7_0 zi);let y0:=(ix u7_19 u7_1 zC).Live;let y2:=(zfg y0 u7_2 u7_3); (oN (inb u7_1 (ln u7_19)) (oN (zgC y0 u7_2 u7_3) (cond (nB (zes y0 u7_2 u7_3)) (some [(aH (⟨u7_12,u7_13,u7_14,u7_15⟩:Host)),(aI (-1)),(aB false)]) (share (fun (s8:(Int×(Int×(Int×(Int×(Bool×(Int×(lM×(lN×(lE×(lE×(lM×(lN×(lE×(lE×Unit)))))))))))))))=>(zmg N s8.1 s8.2.1 s8.2.2.1 s8.2.2.2.1 s8.2.2.2.2.1 s8.2.2.2.2.2.1 s8.2.2.2.2.2.2.1 s8.2.2.2.2.2.2.2.1 s8.2.2.2.2.2.2.2.2.1 s8.2.2.2.2.2.2.2.2.2.1 s8.2.2.2.2.2.2.2.2.2.2.1 s8.2.2.2.2.2.2.2.2.2.2.2.1 s8.2.2.2.2.2.2.2.2.2.2.2.2.1 s8.2.2.2.2.2.2.2.2.2.2.2.2.2.1)) (fun r8=>(cond (ieq u7_3 2) (oN (inb u7_0 (ln u7_13)) (oN (inb y2 (ln y1.Dirty)) (share (up u7_13 u7_0 ({ y1 with Dirty:=(up y1.Dirty y2 true) }:Mon)) (fun x9=>r8 (u7_0,(u7_1,(u7_2,(u7_3,(u7_4,(y2,(u7_8,(u7_9,(u7_10,(u7_11,(u7_12,(x9,(u7_14,(u7_15,())))))))))))))))))) (r8 (u7_0,(u7_1,(u7_2,(u7_3,(u7_4,(y2,(u7_8,(u7_9,(u7_10,(u7_11,(u7_12,(u7_13,(u7_14,(u7_15,())))))))))))))))))))))
def zzX (N:Nat)(a0:Host)(a1 a2:Int)(a3 a4:Int)(a5:Bool):OA:=
 let y1:=(zY a0);let y0:=(zbD a0 a1); (oN (zed a0) (oN (zlV a0 a1) (share (fun (s7:(Int×(Int×(Int×(Int×(Bool×(Int×(Int×(Int×(lM×(lN×(lE×(lE×(lM×(lN×(lE×(lE×(lS×(lM×(lB×(lG×((List Int)×(lK×Unit)))))))))))))))))))))))=>(zmh N s7.1 s7.2.1 s7.2.2.1 s7.2.2.2.1 s7.2.2.2.2.1 s7.2.2.2.2.2.2.2.2.1 s7.2.2.2.2.2.2.2.2.2.1 s7.2.2.2.2.2.2.2.2.2.2.1 s7.2.2.2.2.2.2.2.2.2.2.2.1 s7.2.2.2.2.2.2.2.2.2.2.2.2.1 s7.2.2.2.2.2.2.2.2.2.2.2.2.2.1 s7.2.2.2.2.2.2.2.2.2.2.2.2.2.2.1 s7.2.2.2.2.2.2.2.2.2.2.2.2.2.2.2.1 s7.2.2.2.2.2.2.2.2.2.2.2.2.2.2.2.2.2.2.2.1)) (fun r7=>(oN (zfp a0) (cond (nB (zeT a0)) (some [(aH y1),(aI (-1)),(aB false)]) (cond (nB (zhn a0 a1)) (some [(aH y1),(aI (-1)),(aB false)]) (oN (zbs a2 (ln y0.Guests)) (cond (nB (zbA a2 (ln y0.Guests))) (some [(aH y1),(aI (-1)),(aB false)]) (cond (ine a4 1) (cond (ine a4 2) (some [(aH y1),(aI (-1)),(aB false)]) (r7 (a1,(a2,(a3,(a4,(a5,(y0.Pending,(y0.Traps,(y0.Own,([],([],([],([],(y1.Memory,(y1.Mons,(y1.Buffer,(y1.IoBuffer,(y0.Outer,(y0.Out,(y0.Dirty,(y0.Guests,(y0.Outs,(y0.Tables,())))))))))))))))))))))))) (r7 (a1,(a2,(a3,(a4,(a5,(y0.Pending,(y0.Traps,(y0.Own,([],([],([],([],(y1.Memory,(y1.Mons,(y1.Buffer,(y1.IoBuffer,(y0.Outer,(y0.Out,(y0.Dirty,(y0.Guests,(y0.Outs,(y0.Tables,())))))))))))))))))))))))))))))))))
def zJV:FuncId->Nat->Option Tmpl:=zo [(280,999999,{ n:=0,tm:=[],lo:=[],ro:=[] }),(280,1007055,{ n:=200,tm:=[(1,ti),(2,ti),(3,ti),(4,ti),(5,.b),(12,.lp 0 0),(15,.lp 1 0),(16,.lp 2 0)],lo:=[(0,[.sl 0 [],.sl 1 [],.sl 2 [],.sl 3 []]),(1,[.sl 4 [],.sl 5 [],.sl 6 [],.sl 7 []]),(2,[.sl 8 [],.sl 9 [],.sl 10 [],.sl 11 [],.sl 12 [],ti,ti,.sl 13 [],ti])],ro:=[(0,(.sl .int),true),(1,.mon,true),(2,.entry,true),(3,.entry,true),(4,(.sl .int),true),(5,.mon,true),(6,.entry,true),(7,.entry,true),(8,.slot,true),(9,(.sl .int),true),(10,.bool,true),(11,.guest,true),(12,.int,true),(13,.kept,true)] }),(280,1005039,{ n:=200,tm:=[(1,ti),(2,ti),(3,ti),(4,ti),(5,.b),(12,.lp 0 0),(15,.lp 1 0),(18,ti)],lo:=[(0,[.sl 0 [],.sl 1 [],.sl 2 [],.sl 3 []]),(1,[.sl 4 [],.sl 5 [],.sl 6 [],.sl 7 []])],ro:=[(0,(.sl .int),true),(1,.mon,true),(2,.entry,true),(3,.entry,true),(4,(.sl .int),true),(5,.mon,true),(6,.entry,true),(7,.entry,true)] }),(280,1009019,{ n:=200,tm:=[(1,ti),(2,ti),(3,ti),(4,ti),(12,.lp 0 0),(15,.lp 1 0),(18,ti),(20,.lp 1 3),(21,ti)],lo:=[(0,[.sl 0 [],.sl 1 [],.sl 2 [],.sl 3 []]),(1,[.sl 4 [],.sl 5 [],.sl 6 [],.sl 7 []])],ro:=[(0,(.sl .int),true),(1,.mon,true),(2,.entry,true),(3,.entry,true),(4,(.sl .int),true),(5,.mon,true),(6,.entry,true),(7,.entry,true)] }),(280,1011005,{ n:=200,tm:=[(3,ti),(12,.lp 0 0),(15,.lp 1 0),(20,.lp 1 3),(21,ti),(24,.lp 2 0)],lo:=[(0,[.sl 0 [],.sl 1 [],.sl 2 [],.sl 3 []]),(1,[.sl 4 [],.sl 5 [],.sl 6 [],.sl 7 []]),(2,[ti,ti])],ro:=[(0,(.sl .int),true),(1,.mon,true),(2,.entry,true),(3,.entry,true),(4,(.sl .int),true),(5,.mon,true),(6,.entry,true),(7,.entry,true)] }),(280,1001009019,{ n:=200,tm:=[(1,ti),(2,ti),(3,ti),(4,ti),(12,.lp 0 0),(15,.lp 1 0),(18,ti),(20,.lp 1 2),(21,ti)],lo:=[(0,[.sl 0 [],.sl 1 [],.sl 2 [],.sl 3 []]),(1,[.sl 4 [],.sl 5 [],.sl 6 [],.sl 7 []])],ro:=[(0,(.sl .int),true),(1,.mon,true),(2,.entry,true),(3,.entry,true),(4,(.sl .int),true),(5,.mon,true),(6,.entry,true),(7,.entry,true)] }),(280,1001011005,{ n:=200,tm:=[(3,ti),(12,.lp 0 0),(15,.lp 1 0),(20,.lp 1 2),(21,ti),(24,.lp 2 0)],lo:=[(0,[.sl 0 [],.sl 1 [],.sl 2 [],.sl 3 []]),(1,[.sl 4 [],.sl 5 [],.sl 6 [],.sl 7 []]),(2,[ti,ti])],ro:=[(0,(.sl .int),true),(1,.mon,true),(2,.entry,true),(3,.entry,true),(4,(.sl .int),true),(5,.mon,true),(6,.entry,true),(7,.entry,true)] })]
theorem zRW {N:Nat}{r:Host}{m g page:Int}(hi:r.IoBuffer.length<=1048576) :
 zmc N page (zen m g) (zdG (zb2 r m g) page).Page (zdG (zb2 r m g) page).Rights r.Memory r.Mons r.Buffer r.IoBuffer=some (zgp (zdv r m g page true)):=by
 unfold zmc oN
 conv=>zeta
 exact must (zbj hi) rfl
theorem zRY {N:Nat}{r:Host}{m g page:Int}(hi:r.Buffer.length<=1048576) :
 zme N page (zen m g) (zdG (zb2 r m g) page).Page (zdG (zb2 r m g) page).Rights r.Memory r.Mons r.Buffer r.IoBuffer=some (zgp (zdv r m g page false)):=by
 unfold zme oN
 conv=>zeta
 exact must (zbj hi) rfl
theorem zQh {N:Nat}{r:Host}{m g page need q:Int}{R:OA}{r10}{u5 u6 u7 u8 u9}(A:LookAt r m g q need)(hr:r10 (page,(u5,((zdG (zb2 (zcd (mended r m q need) m g page) m g) page).Page,((zdG (zb2 (zcd (mended r m q need) m g page) m g) page).Rights,(u6,(u7,(u8,(u9,((zcd (mended r m q need) m g page).Memory,((zcd (mended r m q need) m g page).Mons,((zcd (mended r m q need) m g page).Buffer,((zcd (mended r m q need) m g page).IoBuffer,()))))))))))))=R) :
 znV N r.Memory r.Mons r.Buffer r.IoBuffer m q need g page r10 u5 u6 u7 u8 u9=R:=by
 have M:=zkf A.kp A.hm A.hg;have F:=zkf (A.fill page) A.hm A.hg;unfold znV oN
 conv=>zeta
 exact must (zbj A.mend) (must (zx M.hm) (must (zx M.ht) (must (zx M.hg) (must (zbj M.hk) (must (zx M.ht) (shr (must (zx F.ht) (must rfl hr))))))))
theorem zTP {N:Nat}{r:Host}{m g page need q:Int}{io:Bool}{r10}{u5 u6 u7 u8 u9}(A:LookAt r m g q need)(h1:r10 (page,(u5,((zdG (zb2 (zcd (mended r m q need) m g page) m g) page).Page,((zdG (zb2 (zcd (mended r m q need) m g page) m g) page).Rights,(u6,(u7,(u8,(u9,((zcd (mended r m q need) m g page).Memory,((zcd (mended r m q need) m g page).Mons,((zcd (mended r m q need) m g page).Buffer,((zcd (mended r m q need) m g page).IoBuffer,()))))))))))))=some (zgp (zdv (zcd (mended r m q need) m g page) m g page io)))(h2:r10 (page,(u5,((zdG (zb2 r m g) page).Page,((zdG (zb2 r m g) page).Rights,(u6,(u7,(u8,(u9,(r.Memory,(r.Mons,(r.Buffer,(r.IoBuffer,()))))))))))))=some (zgp (zdv r m g page io))) :
 zjM N r.Mons m g page r.Memory r.Buffer r.IoBuffer q need r10 u5 u6 u7 u8 u9=some (zgp (cond (zdn r m g page need) (zdv (zcd (mended r m q need) m g page) m g page io) (zdv r m g page io))):=by
 unfold zjM oN nB
 conv=>zeta
 refine brN (fun f1=>?_) (fun f1=>br (fun f2=>?_) (fun f2=>must rfl (brN (fun f3=>?_) (fun f3=>?_))))
 .rw [znK (zLU f1)];exact zQh A h1
 .rw [znK (zLV f2)];exact zQh A h1
 .rw [znK (zLW f3)];exact zQh A h1
 .rw [zLJ (zLX f1 f2 f3)];exact h2
theorem zRX {N:Nat}{r:Host}{m g page need q:Int}{u6 u7 u8 u9}(A:LookAt r m g q need) :
 zmd N m g page need q (zen m g) u6 u7 u8 u9 r.Memory r.Mons r.Buffer r.IoBuffer=some (zgp (cond (zdn r m g page need) (zdv (zcd (mended r m q need) m g page) m g page true) (zdv r m g page true))):=by
 have M:=zkf ⟨A.fit.1,rfl⟩ A.hm A.hg;have F:=zkf (A.fill page) A.hm A.hg;unfold zmd oN
 conv=>zeta
 exact must (zx M.hm) (must (zx M.ht) (must rfl (shr (zTP A (zRW (r:=zcd (mended r m q need) m g page) (m:=m) (g:=g) F.hi) (zRW (r:=r) (m:=m) (g:=g) M.hi)))))
theorem zRZ {N:Nat}{r:Host}{m g page need q:Int}{u6 u7 u8 u9}(A:LookAt r m g q need) :
 zmf N m g page need q (zen m g) u6 u7 u8 u9 r.Memory r.Mons r.Buffer r.IoBuffer=some (zgp (cond (zdn r m g page need) (zdv (zcd (mended r m q need) m g page) m g page false) (zdv r m g page false))):=by
 have M:=zkf ⟨A.fit.1,rfl⟩ A.hm A.hg;have F:=zkf (A.fill page) A.hm A.hg;unfold zmf oN
 conv=>zeta
 exact must (zx M.hm) (must (zx M.ht) (must rfl (shr (zTP A (zRY (r:=zcd (mended r m q need) m g page) (m:=m) (g:=g) F.hb) (zRY (r:=r) (m:=m) (g:=g) M.hb)))))
theorem zR0 {N:Nat}{r:Host}{m g page need q:Int}{io:Bool}{u6 u7 u8 u9}(A:LookAt r m g q need) :
 zmg N m g page need io q u6 u7 u8 u9 r.Memory r.Mons r.Buffer r.IoBuffer=some (zgp (zfV r (zm4 r io) m g page need q io)):=by
 unfold zmg oN
 conv=>zeta
 cases io
 .show _=some (zgp (zfV r r.Buffer m g page need q false))
  refine ze5 rfl (must rfl (shr (must rfl (br (fun f1=>must rfl (br (fun f2=>?_) (fun f2=>?_))) (fun f1=>?_)))))
  .rw [zv4 (zjz f1 f2)];rfl
  .rw [zjF (zjz f1 f2)];exact zRZ A
  .rw [zjF (zv0 f1)];exact zRZ A
 .show _=some (zgp (zfV r r.IoBuffer m g page need q true))
  refine must rfl (must rfl (shr (must rfl (br (fun f1=>must rfl (br (fun f2=>?_) (fun f2=>?_))) (fun f1=>?_)))))
  .rw [zv4 (zjz f1 f2)];rfl
  .rw [zjF (zjz f1 f2)];exact zRX A
  .rw [zjF (zv0 f1)];exact zRX A
theorem zUc (r:Host)(m q:Int)(io:Bool):zm4 (zbp r m q) io=zm4 r io:=by
 cases io<;>rfl
theorem zR1 {N:Nat}{r:Host}{m g page need:Int}{io:Bool}{z1 z2 z3 z4}(hs:SmH r)(hg:zbW r m g=true)(hn:zeY need=true) :
 zmh N m g page need io z1 z2 z3 z4 r.Memory r.Mons r.Buffer r.IoBuffer (ix r.Mons m mZ).Guests=some (zgp (lookOf r (zm4 r io) m g page need io)):=by
 obtain ⟨g1,g2,g3⟩:=zd7 hg;unfold zmh oN nB
 conv=>zeta
 refine must (zx g3) (must rfl (brN (fun hw=>?_) (fun hw=>?_)))
 .have:zcJ r m g page need=false:=by
   unfold zcJ;rw[hg,hn,show zex (zcx r m g) page need=false from hw]
   rfl
  rw[zgU this];rfl
 .have hl:zcJ r m g page need=true:=by
   unfold zcJ;rw[hg,hn,show zex (zcx r m g) page need=true from hw]
   rfl
  obtain ⟨A,B⟩:=zuA hs hl;rw[zIX hl];have hd:hasB (zb4 (zcx r m g) page need) (ln (ix r.Mons m mZ).Dirty)=true:=zcm (zbB A.fit.1 g2).2.2.2.1 A.hq;refine shr (br (fun h2=>?_) (fun h2=>?_))
  .rw [h2]
   show _=some (zgp (zfV (zbp r m (zb4 (zcx r m g) page need)) (zm4 r io) m g page need (zb4 (zcx r m g) page need) io))
   rw[<- zUc r m (zb4 (zcx r m g) page need) io];exact must (zx g2) (must (zx hd) (shr (zR0 (r:=zbp r m (zb4 (zcx r m g) page need)) B)))
  .rw [h2];exact zR0 A
theorem zIq (a0:Host)(a1 a2:Int)(a3 a4:Int)(a5:Bool)(hc:zrX a0 a1 a2 a3 a4 a5=true):∃N,zzX N a0 a1 a2 a3 a4 a5=some [aH (zrU a0 a1 a2 a3 a4 a5),aI (zrV a0 a1 a2 a3 a4 a5),aB (zrW a0 a1 a2 a3 a4 a5)]:=by
 have hs:=(zbL a0).1 (zB.1 hc);refine ⟨0,?_⟩
 show _=some (zgp (lookOf a0 (zm4 a0 a5) a1 a2 a3 a4 a5))
 unfold zzX oN nB
 conv=>zeta
 refine must (zbj ((zbL _).2 hs)) (must (zbj ((zbL _).2 hs)) (shr (must rfl (brN (fun h1=>?_) (fun h1=>?_)))))
 .rw [zgU (zjG (zCA h1))];rfl
 refine brN (fun h2=>?_) (fun h2=>?_)
 .rw [zgU (zjG (zCB h2))];rfl
 have eM:zbD a0 a1=ix a0.Mons a1 mZ:=by
  unfold zbD;rw[show hasB a1 (ln a0.Mons)=true from h2]
  rfl
 rw[eM];refine must rfl (brN (fun h3=>?_) (fun h3=>?_))
 .rw [zgU (zjG (zCC h3))];rfl
 have hg:=zCD h1 h2 h3;have hno:∀{n:Int},zeY n=false->zcJ a0 a1 a2 a3 n=false:=fun {n} h=>by
  unfold zcJ;rw[hg,h];rfl
 rw[zh7,zh7];cases h4:ieq a4 1
 .cases h5:ieq a4 2
  .have:zeY a4=false:=by unfold zeY;rw[h4,h5];rfl
   rw[zgU (hno this)];rfl
  .exact zR1 (r:=a0) hs hg (by unfold zeY;rw[h4,h5];rfl)
 .exact zR1 (r:=a0) hs hg (by unfold zeY;rw[h4];rfl)
theorem zC7:uV 280 zva:=kF6 zyg zq zfh zrg zJV zIq
def zRD:zK:=[(280,zva)]++zGH
theorem zHv:zy zRD:=zf zC7 zyg
@[simp] abbrev zrO (h:Host)(m g page need:Int):Bool:=pc (zcn h)
@[simp] abbrev zm9 (h:Host)(m g page need:Int):Host:=(lookOf h h.Buffer m g page need false).1
@[simp] abbrev zna (h:Host)(m g page need:Int):Int:=(lookOf h h.Buffer m g page need false).2.1
@[simp] abbrev zrN (h:Host)(m g page need:Int):Bool:=(lookOf h h.Buffer m g page need false).2.2
def zuS:Run:=rF5 dH dI dI dI dI fun b c d e f=>(zrO b c d e f,[aH (zm9 b c d e f),aI (zna b c d e f),aB (zrN b c d e f)])
def zzH (N:Nat)(a0:Host)(a1 a2:Int)(a3 a4:Int):OA:=
 (oN (zrX a0 a1 a2 a3 a4 false) (some [(aH (zrU a0 a1 a2 a3 a4 false)),(aI (zrV a0 a1 a2 a3 a4 false)),(aB (zrW a0 a1 a2 a3 a4 false))]))
theorem zH9 (a0:Host)(a1 a2:Int)(a3 a4:Int)(hc:zrO a0 a1 a2 a3 a4=true):∃N,zzH N a0 a1 a2 a3 a4=some [aH (zm9 a0 a1 a2 a3 a4),aI (zna a0 a1 a2 a3 a4),aB (zrN a0 a1 a2 a3 a4)]:=by
 refine ⟨0,?_⟩;unfold zzH oN;exact must hc rfl
theorem zCQ:uV 163 zuS:=kF5 zHv zq zfh zrg (zo []) zH9
def zRE:zK:=[(163,zuS)]++zRD
theorem zPS:zy zRE:=zf zCQ zHv
def brought (n a b:Int):Int:=bif ilt n a then a else (cond (ilt b a) a (zDB n b))
@[simp] abbrev zlC (_ _ _:Int):Bool:=true
@[simp] abbrev zl2 (n a b:Int):Int:=brought n a b
def zmF:Run:=rF3 dI dI dI fun b c d=>(zlC b c d,[aI (zl2 b c d)])
def zw0 (N:Nat)(a0 a1 a2:Int):OA:=
 (cond (ilt a2 a1) (some [(aI a1)]) (cond (ilt a0 a1) (some [(aI a1)]) (cond (igt a0 a2) (some [(aI a2)]) (some [(aI a0)]))))
theorem zGa (a0 a1 a2:Int)(hc:zlC a0 a1 a2=true):∃N,zw0 N a0 a1 a2=some [aI (zl2 a0 a1 a2)]:=by
 refine ⟨0,?_⟩;unfold zw0;unfold zl2 brought zDB;cases h1:ilt a2 a1<;>cases h2:ilt a0 a1<;>cases h3:igt a0 a2<;>simp [igt] at * <;> omega
theorem zo9:uV 143 zmF:=kF3 zn1 zq zl zn (zo []) zGa
structure RI (a:List Bare) (i:Nat) (l:List Bare):Prop where
 len:l.length=a.length
 sm:zL8 l
 eq:∀k,i<=k->l[k]?=a[k]?
theorem RI.up {a l:List Bare}{i:Nat}(h:RI a i l)(x:Bare)(hx:SmB x):RI a (i+1) (up l (i:Int) x) :=
 ⟨by rw[zkE];exact h.len,zS9 h.sm hx,fun k hk=>by rw[zTG (by omega)];exact h.eq k (by omega)⟩
structure RJ (l:List Bare) (i:Nat) (l':List Bare):Prop where
 len:l'.length=l.length
 sm:SmB (ix l' (i:Int) zT6)
 up:∀x,E.up l' (i:Int) x=E.up l (i:Int) x
theorem RJ.next {l l':List Bare}{i:Nat}(h:RJ l i l')(hi:i<l.length)(x:Bare)(hx:SmB x):RJ l i (E.up l' (i:Int) x) :=
 ⟨by rw[zkE];exact h.len,by rw[zdp (by rw[h.len];exact hi)];exact hx,fun y=>by rw[zst];exact h.up y⟩
def zOg:zK:=[(174,zk6)]++zRE
theorem zE4:zy zOg:=zf zn8 zPS
@[simp] abbrev zj0 (h:Host)(m g:Int):Bool:=pc (zcn h)
@[simp] abbrev zof (h:Host)(m g:Int):Host:=(zbF h m g).1
@[simp] abbrev zog (h:Host)(m g:Int):Bool:=(zbF h m g).2
def zk7:Run:=rF3 dH dI dI fun b c d=>(zj0 b c d,[aH (zof b c d),aB (zog b c d)])
abbrev zeL (a0:Host)(a1 a2:Int):Int :=
 (zhk (ix (zbD a0 a1).Guests a2 zC))
abbrev zbZ (a0:Host)(a1 a2:Int):Int :=
 (zeV (ix (zbD a0 a1).Guests a2 zC))
abbrev zqd (a0:Host)(a1 a2:Int):Host :=
 (zm9 a0 a1 a2 (zcL (zeL a0 a1 a2)) (zdg (ieq (zbZ a0 a1 a2) 4)))
abbrev zeK (a0:Host)(a1 a2:Int):Guest :=
 (ix (ix (zY a0).Mons a1 zi).Guests a2 zC)
abbrev zhK (x4:lN)(a1 a2:Int):Guest :=
 (ix (ix x4 a1 zi).Guests a2 zC)
abbrev zqe (a0:Host)(a1 a2:Int):Int :=
 (zna a0 a1 a2 (zcL (zeL a0 a1 a2)) (zdg (ieq (zbZ a0 a1 a2) 4)))
def zhL (N:Nat)(a0:Host)(a1 a2:Int):OA:=
 let y5:=(zqe a0 a1 a2);let y4:=(ieq (zbZ a0 a1 a2) 4);let y3:=(zeL a0 a1 a2);let y2:=(zqd a0 a1 a2);let y6:=(inb a1 (ln y2.Mons));let y1:=(ix (zbD a0 a1).Guests a2 zC);let y0:=(ix y2.Mons a1 zi);let y7:=(inb a2 (ln y0.Guests)); (oN (zd9 y3) (oN (zj3 y4) (oN (zrO a0 a1 a2 (zcL y3) (zdg y4)) (cond (nB (zrN a0 a1 a2 (zcL y3) (zdg y4))) (oN (zd9 y3) (oN (zgz (zcL y3) y4) (oN (zdW y1 (zfM (zcL y3) y4)) (oN y6 (oN y7 (share (up y2.Mons a1 ({ y0 with Guests:=(up y0.Guests a2 (zeb y1 (zfM (zcL y3) y4))) }:Mon)) (fun x4=>(some [(aH ({ y2 with Mons:=x4 }:Host)),(aB true)])))))))) (cond y4 (oN (zd8 y3) (oN (zhq y2.Memory y5 (zdU y3) y1.A) (oN (zj7 y1) (oN y6 (oN y7 (share (up y2.Mons a1 ({ y0 with Guests:=(up y0.Guests a2 (zho y1)) }:Mon)) (fun x4=>(some [(aH ({ y2 with Memory:=(zh5 y2.Memory y5 (zdU y3) y1.A),Mons:=x4 }:Host)),(aB true)])))))))) (oN (zd8 y3) (oN (zjY y2.Memory y5 (zdU y3)) (oN (zj2 y1 (zje y2.Memory y5 (zdU y3))) (oN y6 (oN y7 (share (up y2.Mons a1 ({ y0 with Guests:=(up y0.Guests a2 (zhm y1 (zje y2.Memory y5 (zdU y3)))) }:Mon)) (fun x4=>(some [(aH ({ y2 with Mons:=x4 }:Host)),(aB true)])))))))))))))
def zhM (N:Nat)(a0:Host)(a1 a2:Int)(x4:lN):OA:=
 let y2:=(zhK x4 a1 a2);let y1:=(ix x4 a1 zi);let y0:=({ (zeK a0 a1 a2) with Prog:=y2.Prog,Written:=y2.Written,Live:=y2.Live,Seen:=y2.Seen }:Guest); (oN (zc7 y0) (oN (inb a2 (ln y1.Guests)) (share (up x4 a1 ({ y1 with Guests:=(up y1.Guests a2 (zcZ y0)) }:Mon)) (fun x5=>(some [(aH ({ (zY a0) with Mons:=x5 }:Host)),(aB true)])))))
def zhN (N:Nat)(a0:Host)(a1 a2:Int):OA:=
 let y3:=(zY a0).Mons;let y1:=(zeK a0 a1 a2);let y0:=(ix y3 a1 zi);let y2:=(ap y0.Outs [(zek y1.Prog y1.Pc).X]); (cond (ieq (zbZ a0 a1 a2) 7) (oN (zjg y1) (oN (inb a2 (ln y0.Guests)) (share (up y3 a1 ({ y0 with Guests:=(up y0.Guests a2 (ziD y1)) }:Mon)) (fun x4=>(some [(aH ({ (zY a0) with Mons:=x4 }:Host)),(aB true)]))))) (cond (ilt (ln y0.Outs) 40) (oN (zea y1.Prog y1.Pc) (oN (few (ln y2)) (oN (cond (ieq a1 a1) true false) (share (up y3 a1 ({ y0 with Outs:=y2 }:Mon)) (fun x4=>(zhM N a0 a1 a2 x4)))))) (oN (zc7 y1) (oN (inb a2 (ln y0.Guests)) (share (up y3 a1 ({ y0 with Guests:=(up y0.Guests a2 (zcZ y1)) }:Mon)) (fun x4=>(some [(aH ({ (zY a0) with Mons:=x4 }:Host)),(aB true)])))))))
def zhO (N:Nat)(a1:Int)(a0:Host)(a2:Int):OA:=
 let y9:=(zY a0);let y5:=(zbZ a0 a1 a2);let y2:=(zeK a0 a1 a2);let y1:=(ix y9.Mons a1 zi);let y11:=(zjC y1.Traps y2.Ctl.Traps (zeW y5)); (oN (inb a1 (ln y9.Mons)) (oN (inb a2 (ln y1.Guests)) (oN (zke y5) (oN (zpQ y1.Traps y2.Ctl.Traps (zeW y5)) (cond (ieq y11 1) (oN (ziH y2 y5) (oN (inb a2 (ln y1.Guests)) (share (up y9.Mons a1 ({ y1 with Guests:=(up y1.Guests a2 (zga y2 y5)) }:Mon)) (fun x4=>(some [(aH ({ y9 with Mons:=x4 }:Host)),(aB true)]))))) (cond (ieq y11 2) (cond (ilt y1.Own 1000000000) (share (up y9.Mons a1 ({ y1 with Own:=(zG .i64 y1.Own 1) }:Mon)) (fun x4=>let y4:=(ix x4 a1 zi);let y3:=(zhK x4 a1 a2);let y10:=(ap y4.Outs [(zek y3.Prog y2.Pc).X]);let y6:=({ y2 with Prog:=y3.Prog,Written:=y3.Written,Live:=y3.Live,Seen:=y3.Seen }:Guest); (cond (ieq y5 7) (oN (zjg y6) (oN (inb a2 (ln y4.Guests)) (share (up x4 a1 ({ y4 with Guests:=(up y4.Guests a2 (ziD y6)) }:Mon)) (fun x5=>(some [(aH ({ y9 with Mons:=x5 }:Host)),(aB true)]))))) (cond (ilt (ln y4.Outs) 40) (oN (zea y3.Prog y2.Pc) (oN (few (ln y10)) (oN (cond (ieq a1 a1) true false) (share (up x4 a1 ({ y4 with Outs:=y10 }:Mon)) (fun x5=>let y8:=(ix x5 a1 zi);let y0:=(ix y8.Guests a2 zC);let y7:=({ y2 with Prog:=y0.Prog,Written:=y0.Written,Live:=y0.Live,Seen:=y0.Seen }:Guest); (oN (zc7 y7) (oN (inb a2 (ln y8.Guests)) (share (up x5 a1 ({ y8 with Guests:=(up y8.Guests a2 (zcZ y7)) }:Mon)) (fun x6=>(some [(aH ({ y9 with Mons:=x6 }:Host)),(aB true)])))))))))) (zhM N a0 a1 a2 x4))))) (zhN N a0 a1 a2)) (zhN N a0 a1 a2)))))))
def zfW (N:Nat)(a0:Host)(a1 a2:Int):OA:=
 (oN (zh3 a0 a1) (oN (zoc (zeU a0 a1) a2) (oN (inb a1 (ln (zY a0).Mons)) (share (up (zY a0).Mons a1 ({ (ix (zY a0).Mons a1 zi) with Guests:=(zf0 (zeU a0 a1) a2).Guests }:Mon)) (fun x4=>(some [(aH ({ (zY a0) with Mons:=x4 }:Host)),(aB true)]))))))
def zdL (N:Nat)(a0:Host)(a1 a2:Int):OA:=
 let y0:=(zbZ a0 a1 a2); (cond (ieq y0 5) (cond (ieq y0 5) (zhO N a1 a0 a2) (zfW N a0 a1 a2)) (cond (ieq y0 7) (zhO N a1 a0 a2) (zfW N a0 a1 a2)))
def ztu (N:Nat)(a0:Host)(a1 a2:Int):OA:=
 let y3:=(aH (zY a0));let y2:=(zbZ a0 a1 a2);let y0:=(zbD a0 a1).Guests;let y1:=(ix y0 a2 zC); (oN (zed a0) (oN (zlV a0 a1) (oN (zfp a0) (cond (nB (zeT a0)) (some [y3,(aB false)]) (cond (nB (zhn a0 a1)) (some [y3,(aB false)]) (oN (zbs a2 (ln y0)) (cond (nB (zbA a2 (ln y0))) (some [y3,(aB false)]) (oN (inb a2 (ln y0)) (oN (zgj y1) (cond (ieq y2 0) (some [y3,(aB false)]) (oN (inb a2 (ln y0)) (oN (zgj y1) (oN (zlu y1) (cond (ieq y2 3) (cond (ieq y2 3) (zhL N a0 a1 a2) (zdL N a0 a1 a2)) (cond (ieq y2 4) (zhL N a0 a1 a2) (zdL N a0 a1 a2))))))))))))))))
theorem zI2 {h:Host}{m:Int}(hm:hasB m (ln h.Mons)=true):zbD h m=ix h.Mons m mZ:=by
 unfold zbD;rw[hm];rfl
theorem zTM {N:Nat}{a0:Host}{a1 a2:Int}(hs:SmH a0)(hh:zbW a0 a1 a2=true) :
 zhL N a0 a1 a2=some (zpY (zlj (zlz a0 a1 a2 (gOf a0 a1 a2) (ieq (zD (gOf a0 a1 a2)) 4)) a1 a2 (gOf a0 a1 a2) (ieq (zD (gOf a0 a1 a2)) 4),true)):=by
 obtain ⟨g1,g2,g3⟩:=zd7 hh;have hx:=zB2 hs g2 g3;have k:=zLH (b:=a0.Buffer) (page:=zdr (address (gOf a0 a1 a2))) (need:=zft (ieq (zD (gOf a0 a1 a2)) 4)) (io:=false) hs hh;have F:=zkf k g2 g3;have eM:=zI2 g2;have e3:zbZ a0 a1 a2=zD (gOf a0 a1 a2):=by
  show zeV (ix (zbD a0 a1).Guests a2 gZ)=_
  rw[eM];rfl
 have e4:zeL a0 a1 a2=address (gOf a0 a1 a2):=by
  show zhk (ix (zbD a0 a1).Guests a2 gZ)=_
  rw[eM];rfl
 have e1:zqd a0 a1 a2=(zlz a0 a1 a2 (gOf a0 a1 a2) (ieq (zD (gOf a0 a1 a2)) 4)).1:=by
  show zm9 a0 a1 a2 (zcL (zeL a0 a1 a2)) (zdg (ieq (zbZ a0 a1 a2) 4))=_
  rw[e3,e4];rfl
 have e6:zqe a0 a1 a2=(zlz a0 a1 a2 (gOf a0 a1 a2) (ieq (zD (gOf a0 a1 a2)) 4)).2.1:=by
  show zna a0 a1 a2 (zcL (zeL a0 a1 a2)) (zdg (ieq (zbZ a0 a1 a2) 4))=_
  rw[e3,e4];rfl
 unfold zhL oN nB
 conv=>zeta
 rw[e1,e3,e4,e6,eM];unfold zlj;refine must rfl (must rfl (must (zbj ((zbL _).2 hs)) (brN (fun h=>?_) (fun h=>?_))))
 .rw [show (zlz a0 a1 a2 (gOf a0 a1 a2) (ieq (zD (gOf a0 a1 a2)) 4)).2.2=false from h]
  exact must rfl (must rfl (must (zbj hx) (must (zx F.hm) (must (zx F.hg) rfl))))
 .rw [show (zlz a0 a1 a2 (gOf a0 a1 a2) (ieq (zD (gOf a0 a1 a2)) 4)).2.2=true from h]
  refine br (fun h4=>?_) (fun h4=>?_)
  .have kk:=k.shape.1.1;rw[h4] at F kk ⊢;exact must rfl (must (zbj kk) (must (zbj hx) (must (zx F.hm) (must (zx F.hg) rfl))))
  .rw [h4] at F ⊢;exact must rfl (must rfl (must (zbj hx) (must (zx F.hm) (must (zx F.hg) rfl))))
theorem zUE {N:Nat}{a0:Host}{x4:List Mon}{a1 a2:Int}(hx:SmG (gOf a0 a1 a2))(g3:hasB a2 (ln (ix x4 a1 mZ).Guests)=true)(e:zhK x4 a1 a2=zeK a0 a1 a2) :
 zhM N a0 a1 a2 x4=some (zpY (zgo { a0 with Mons:=x4 } a1 a2 (zbv (gOf a0 a1 a2)),true)):=by
 unfold zhM oN
 conv=>zeta
 rw[e];exact must (zbj hx) (must (zx g3) rfl)
def leftG (x:Guest)(w:Int):Guest:=bif ieq w 7 then held x else zbv x
def zr4 (h:Host)(m:Int)(x:Guest)(w:Int):Host:=bif ieq w 7 then h else zkh h m (zc8 x.Prog x.Pc).X
theorem zqJ {h:Host}{m:Int}{x:Guest}{w:Int}(hh:ieq w 7=true):leftG x w=held x/\zr4 h m x w=h:=by
 unfold leftG zr4;rw[hh];exact ⟨rfl,rfl⟩
theorem ziJ {h:Host}{m:Int}{x:Guest}{w:Int}(hh:ieq w 7=false):leftG x w=zbv x/\zr4 h m x w=zkh h m (zc8 x.Prog x.Pc).X:=by
 unfold leftG zr4;rw[hh];exact ⟨rfl,rfl⟩
theorem zLM {h:Host}{m n:Int}(hh:ilt (ln (ix h.Mons m mZ).Outs) 40=true):zkh h m n={ h with Mons:=up h.Mons m { ix h.Mons m mZ with Outs:=ap (ix h.Mons m mZ).Outs [n] } }:=by
 unfold zkh;rw[hh];rfl
theorem zLL {h:Host}{m n:Int}(hh:ilt (ln (ix h.Mons m mZ).Outs) 40=false):zkh h m n=h:=by
 unfold zkh;rw[hh];rfl
theorem zUF {N:Nat}{a0:Host}{a1 a2:Int}(hs:SmH a0)(g2:hasB a1 (ln a0.Mons)=true)(g3:hasB a2 (ln (ix a0.Mons a1 mZ).Guests)=true)(eW:zbZ a0 a1 a2=zD (gOf a0 a1 a2)) :
 zhN N a0 a1 a2=some (zpY (zgo (zr4 a0 a1 (gOf a0 a1 a2) (zD (gOf a0 a1 a2))) a1 a2 (leftG (gOf a0 a1 a2) (zD (gOf a0 a1 a2))),true)):=by
 have hx:=zB2 hs g2 g3;unfold zhN oN
 conv=>zeta
 rw[eW];refine br (fun h7=>?_) (fun h7=>br (fun h3=>?_) (fun h3=>?_))
 .rw [(zqJ (x:=gOf a0 a1 a2) (h:=a0) (m:=a1) h7).1,(zqJ (x:=gOf a0 a1 a2) h7).2];exact must (zbj hx) (must (zx g3) rfl)
 .rw [(ziJ (x:=gOf a0 a1 a2) (h:=a0) (m:=a1) h7).1,(ziJ (x:=gOf a0 a1 a2) h7).2,zLM h3];refine must rfl (must (zRS h3) (must (zOy _) (shr (zUE hx ?_ ?_))))
  .rw [zuC g2];exact g3
  .show ix (ix (up a0.Mons a1 _) a1 mZ).Guests a2 gZ=_
   rw[zuC g2]
 .rw [(ziJ (x:=gOf a0 a1 a2) (h:=a0) (m:=a1) h7).1,(ziJ (x:=gOf a0 a1 a2) h7).2,zLL h3];exact must (zbj hx) (must (zx g3) rfl)
theorem zT3 {h:Host}{m g:Int}{x:Guest}{w:Int}(h6:ieq w 6=false)(h57:ieq w 5=false->ieq w 6=false->ieq w 7=true)(hT:zcN x.Ctl.Traps (zew w)=false):znz h m g x w=zgo (zr4 (zik h m x w) m x w) m g (leftG x w):=by
 unfold znz;cases h7:ieq w 7
 .have h5:ieq w 5=true:=by
   cases h5:ieq w 5
   .have:=h57 h5 h6;rw[h7] at this;cases this
   .rfl
  obtain ⟨e1,e2⟩:=tr3 x x.Ctl.Traps w h6 h7 hT h5;rw[(ziJ (x:=x) (h:=zik h m x w) (m:=m) h7).1,(ziJ (x:=x) h7).2,e1];unfold zpB;rw[e2,h5];rfl
 .have h5:ieq w 5=false:=by
   have:w=7:=qG h7;rw[this];rfl
  rw[(zqJ (x:=x) (h:=zik h m x w) (m:=m) h7).1,(zqJ (x:=x) h7).2,tr4 x x.Ctl.Traps w h6 h57 hT h5,zT1 h5]
theorem zUI {a0:Host}{x5:List Mon}{a1 a2:Int}(hx:SmG (gOf a0 a1 a2))(g3:hasB a2 (ln (ix x5 a1 mZ).Guests)=true)(e:(ix (ix x5 a1 zi).Guests a2 zC)=gOf a0 a1 a2) :
 (cond (zc7 ({ (ix (ix (zY a0).Mons a1 zi).Guests a2 zC) with Prog:=(ix (ix x5 a1 zi).Guests a2 zC).Prog,Written:=(ix (ix x5 a1 zi).Guests a2 zC).Written,Live:=(ix (ix x5 a1 zi).Guests a2 zC).Live,Seen:=(ix (ix x5 a1 zi).Guests a2 zC).Seen }:Guest)) (cond (inb a2 (ln (ix x5 a1 zi).Guests)) (share (up x5 a1 ({ (ix x5 a1 zi) with Guests:=(up (ix x5 a1 zi).Guests a2 (zcZ ({ (ix (ix (zY a0).Mons a1 zi).Guests a2 zC) with Prog:=(ix (ix x5 a1 zi).Guests a2 zC).Prog,Written:=(ix (ix x5 a1 zi).Guests a2 zC).Written,Live:=(ix (ix x5 a1 zi).Guests a2 zC).Live,Seen:=(ix (ix x5 a1 zi).Guests a2 zC).Seen }:Guest))) }:Mon)) (fun x6=>(some [(.agg (zbh ({ (zY a0) with Mons:=x6 }:Host))),(.one (.b true))]))) none) none)=some (zpY (zgo { a0 with Mons:=x5 } a1 a2 (zbv (gOf a0 a1 a2)),true)):=by
 rw[e];exact must (zbj hx) (must (zx g3) rfl)
theorem zUH {a0:Host}{x4:List Mon}{a1 a2:Int}(hx:SmG (gOf a0 a1 a2))(g2:hasB a1 (ln x4)=true)(g3:hasB a2 (ln (ix x4 a1 mZ).Guests)=true)(e:(ix (ix x4 a1 zi).Guests a2 zC)=gOf a0 a1 a2) :
 (cond (ieq (zD (gOf a0 a1 a2)) 7) (cond (zjg ({ (ix (ix (zY a0).Mons a1 zi).Guests a2 zC) with Prog:=(ix (ix x4 a1 zi).Guests a2 zC).Prog,Written:=(ix (ix x4 a1 zi).Guests a2 zC).Written,Live:=(ix (ix x4 a1 zi).Guests a2 zC).Live,Seen:=(ix (ix x4 a1 zi).Guests a2 zC).Seen }:Guest)) (cond (inb a2 (ln (ix x4 a1 zi).Guests)) (share (up x4 a1 ({ (ix x4 a1 zi) with Guests:=(up (ix x4 a1 zi).Guests a2 (ziD ({ (ix (ix (zY a0).Mons a1 zi).Guests a2 zC) with Prog:=(ix (ix x4 a1 zi).Guests a2 zC).Prog,Written:=(ix (ix x4 a1 zi).Guests a2 zC).Written,Live:=(ix (ix x4 a1 zi).Guests a2 zC).Live,Seen:=(ix (ix x4 a1 zi).Guests a2 zC).Seen }:Guest))) }:Mon)) (fun x5=>(some [(.agg (zbh ({ (zY a0) with Mons:=x5 }:Host))),(.one (.b true))]))) none) none) (cond (ilt (ln (ix x4 a1 zi).Outs) 40) (cond (zea (ix (ix x4 a1 zi).Guests a2 zC).Prog (ix (ix (zY a0).Mons a1 zi).Guests a2 zC).Pc) (cond (few (ln (ap (ix x4 a1 zi).Outs [(zek (ix (ix x4 a1 zi).Guests a2 zC).Prog (ix (ix (zY a0).Mons a1 zi).Guests a2 zC).Pc).X]))) (cond (cond (ieq a1 a1) true false) (share (up x4 a1 ({ (ix x4 a1 zi) with Outs:=(ap (ix x4 a1 zi).Outs [(zek (ix (ix x4 a1 zi).Guests a2 zC).Prog (ix (ix (zY a0).Mons a1 zi).Guests a2 zC).Pc).X]) }:Mon)) (fun x5=>(cond (zc7 ({ (ix (ix (zY a0).Mons a1 zi).Guests a2 zC) with Prog:=(ix (ix x5 a1 zi).Guests a2 zC).Prog,Written:=(ix (ix x5 a1 zi).Guests a2 zC).Written,Live:=(ix (ix x5 a1 zi).Guests a2 zC).Live,Seen:=(ix (ix x5 a1 zi).Guests a2 zC).Seen }:Guest)) (cond (inb a2 (ln (ix x5 a1 zi).Guests)) (share (up x5 a1 ({ (ix x5 a1 zi) with Guests:=(up (ix x5 a1 zi).Guests a2 (zcZ ({ (ix (ix (zY a0).Mons a1 zi).Guests a2 zC) with Prog:=(ix (ix x5 a1 zi).Guests a2 zC).Prog,Written:=(ix (ix x5 a1 zi).Guests a2 zC).Written,Live:=(ix (ix x5 a1 zi).Guests a2 zC).Live,Seen:=(ix (ix x5 a1 zi).Guests a2 zC).Seen }:Guest))) }:Mon)) (fun x6=>(some [(.agg (zbh ({ (zY a0) with Mons:=x6 }:Host))),(.one (.b true))]))) none) none))) none) none) none) (cond (zc7 ({ (ix (ix (zY a0).Mons a1 zi).Guests a2 zC) with Prog:=(ix (ix x4 a1 zi).Guests a2 zC).Prog,Written:=(ix (ix x4 a1 zi).Guests a2 zC).Written,Live:=(ix (ix x4 a1 zi).Guests a2 zC).Live,Seen:=(ix (ix x4 a1 zi).Guests a2 zC).Seen }:Guest)) (cond (inb a2 (ln (ix x4 a1 zi).Guests)) (share (up x4 a1 ({ (ix x4 a1 zi) with Guests:=(up (ix x4 a1 zi).Guests a2 (zcZ ({ (ix (ix (zY a0).Mons a1 zi).Guests a2 zC) with Prog:=(ix (ix x4 a1 zi).Guests a2 zC).Prog,Written:=(ix (ix x4 a1 zi).Guests a2 zC).Written,Live:=(ix (ix x4 a1 zi).Guests a2 zC).Live,Seen:=(ix (ix x4 a1 zi).Guests a2 zC).Seen }:Guest))) }:Mon)) (fun x5=>(some [(.agg (zbh ({ (zY a0) with Mons:=x5 }:Host))),(.one (.b true))]))) none) none)))=some (zpY (zgo (zr4 { a0 with Mons:=x4 } a1 (gOf a0 a1 a2) (zD (gOf a0 a1 a2))) a1 a2 (leftG (gOf a0 a1 a2) (zD (gOf a0 a1 a2))),true)):=by
 rw[e];refine br (fun h7=>?_) (fun h7=>br (fun h3=>?_) (fun h3=>?_))
 .rw [(zqJ (x:=gOf a0 a1 a2) (h:={ a0 with Mons:=x4 }) (m:=a1) h7).1,(zqJ (x:=gOf a0 a1 a2) h7).2];exact must (zbj hx) (must (zx g3) rfl)
 .rw [(ziJ (x:=gOf a0 a1 a2) (h:={ a0 with Mons:=x4 }) (m:=a1) h7).1,(ziJ (x:=gOf a0 a1 a2) h7).2,zLM (h:={ a0 with Mons:=x4 }) h3];refine must rfl (must (zRS h3) (must (zOy _) (shr (zUI hx ?_ ?_))))
  .rw [zuC (h:={ a0 with Mons:=x4 }) g2];exact g3
  .show ix (ix (up x4 a1 _) a1 mZ).Guests a2 gZ=_
   rw[zuC (h:={ a0 with Mons:=x4 }) g2];exact e
 .rw [(ziJ (x:=gOf a0 a1 a2) (h:={ a0 with Mons:=x4 }) (m:=a1) h7).1,(ziJ (x:=gOf a0 a1 a2) h7).2,zLL (h:={ a0 with Mons:=x4 }) h3];exact must (zbj hx) (must (zx g3) rfl)
theorem tf (b:Bool):b=false\/b=true:=by cases b<;>simp
theorem zUG {N:Nat}{a0:Host}{a1 a2:Int}(hs:SmH a0)(g2:hasB a1 (ln a0.Mons)=true)(g3:hasB a2 (ln (ix a0.Mons a1 mZ).Guests)=true)(eW:zbZ a0 a1 a2=zD (gOf a0 a1 a2))(h6:ieq (zD (gOf a0 a1 a2)) 6=false)(h57:ieq (zD (gOf a0 a1 a2)) 5=false->ieq (zD (gOf a0 a1 a2)) 6=false->ieq (zD (gOf a0 a1 a2)) 7=true) :
 zhO N a1 a0 a2=some (zpY (znz a0 a1 a2 (gOf a0 a1 a2) (zD (gOf a0 a1 a2)),true)):=by
 have hx:=zB2 hs g2 g3;have T3:=zUF (N:=N) hs g2 g3 eW;have hn6:ine (zD (gOf a0 a1 a2)) 6=true:=by rw[zh7,h6];rfl
 unfold zhO oN
 conv=>zeta
 rw[eW];refine must (zx g2) (must (zx g3) (must rfl (must rfl ?_)));rw[show ieq (zjC (ix a0.Mons a1 zi).Traps (zeK a0 a1 a2).Ctl.Traps (zeW (zD (gOf a0 a1 a2)))) 1=zcN (gOf a0 a1 a2).Ctl.Traps (zew (zD (gOf a0 a1 a2))) from zTS _ _ _]
 refine br (fun hT=>?_) (fun hT=>?_)
 .obtain ⟨e1,e2⟩:=tr2 (gOf a0 a1 a2) (gOf a0 a1 a2).Ctl.Traps _ h6 h57 hT;have e0:zik a0 a1 (gOf a0 a1 a2) (zD (gOf a0 a1 a2))=a0:=by
   unfold zik;rw[hn6,zTT hT];rfl
  unfold znz;rw[e0,zPh e2,e1];exact must (zbj hx) (must (zx g3) rfl)
 .rw [zT3 h6 h57 hT];have e0:zik a0 a1 (gOf a0 a1 a2) (zD (gOf a0 a1 a2))=bif ieq (zmv (ix a0.Mons a1 mZ).Traps (gOf a0 a1 a2).Ctl.Traps (zew (zD (gOf a0 a1 a2)))) 2 then owned a0 a1 else a0:=by
   unfold zik;rw[hn6];rfl
  rw[e0];refine br (fun hO=>?_) (fun hO=>?_)
  .rw [show ieq (zmv (ix a0.Mons a1 mZ).Traps (gOf a0 a1 a2).Ctl.Traps (zew (zD (gOf a0 a1 a2)))) 2=true from hO]
   simp only[cT];unfold owned;refine br (fun h0=>?_) (fun h0=>?_)
   rotate_left
   .rw [h0];exact T3
   rw[h0];refine shr ?_;have eM:=zuC g2 { ix a0.Mons a1 mZ with Own:=zG .i64 (ix a0.Mons a1 mZ).Own 1 };have g2':hasB a1 (ln (up a0.Mons a1 { ix a0.Mons a1 mZ with Own:=zG .i64 (ix a0.Mons a1 mZ).Own 1 }))=true:=zdI g2;have e5:zhK (up a0.Mons a1 { ix a0.Mons a1 mZ with Own:=zG .i64 (ix a0.Mons a1 mZ).Own 1 }) a1 a2=zeK a0 a1 a2:=by
    show ix (ix (up a0.Mons a1 _) a1 mZ).Guests a2 gZ=_
    rw[eM]
   refine zUH hx g2' ?_ e5;rw[eM];exact g3
  .rw [show ieq (zmv (ix a0.Mons a1 mZ).Traps (gOf a0 a1 a2).Ctl.Traps (zew (zD (gOf a0 a1 a2)))) 2=false from hO]
   exact T3
theorem zQd {N:Nat}{a0:Host}{a1 a2:Int}(hs:SmH a0)(hh:zbW a0 a1 a2=true)(h0:ieq (zD (gOf a0 a1 a2)) 0=false){y:Guest}{o:List Int}(hy:(stepped (zbc a0 a1) a2 (gOf a0 a1 a2) (zD (gOf a0 a1 a2))).Guests=up (ix a0.Mons a1 mZ).Guests a2 y)(hb:SmB (zbc a0 a1)) :
 zfW N a0 a1 a2=some (zpY (zgo a0 a1 a2 y,true)):=by
 obtain ⟨g1,g2,g3⟩:=zd7 hh;have hsb:=zKj g1 g2;have eg:(zbc a0 a1).Guests=(ix a0.Mons a1 mZ).Guests:=by
  unfold zbc;rw[g2];rfl
 have hgg:hasB a2 (ln (zbc a0 a1).Guests)=true:=by rw[eg];exact g3
 have eA:gAt (zbc a0 a1) a2=gOf a0 a1 a2:=by
  unfold gAt;rw[hgg,eg];rfl
 have hcan:zkO (zbc a0 a1) a2=true:=by
  unfold zkO;rw[hgg,hsb,eA,h0];rfl
 have eS:zg9 (zbc a0 a1) a2=stepped (zbc a0 a1) a2 (gOf a0 a1 a2) (zD (gOf a0 a1 a2)):=by
  unfold zg9;rw[hcan,eA];rfl
 have hG:(zf0 (zeU a0 a1) a2).Guests=up (ix a0.Mons a1 mZ).Guests a2 y:=by
  show (zg9 (zbc a0 a1) a2).Guests=_
  rw[eS,hy]
 unfold zfW oN;rw[hG];exact must (zbj ((zbL _).2 hs)) (must (zbj hb) (must (zx g2) rfl))
theorem zjt {h:Host}{m:Int}(hs:SmH h)(hm:hasB m (ln h.Mons)=true):SmB (zbc h m):=by
 have g1:=hs.2.1.2 _ (zbJ hm mZ);have hP:∀(mm:List (List Int)) (q:Int),SmM mm->(zfu mm q).length<=1048576:=fun mm q h=>zJB h;have hpg:∀p:Int,(zdd h m p).length<=1048576:=by
  intro p;unfold zdd;cases hasB m (ln h.Mons)
  .exact (by decide:zsv.length<=1048576)
  .cases hasB p 8
   .exact (by decide:zsv.length<=1048576)
   .simp only [cT];cases ine (zcp (ix h.Mons m zi).Outer p).Page (-1)
    .exact hP _ _ g1.2.1
    .exact hP _ _ hs.1
 have hN:∀(n i:Nat),∀x∈ze0 h m n i,x.length<=1048576:=by
  intro n
  induction n with
  | zero=>intro i x hx;cases hx
  | succ n ih =>
   intro i x hx;rcases qH.1 hx with rfl|hx
   .exact hpg _
   .exact ih (i+1) x hx
 unfold zbc;rw[hm];exact ⟨⟨by show (ze0 h m 8 0).length<=1048576;rw[zr7];decide,hN 8 0⟩,g1.2.2.2.1,g1.2.2.2.2.1⟩
theorem zpN (b:Bare)(g:Int)(x:Guest):(zjs b g x).Guests=up b.Guests g x:=rfl
theorem zDK (a0:Host)(a1 a2:Int)(hb:zbq big [aH a0,aI a1,aI a2])(hc:zj0 a0 a1 a2=true):∃N,ztu N a0 a1 a2=some [aH (zof a0 a1 a2),aB (zog a0 a1 a2)]:=by
 have hs:=(zbL a0).1 (zB.1 hc);refine ⟨0,?_⟩
 show _=some (zpY (zbF a0 a1 a2))
 unfold ztu oN nB
 conv=>zeta
 refine must (zbj ((zbL _).2 hs)) (must (zbj ((zbL _).2 hs)) (must rfl (brN (fun h1=>?_) (fun h1=>brN (fun h2=>?_) (fun h2=>?_)))))
 .rw [zwf (zCA h1)];rfl
 .rw [zwf (zCB h2)];rfl
 have eM:=zI2 (h:=a0) (m:=a1) h2;have eW:zbZ a0 a1 a2=zD (gOf a0 a1 a2):=by
  show zeV (ix (zbD a0 a1).Guests a2 gZ)=_
  rw[eM];rfl
 rw[eM,eW];refine must rfl (brN (fun h3=>?_) (fun h3=>?_))
 .rw [zwf (zCC h3)];rfl
 have hh:=zCD h1 h2 h3;have g2:hasB a1 (ln a0.Mons)=true:=h2;have g3:hasB a2 (ln (ix a0.Mons a1 mZ).Guests)=true:=h3;have hb:=zjt hs g2;have eg:(zbc a0 a1).Guests=(ix a0.Mons a1 mZ).Guests:=by
  unfold zbc;rw[g2];rfl
 rw[zJH hh];unfold zB5;refine must (zx g3) (must rfl (br (fun h0=>?_) (fun h0=>must (zx g3) (must rfl (must rfl (br (fun q3=>must q3 ?_) (fun q3=>br (fun q4=>?_) (fun q4=>?_))))))))
 .rw [h0];rfl
 .have e:zD (gOf a0 a1 a2)=3:=qG q3;have T:=zTM (N:=0) hs hh;rw[T];rw[e];rfl
 .have e:zD (gOf a0 a1 a2)=4:=qG q4;have T:=zTM (N:=0) hs hh;rw[T];rw[e];rfl
 .have fin:∀{R:Host×Bool},zdL 0 a0 a1 a2=some (zpY R)->R=(bif ieq (zD (gOf a0 a1 a2)) 0 then (a0,false) else (bif ieq (zD (gOf a0 a1 a2)) 1 then (zgo a0 a1 a2 (interrupted (gOf a0 a1 a2)),true) else (bif ieq (zD (gOf a0 a1 a2)) 2 then (zgo a0 a1 a2 (plainly (gOf a0 a1 a2)),true) else
   (cond (cond (ieq (zD (gOf a0 a1 a2)) 3) true (ieq (zD (gOf a0 a1 a2)) 4)) (zlj (zlz a0 a1 a2 (gOf a0 a1 a2) (ieq (zD (gOf a0 a1 a2)) 4)) a1 a2 (gOf a0 a1 a2) (ieq (zD (gOf a0 a1 a2)) 4),true) (znz a0 a1 a2 (gOf a0 a1 a2) (zD (gOf a0 a1 a2)),true)))))->zdL 0 a0 a1 a2=_:=fun h e=>h.trans (congrArg (fun x=>some (zpY x)) e)
  have i6:ieq (zD (gOf a0 a1 a2)) 5=false->ieq (zD (gOf a0 a1 a2)) 7=false->zdL 0 a0 a1 a2=zfW 0 a0 a1 a2:=by
   intro h5 h7;unfold zdL
   conv=>zeta
   rw[eW];exact ze5 h5 (ze5 h7 rfl)
  rcases tf (ieq (zD (gOf a0 a1 a2)) 1) with w1|w1
  .rcases tf (ieq (zD (gOf a0 a1 a2)) 2) with w2|w2
   .rcases tf (ieq (zD (gOf a0 a1 a2)) 6) with w6|w6
    .have h57:ieq (zD (gOf a0 a1 a2)) 5=false->ieq (zD (gOf a0 a1 a2)) 6=false->ieq (zD (gOf a0 a1 a2)) 7=true:=fun h5 h6=>zSa _ h0 w1 w2 q3 q4 h5 h6;have T:=zUG (N:=0) hs g2 g3 eW w6 h57;refine fin (R:=(znz a0 a1 a2 (gOf a0 a1 a2) (zD (gOf a0 a1 a2)),true)) ?_ (by rw[h0,w1,w2,q3,q4];rfl)
     unfold zdL
     conv=>zeta
     rw[eW];cases w5:ieq (zD (gOf a0 a1 a2)) 5
     .exact ze5 rfl (must (h57 w5 w6) T)
     .exact must rfl (must rfl T)
    .have e:zD (gOf a0 a1 a2)=6:=qG w6;refine fin (R:=(zgo a0 a1 a2 (zil (gOf a0 a1 a2) (gOf a0 a1 a2).Ctl.Traps (zD (gOf a0 a1 a2))),true)) ?_ ?_
     .rw [i6 (by rw[e];rfl) (by rw[e];rfl)]
      refine zQd (o:=[]) hs hh h0 ?_ hb;unfold stepped znQ;rw[w1,w2,q3,q4,(tr1 (gOf a0 a1 a2) (gOf a0 a1 a2).Ctl.Traps _ w6).2]
      show (zjs (zbc a0 a1) a2 _).Guests=_
      rw[zpN,eg]
     .rw [h0,w1,w2,q3,q4];unfold znz zik;rw[zPh (tr1 (gOf a0 a1 a2) (gOf a0 a1 a2).Ctl.Traps _ w6).2,zh7,w6];rfl
   .have e:zD (gOf a0 a1 a2)=2:=qG w2;refine fin (R:=(zgo a0 a1 a2 (plainly (gOf a0 a1 a2)),true)) ?_ (by rw[h0,w1,w2];rfl)
    rw[i6 (by rw[e];rfl) (by rw[e];rfl)]
    refine zQd (o:=[]) hs hh h0 ?_ hb;unfold stepped;rw[w1,w2]
    show (zjs (zbc a0 a1) a2 _).Guests=_
    rw[zpN,eg]
  .have e:zD (gOf a0 a1 a2)=1:=qG w1;refine fin (R:=(zgo a0 a1 a2 (interrupted (gOf a0 a1 a2)),true)) ?_ (by rw[h0,w1];rfl)
   rw[i6 (by rw[e];rfl) (by rw[e];rfl)]
   refine zQd (o:=[]) hs hh h0 ?_ hb;unfold stepped;rw[w1]
   show (zjs (zbc a0 a1) a2 _).Guests=_
   rw[zpN,eg]
theorem zn9:uV 69 zk7:=hF3 zE4 zq zfh zrg (zo []) zDK
def zRF:zK:=[(69,zk7)]++zOg
theorem zPT:zy zRF:=zf zn9 zE4
def zRG:zK:=[(143,zmF)]++zRF
theorem zPU:zy zRG:=zf zo9 zPT
def cnt (l:List Mon):List Nat:=l.map fun x=>x.Guests.length
theorem zTm {l l':List Mon}(h:zcR l'=zcR l):cnt l'=cnt l:=by
 have e:∀l:List Mon,cnt l=(zcR l).map List.length:=fun l=>by simp[cnt,zcR]
 rw[e,e,h]
theorem zHg {l:List Mon}{m:Int}{x:Mon}(hm:hasB m (ln l)=true)(hx:x.Guests.length=(ix l m mZ).Guests.length):cnt (up l m x)=cnt l:=by
 obtain ⟨k,rfl,hk⟩:=zcH (n:=l.length) hm;unfold cnt up;rw[List.map_set,kU,hx,zZ hk];have:=@uE _ (l.map fun x=>x.Guests.length) k (by simpa using hk)
 simpa using this
theorem zSo {l l':List Mon}(h:cnt l'=cnt l):l'.length=l.length:=by
 have:=congrArg List.length h;simpa [cnt] using this
theorem zTn {l l':List Mon}(h:cnt l'=cnt l)(m:Int):(ix l' m mZ).Guests.length=(ix l m mZ).Guests.length:=by
 have h2:(cnt l')[m.toNat]?=(cnt l)[m.toNat]?:=by rw[h]
 unfold cnt at h2;rw[qM,qM]at h2;unfold ix;simp only[kB];cases h3:l'[m.toNat]? <;> cases h4:l[m.toNat]? <;> rw [h3,h4]at h2<;>simp at h2 ⊢;exact h2
theorem zSU (h:Host)(m p:Int):(zdS h m p).Memory=h.Memory:=(zef (zdZ h m p) m p noSlot).2
theorem zST (h:Host):(zcy h).Memory=h.Memory:=by
 unfold zcy;cases ieq (ln (zbX h)) 0
 .rfl
 .exact zSU _ _ _
theorem zSS (m:List (List Int))(p:Int)(c:List Int):(zgw m p c).length=m.length:=by
 unfold zgw;cases hasB p (ln m)
 .rfl
 .cases zb3 c
  .rfl
  .simp
theorem zSQ (m:List (List Int))(p c v:Int):(zfT m p c v).length=m.length:=by
 unfold zfT;cases zf2 m p c
 .rfl
 .cases win v 0 99
  .rfl
  .simp
theorem zMP (h:Host)(m p:Int):(fetched h m p).Memory.length=h.Memory.length:=by
 unfold fetched zhb;rw[(zef _ _ _ _).2];unfold landing;rw[zSS,zST]
theorem zI1 (h:Host)(m p n:Int):(zia h m p n).Memory=h.Memory:=by
 unfold zia;cases ieq (wand .i64 n 2) 0
 .unfold opened;cases ieq (wand .i64 (ix (ix (zbp h m p).Mons m mZ).Outer p sZ).Rights 2) 0
  .rfl
  .exact (zef _ _ _ _).2
 .rfl
theorem zON (h:Host)(m p n:Int):(mended h m p n).Memory.length=h.Memory.length:=by
 unfold mended;cases ieq (ix (ix h.Mons m mZ).Outer p sZ).Page (-1)
 .exact congrArg List.length (zI1 _ _ _ _)
 .exact (congrArg List.length (zI1 _ _ _ _)).trans (zMP _ _ _)
theorem zOO (h:Host)(m g p:Int)(io:Bool):(zGN h m g p io).Memory=h.Memory:=by cases io<;>rfl
theorem zQo (h:Host)(b:List Entry)(m g page need q:Int)(io:Bool):(zfV h b m g page need q io).1.Memory.length=h.Memory.length:=by
 unfold zfV;cases zhW b m g page need
 .cases zdn h m g page need
  .exact congrArg List.length (zOO _ _ _ _ _)
  .exact (congrArg List.length (zOO _ _ _ _ _)).trans (zON h m q need)
 .rfl
theorem zSR (h:Host)(b:List Entry)(m g page need:Int)(io:Bool):(lookOf h b m g page need io).1.Memory.length=h.Memory.length:=by
 unfold lookOf;cases zcJ h m g page need
 .rfl
 .simp only [cT];rw[zQo];cases ieq need 2<;>rfl
structure Keep (h r:Host):Prop where
 shape:Shape r
 cnt:cnt r.Mons=cnt h.Mons
 mem:r.Memory.length=h.Memory.length
theorem Keep.has {h r:Host}(k:Keep h r){m:Int}(hm:hasB m (ln h.Mons)=true):hasB m (ln r.Mons)=true:=by
 rw[ln,zSo k.cnt];exact hm
theorem Keep.hg {h r:Host}(k:Keep h r){m g:Int}(hg:hasB g (ln (ix h.Mons m mZ).Guests)=true):hasB g (ln (ix r.Mons m mZ).Guests)=true:=by
 rw[ln,zTn k.cnt];exact hg
theorem Keep.trans {a b c:Host}(h:Keep a b)(k:Keep b c):Keep a c:=⟨k.shape,k.cnt.trans h.cnt,k.mem.trans h.mem⟩
theorem Keep.rfl' {h:Host}(hs:Shape h):Keep h h:=⟨hs,rfl,rfl⟩
theorem zjE {h:Host}{m g:Int}{x:Guest}(hs:Shape h)(hm:hasB m (ln h.Mons)=true)(hx:SmG x):Keep h (zgo h m g x):=⟨zNl hs hm hx,zHg hm (by simp),rfl⟩
theorem zuu {h:Host}{b:List Entry}{m g page need:Int}{io:Bool}(hs:SmH h)(hh:zbW h m g=true):Keep h (lookOf h b m g page need io).1:=by
 have k:=zLH (b:=b) (page:=page) (need:=need) (io:=io) hs hh;exact ⟨k.shape,zTm k.gs,zSR _ _ _ _ _ _ _⟩
theorem zOA {h:Host}{p c v:Int}(hs:Shape h):Keep h { h with Memory:=zfT h.Memory p c v }:=⟨zFv hs (zJC hs.1.1),rfl,zSQ _ _ _ _⟩
theorem zMH {h:Host}{m:Int}(hs:Shape h)(hm:hasB m (ln h.Mons)=true):Keep h (owned h m):=by
 obtain ⟨g1,g2⟩:=zbB hs hm;unfold owned;cases ilt (ix h.Mons m mZ).Own 1000000000
 .exact Keep.rfl' hs
 .exact ⟨zfS hs g1 g2,zHg hm rfl,rfl⟩
theorem zMG {h:Host}{m n:Int}(hs:Shape h)(hm:hasB m (ln h.Mons)=true):Keep h (zkh h m n):=by
 obtain ⟨g1,g2⟩:=zbB hs hm;unfold zkh;cases h3:ilt (ln (ix h.Mons m mZ).Outs) 40
 .exact Keep.rfl' hs
 .have h4:=qG h3;simp only[ln]at h4;refine ⟨zfS hs ⟨g1.1,g1.2.1,g1.2.2.1,g1.2.2.2.1,?_,g1.2.2.2.2.2⟩ g2,zHg hm rfl,rfl⟩;simp[ap];omega
theorem zOC {h:Host}{m g:Int}{x:Guest}{w:Int}(hs:Shape h)(hm:hasB m (ln h.Mons)=true)(hx:SmG x):Keep h (znz h m g x w):=by
 have k1:Keep h (zik h m x w):=by
  unfold zik;cases (cond (ine w 6) (ieq (zmv (ix h.Mons m mZ).Traps x.Ctl.Traps (zew w)) 2) false)
  .exact Keep.rfl' hs
  .exact zMH hs hm
 have k2:Keep (zik h m x w) (zpB (zik h m x w) m x w):=by
  unfold zpB;cases (cond (zim x.Ctl.Traps w) (ieq w 5) false)
  .exact Keep.rfl' k1.shape
  .exact zMG k1.shape (k1.has hm)
 have k3:=k1.trans k2;exact k3.trans (zjE k3.shape (k3.has hm) (zvF _ _ hx))
theorem zOB {h:Host}{m g:Int}(hs:SmH h)(hh:zbW h m g=true):Keep h (zbF h m g).1:=by
 obtain ⟨g1,g2,g3⟩:=zd7 hh;have hx:=zB2 hs g2 g3;have hS:=(zm6 hs g1).1;rw[zJH hh];unfold zB5;cases ieq (zD (gOf h m g)) 0
 .cases ieq (zD (gOf h m g)) 1
  .cases ieq (zD (gOf h m g)) 2
   .cases (cond (ieq (zD (gOf h m g)) 3) true (ieq (zD (gOf h m g)) 4))
    .exact zOC hS g2 hx
    .have k:=zuu (b:=h.Buffer) (page:=zdr (address (gOf h m g))) (need:=zft (ieq (zD (gOf h m g)) 4)) (io:=false) hs hh
     show Keep h (zlj (zlz h m g (gOf h m g) (ieq (zD (gOf h m g)) 4)) m g (gOf h m g) (ieq (zD (gOf h m g)) 4))
     unfold zlj;cases (zlz h m g (gOf h m g) (ieq (zD (gOf h m g)) 4)).2.2
     .exact k.trans (zjE k.shape (k.has g2) hx)
     .cases ieq (zD (gOf h m g)) 4
      .have k:=zuu (b:=h.Buffer) (page:=zdr (address (gOf h m g))) (need:=zft false) (io:=false) hs hh;exact k.trans (zjE k.shape (k.has g2) (zB1 _ hx))
      .have k:=zuu (b:=h.Buffer) (page:=zdr (address (gOf h m g))) (need:=zft true) (io:=false) hs hh;have k2:=zOA (p:=(zlz h m g (gOf h m g) true).2.1) (c:=zg6 (address (gOf h m g))) (v:=(gOf h m g).A) k.shape;have k3:=k.trans k2;exact k3.trans (zjE k3.shape (k3.has g2) (zjK hx))
   .exact zjE hS g2 (zxS hx)
  .exact zjE hS g2 (zLS hx)
 .exact Keep.rfl' hS
structure Same (h r:Host):Prop where
 sm:SmH r
 cnt:cnt r.Mons=cnt h.Mons
 mem:r.Memory.length=h.Memory.length
 st:r=h\/Shape r
theorem Same.rfl' {h:Host}(hs:SmH h):Same h h:=⟨hs,rfl,rfl,.inl rfl⟩
theorem Same.trans {a b c:Host}(h:Same a b)(k:Same b c):Same a c:=⟨k.sm,k.cnt.trans h.cnt,k.mem.trans h.mem,by
 rcases k.st with e|e
 .rw [e];exact h.st
 .exact .inr e⟩
theorem zFu {h:Host}(m g:Int)(hs:SmH h):Same h (zbF h m g).1:=by
 cases hh:zbW h m g
 .rw [zwf hh];exact Same.rfl' hs
 .have k:=zOB hs hh;exact ⟨k.shape.1,k.cnt,k.mem,.inr k.shape⟩
def zRH:zK:=[(174,zk6),(143,zmF)]++zMl
theorem zHw:zy zRH:=zf zn8 (zf zo9 zn1)
theorem zHe {a b:Bool}(h:(a=true)↔(b=true)):a=b:=by cases a<;>cases b<;>simp_all
@[simp] theorem zUZ (x:Int):win x 0 3=hasB x 4:=zHe (by rw[zdy];unfold hasB;rw[decide_eq_true_iff];omega)
@[simp] theorem zU0 (x:Int):win x 0 7=hasB x 8:=zHe (by rw[zdy];unfold hasB;rw[decide_eq_true_iff];omega)
def zjw (t:List Slot)(p:Int)(s:Slot):List Slot:=bif hasB p (ln t) then up t p s else t
@[simp] theorem zT5 (t:List Slot)(p:Int)(s:Slot):(zjw t p s).length=t.length:=by
 unfold zjw;cases hasB p (ln t)<;>simp
@[simp] abbrev zkc (t:List Slot)(p:Int)(s:Slot):Bool:=pc (t.length<=1048576)
@[simp] abbrev zh6 (t:List Slot)(p:Int)(s:Slot):List Slot:=zjw t p s
def zqX:Run:=rF3 (dS .slot) dI (dT .slot) fun b c d=>(zkc b c d,[aS .slot (zh6 b c d)])
def ztB (N:Nat)(a0:lS)(a1:Int)(a2:Slot):OA:=
 (oN (zdE a0) (oN (zbs a1 (ln a0)) (cond (zbA a1 (ln a0)) (oN (inb a1 (ln (zcI a0))) (share (up (zcI a0) a1 a2) (fun x4=>(some [(aS .slot x4)])))) (some [(aS .slot (zcI a0))]))))
theorem zDS (a0:List Slot)(a1:Int)(a2:Slot)(hc:zkc a0 a1 a2=true):∃N,ztB N a0 a1 a2=some [aS .slot (zh6 a0 a1 a2)]:=by
 have hs:=zB.1 hc;refine ⟨0,?_⟩;unfold ztB oN;refine mu (must rfl (br (fun _=>mu (shr ?_)) (fun _=>?_)))
 all_goals first|rfl|(simp only [*,zh6,zjw,cT,cF]<;>rfl)|simp_all[Ty.cells,zh6,zjw]
theorem zyB:uV 151 zqX:=kF3 zHw zq zl zn (zo []) zDS
def zeM (b:Bare)(g:Int):Bool:=bif zds b then hasB g (ln b.Guests) else false
theorem zKi {b:Bare}{g:Int}:(zeM b g=true)↔zds b=true/\hasB g (ln b.Guests)=true:=by
 unfold zeM;cases zds b<;>simp
def zRI:zK:=[(151,zqX)]++zRH
theorem zyh:zy zRI:=zf zyB zHw
theorem zQM {α:Type}{l:List α}{i:Int}{d:α}(h:hasB i (ln l)=true):up l i (ix l i d)=l:=by
 obtain ⟨k,rfl,hk⟩:=zcH (n:=l.length) h;unfold up;rw[zZ hk,kU];exact uE hk
def chg (b:Bare)(g:Int)(c:Bool)(x:Guest):Bare:=bif (cond (zeM b g) c false) then zjs b g x else b
def zfU (b:Bare)(g:Int)(c:Bool):Bool:=bif zeM b g then c else false
def zEm (p:Int)(s:Slot):Bool:=bif hasB p 4 then zdf s 8 else false
def zzm (x:Guest)(p:Int)(s:Slot):Guest:={ x with Written:=zjw x.Written p s }
def ziA (x:Guest)(p:Int):Guest:={ x with Live:=zjw x.Live p (zcp x.Written p) }
theorem zJA {x:Guest}(p:Int)(s:Slot)(h:SmG x):SmG (zzm x p s):=⟨h.1,by simpa [zzm] using h.2.1,h.2.2.1,h.2.2.2⟩
theorem zsp {x:Guest}(p:Int)(h:SmG x):SmG (ziA x p):=⟨h.1,h.2.1,by simpa [ziA] using h.2.2.1,h.2.2.2⟩
theorem zEn {b:Bare}{g:Int}{c:Bool}{x:Guest}(h:SmB b)(hx:SmG x):SmB (chg b g c x):=by
 unfold chg;cases (cond (zeM b g) c false)
 .exact h
 .exact zju h hx
@[simp] abbrev zlv (b:Bare)(g p:Int)(s:Slot):Bool:=pc (SmB b)
@[simp] abbrev zgP (b:Bare)(g p:Int)(s:Slot):Bare:=chg b g (zEm p s) (zzm (gAt b g) p s)
@[simp] abbrev zfL (b:Bare)(g p:Int)(s:Slot):Bool:=zfU b g (zEm p s)
def zmD:Run:=rF4 (dT .bare) dI dI (dT .slot) fun b c d e=>(zlv b c d e,[aT .bare (zgP b c d e),aB (zfL b c d e)])
def zwM (N:Nat)(a0:Bare)(a1 a2:Int)(a3:Slot):OA:=
 let y2:=(zcS a0);let y1:=({ (zdV a0 a1) with Written:=(zh6 (zdV a0 a1).Written a2 a3) }:Guest);let y0:=(aT .bare (zcG a0)); (oN (zbs a2 4) (cond (zbA a2 4) (oN (znc a3 8) (oN (zgR a0 a1) (oN (zh0 a0) (cond (nB (zc5 a0)) (oN y2 (some [y0,(aB false)])) (cond (nB (zeF a0 a1)) (oN y2 (some [y0,(aB false)])) (cond (nB (zkW a3 8)) (oN y2 (some [y0,(aB false)])) (oN (zkc (zdV a0 a1).Written a2 a3) (oN (cond (ieq a0.Pending a0.Pending) true false) (oN (ieq a1 a1) (oN (zby a0 a1 y1) (some [(aT .bare (zb9 a0 a1 y1)),(aB true)]))))))))))) (oN (zgR a0 a1) (oN (zh0 a0) (cond (nB (zc5 a0)) (oN y2 (some [y0,(aB false)])) (cond (nB (zeF a0 a1)) (oN y2 (some [y0,(aB false)])) (oN y2 (some [y0,(aB false)]))))))))
theorem zFW (a0:Bare)(a1 a2:Int)(a3:Slot)(hc:zlv a0 a1 a2 a3=true):∃N,zwM N a0 a1 a2 a3=some [aT .bare (zgP a0 a1 a2 a3),aB (zfL a0 a1 a2 a3)]:=by
 have hs:=zB.1 hc;have hx:=zma a1 hs;have ho:_/\_/\_/\_:=hx;have hy:=fun p s=>zJA (x:=gAt a0 a1) p s hx;unfold zzm at hy
 refine ⟨0,?_⟩;unfold zwM oN nB
 conv=>zeta
 refine must rfl (br (fun _=>must rfl (mu (must rfl (brN (fun _=>mu ?_) (fun _=>brN (fun _=>mu ?_) (fun _=>brN (fun _=>mu ?_) (fun _=>mu (mu (mu (mu ?_)))))))))) (fun _=>mu (must rfl (brN (fun _=>mu ?_) (fun _=>brN (fun _=>mu ?_) (fun _=>mu ?_))))))
 all_goals first|rfl|(simp only [*,zgP,zfL,chg,zfU,zEm,zzm,zeM,zfF,cT,cF]<;>rfl)|simp_all[Ty.cells,zgP,zfL,chg,zfU,zEm,zzm,zeM,zfF]
theorem zo7:uV 62 zmD:=kF4 zyh zq zl zn (zo []) zFW
@[simp] abbrev zmo (b:Bare)(g p:Int):Bool:=pc (SmB b)
@[simp] abbrev zdD (b:Bare)(g p:Int):Bare:=chg b g (hasB p 4) (ziA (gAt b g) p)
@[simp] abbrev zfb (b:Bare)(g p:Int):Bool:=zfU b g (hasB p 4)
def zkl:Run:=rF3 (dT .bare) dI dI fun b c d=>(zmo b c d,[aT .bare (zdD b c d),aB (zfb b c d)])
def zsx (N:Nat)(a0:Bare)(a1 a2:Int):OA:=
 let y2:=(aT .bare (zcG a0));let y1:=(zdV a0 a1);let y0:=({ y1 with Live:=(zh6 y1.Live a2 (zdR y1.Written a2)) }:Guest); (oN (zbs a2 4) (oN (zgR a0 a1) (oN (zh0 a0) (cond (nB (zc5 a0)) (oN (zcS a0) (some [y2,(aB false)])) (cond (nB (zeF a0 a1)) (oN (zcS a0) (some [y2,(aB false)])) (cond (nB (zbA a2 4)) (oN (zcS a0) (some [y2,(aB false)])) (oN (zez y1.Written a2) (oN (zkc y1.Live a2 (zdR y1.Written a2)) (oN (cond (ieq a0.Pending a0.Pending) true false) (oN (ieq a1 a1) (oN (zby a0 a1 y0) (some [(aT .bare (zb9 a0 a1 y0)),(aB true)]))))))))))))
theorem zBj (a0:Bare)(a1 a2:Int)(hc:zmo a0 a1 a2=true):∃N,zsx N a0 a1 a2=some [aT .bare (zdD a0 a1 a2),aB (zfb a0 a1 a2)]:=by
 have hs:=zB.1 hc;have hx:=zma a1 hs;have ho:_/\_/\_/\_:=hx;have hy:=fun p=>zsp (x:=gAt a0 a1) p hx;unfold ziA at hy
 refine ⟨0,?_⟩;unfold zsx oN nB
 conv=>zeta
 refine must rfl (mu (must rfl (brN (fun _=>mu ?_) (fun _=>brN (fun _=>mu ?_) (fun _=>brN (fun _=>mu ?_) (fun _=>must rfl (mu (mu (mu (mu ?_))))))))))
 all_goals first|rfl|(simp only [*,zdD,zfb,chg,zfU,ziA,zeM,zfF,cT,cF]<;>rfl)|simp_all[Ty.cells,zdD,zfb,chg,zfU,ziA,zeM,zfF]
theorem zmT:uV 64 zkl:=kF3 zyh zq zl zn (zo []) zBj
def zRJ:zK:=zRI
theorem zPV:zy zRJ:=zyh
def zRK:zK:=zRJ
theorem zPW:zy zRK:=zPV
end
end Go.Proofs.YtnnmbkjhakbicaaGreat.E
namespace Go.Proofs
open Go Go.Shelf
def Tryz.laysMul_ren : Go.Shelf.Ren := ⟨fun | 212 => 352 | 263 => 373 | 264 => 374 | n => n, fun | 46 => 209 | 51 => 266 | 146 => 267 | 53 => 269 | 148 => 270 | n => n, fun | n => n⟩
theorem Tryz.laysMul : Go.Proofs.Lays.n212 Tryz.prog Tryz.laysMul_ren := {
  mixed := by kernel_rfl
  f212 := Tryz.func352.trans (congrArg some (by kernel_rfl))
  f263 := Tryz.func373.trans (congrArg some (by kernel_rfl))
  f264 := Tryz.func374.trans (congrArg some (by kernel_rfl))
  t46 := Tryz.underlying209
  a46 := Tryz.isAgg209
  z46 := Tryz.sizeOf209
  v46 := Tryz.zeroValue209
  t51 := Tryz.underlying266
  a51 := Tryz.isAgg266
  z51 := Tryz.sizeOf266
  v51 := Tryz.zeroValue266
  t53 := Tryz.underlying269
  a53 := Tryz.isAgg269
  z53 := Tryz.sizeOf269
  v53 := Tryz.zeroValue269
  t146 := Tryz.underlying267
  a146 := Tryz.isAgg267
  z146 := Tryz.sizeOf267
  v146 := Tryz.zeroValue267
  t148 := Tryz.underlying270
  a148 := Tryz.isAgg270
  z148 := Tryz.sizeOf270
  v148 := Tryz.zeroValue270 }
end Go.Proofs
namespace Go.Proofs.YtnnmbkjhakbicaaGreat.E
open Go
set_option linter.unusedVariables false
set_option maxRecDepth 100000
set_option linter.unusedSimpArgs false
set_option linter.unusedSectionVars false
noncomputable section
section
open Go Go.RowKit Go.Proofs
section
variable {P:Program}
end
end
def zNG:zK:=[(62,zmD),(64,zkl)]++zRK
theorem ztY:zy zNG:=zf zo7 (zf zmT zPW)
theorem zPf {n:Int}(h:(ieq n 4||ieq n 8)=true):n=4\/n=8:=by
 rcases jS _ _ ▸ h with h|h
 .exact .inl (qG h)
 .exact .inr (qG h)
theorem zOL {n:Int}(h:(ieq n 8||ieq n 12)=true):n=8\/n=12:=by
 rcases jS _ _ ▸ h with h|h
 .exact .inl (qG h)
 .exact .inr (qG h)
@[simp] abbrev zf7 (n:Int):Bool:=ieq n 4||ieq n 8
@[simp] abbrev zeC (n:Int):List Slot:=List.replicate n.toNat ⟨-1,0⟩
def zk9:Run:=rF1 dI fun b=>(zf7 b,[aS .slot (zeC b)])
def zG4 (N:Nat)(a0:Int):OA:=
 (oN (zlC a0 0 24) (iter (σ:=(Int×(lS×Unit))) N (fun r2 s3=>(cond (igt s3.1 0) (oN zb5 (oN (few (ln (ap s3.2.1 [zbo]))) (r2 ((wsub .i64 s3.1 1),((ap s3.2.1 [zbo]),()))))) (some [(aS .slot s3.2.1)]))) ((zl2 a0 0 24),([],()))))
def zEy:FuncId->Nat->Option Tmpl:=zo [(144,0,{ n:=17,tm:=[(3,.sl 0 []),(4,ti)],lo:=[],ro:=[(0,.slot,true)] })]
theorem zD3 (a0:Int)(hc:zf7 a0=true):∃N,zG4 N a0=some [aS .slot (zeC a0)]:=by
 refine ⟨30,?_⟩;have h:a0=4\/a0=8:=zPf hc;rcases h with rfl|rfl<;>(change _=_;kernel_rfl)
theorem zob:uV 144 zk9:=kF1 ztY zq zl zn zEy zD3
@[simp] abbrev znl (n:Int):Bool:=ieq n 8||ieq n 12
@[simp] abbrev zhy (n:Int):List (List Int):=List.replicate n.toNat [0,0,0,0]
def zoB:Run:=rF1 dI fun b=>(znl b,[aS (.sl .int) (zhy b)])
def zL6 (N:Nat)(a0:Int):OA:=
 (oN (zlC a0 0 24) (iter (σ:=(Int×(lM×Unit))) N (fun r2 s3=>(cond (igt s3.1 0) (oN (cond (few 4) (ieq 4 4) false) (oN (few (ln (ap s3.2.1 [(rp 4 0)]))) (r2 ((wsub .i64 s3.1 1),((ap s3.2.1 [(rp 4 0)]),()))))) (some [(aS (.sl .int) s3.2.1)]))) ((zl2 a0 0 24),([],()))))
def zJY:FuncId->Nat->Option Tmpl:=zo [(58,0,{ n:=17,tm:=[(3,.sl 0 []),(4,ti)],lo:=[],ro:=[(0,(.sl .int),true)] })]
theorem zIA (a0:Int)(hc:znl a0=true):∃N,zL6 N a0=some [aS (.sl .int) (zhy a0)]:=by
 refine ⟨30,?_⟩;have h:a0=8\/a0=12:=zOL hc;rcases h with rfl|rfl<;>(change _=_;kernel_rfl)
theorem zqw:uV 58 zoB:=kF1 ztY zq zl zn zJY zIA
def zTv:zK:=[(144,zk9),(58,zoB)]++zNG
theorem zNH:zy zTv:=zf zob (zf zqw ztY)
def zl9:List Slot:=List.replicate 4 ⟨-1,0⟩
def zhi (p:List Ins):Guest:=⟨p,0,0,zl9,zl9,⟨0,0,false⟩,0,⟨0,0,false,0⟩,false,[]⟩
@[simp] abbrev zkt (p:List Ins):Bool:=pc (p.length<=1048576)
@[simp] abbrev zks (p:List Ins):Guest:=zhi p
def zq4:Run:=rF1 (dS .ins) fun b=>(zkt b,[aT .guest (zks b)])
def ztK (N:Nat)(a0:lI):OA:=
 (oN (few (ln (ap [] a0))) (oN (zf7 4) (oN (zf7 4) (some [(aT .guest (⟨(ap [] a0),0,0,(zeC 4),(zeC 4),⟨0,0,false⟩,0,⟨0,0,false,0⟩,false,[]⟩:Guest))]))))
theorem zD0 (a0:List Ins)(hc:zkt a0=true):∃N,ztK N a0=some [aT .guest (zks a0)]:=by
 have hs:=zB.1 hc;refine ⟨0,?_⟩;unfold ztK oN;refine mu (must rfl (must rfl ?_))
 first|rfl|(simp only [*,zks,zhi,zl9,cT,cF]<;>rfl)|simp_all[Ty.cells,zks,zhi,zl9]
theorem zyI:uV 90 zq4:=kF1 zNH zq zl zn (zo []) zD0
def zQn:List (List Int):=List.replicate 8 [0,0,0,0]
def zPn (ps:List (List Ins)):Prop:=ps.length<=1048576/\∀p∈ps,p.length<=1048576
theorem zFe {α β ρ:Type}(m:Nat)(f:α->β)(K:List β->Option ρ):∀(l:List α) (i:Nat) (acc:List β),acc.length+l.length<=2147483648 ->
 goL (fun (i:Nat) x acc k=>bif ilt (i:Int) (m:Int) then (cond (few (ln (ap acc [f x]))) (k (ap acc [f x])) none) else K acc) K l i acc=K (acc++(l.take (m-i)).map f)
 | [],i,acc,_=>by simp[goL]
 | x :: l,i,acc,hn=>by
  simp only[qW]at hn;have hf:few (ln (ap acc [f x]))=true:=zd5 (by simp[ap];omega)
  by_cases h:i<m
  .have hi:ilt (i:Int) (m:Int)=true:=qL (by omega)
   simp only[goL,hi,hf,cT];rw[zFe m f K l (i+1) (ap acc [f x]) (by simp[ap];omega)]
   rw[show m-i=m-(i+1)+1 by omega]
   simp[ap]
  .have hi:ilt (i:Int) (m:Int)=false:=qK (by omega)
   simp only[goL,hi,cF];rw[show m-i=0 by omega]
   simp
def zHo:zK:=[(62,zmD),(64,zkl),(58,zoB)]++zRG
theorem zEY:zy zHo:=zf zo7 (zf zmT (zf zqw zPU))
def zAo (x:Mon)(b:Bare):Mon:={ x with Guests:=b.Guests,Pending:=b.Pending }
def zhS (h:Host)(m:Int)(b:Bare):Host:={ h with Mons:=up h.Mons m (zAo (ix h.Mons m mZ) b) }
@[simp] abbrev zxO (h:Host)(m:Int)(b:Bare):Bool:=pc (hasB m (ln h.Mons)=true/\znX b.Guests)
@[simp] abbrev zFs (h:Host)(m:Int)(b:Bare):Host:=zhS h m b
theorem zJ9 {l:List Mon}{m:Int}(hm:hasB m (ln l)=true)(b:Bare):inb m (ln (up l m { ix l m mZ with Guests:=b.Guests }))=true /\
 up (up l m { ix l m mZ with Guests:=b.Guests }) m { ix (up l m { ix l m mZ with Guests:=b.Guests }) m mZ with Pending:=b.Pending }=up l m (zAo (ix l m mZ) b):=by
 obtain ⟨k,rfl,hk⟩:=zcH (n:=l.length) hm;refine ⟨zx (by rw[ln,zkE];exact hm),?_⟩
 rw[zst,zdp hk];rfl
def zmL:List AV->Option (Bool×List AV)
 | [.agg [.s (.sl .int) b,.s .mon c,.s .entry d,.s .entry e],.one (.i .i64 f),.agg [.s (.sl .int) g,.s .guest h,.s .int j,.i .i64 k]]=>some ((zxO (⟨b,c,d,e⟩:Host) f (⟨g,h,j,k⟩:Bare)),[aH (zFs (⟨b,c,d,e⟩:Host) f (⟨g,h,j,k⟩:Bare))])
 | _=>none
def zpH (N:Nat)(a0:Host)(a1:Int)(a2:Bare):OA:=
 (oN (zfj a2.Guests) (oN (inb a1 (ln a0.Mons)) (share (up a0.Mons a1 ({ (ix a0.Mons a1 zi) with Guests:=(zfR a2.Guests) }:Mon)) (fun x4=>(oN (inb a1 (ln x4)) (share (up x4 a1 ({ (ix x4 a1 zi) with Pending:=a2.Pending }:Mon)) (fun x5=>(some [(aH ({ a0 with Mons:=x5 }:Host))]))))))))
theorem zI8 (N:Nat)(a0:Host)(a1:Int)(a2:Bare):zMr (cQ zHo zkg zM8 zQK) (zo []) N 12 259 [true,true,true,true,false,false,false,false,false] [aH a0,aI a1,aT .bare a2]=zpH N a0 a1 a2:=by kernel_rfl
theorem zGp (a0:Host)(a1:Int)(a2:Bare)(hb:zbq big [aH a0,aI a1,aT .bare a2])(hc:zxO a0 a1 a2=true):∃N,zpH N a0 a1 a2=some [aH (zFs a0 a1 a2)]:=by
 obtain ⟨hm,hg⟩:=zB.1 hc;obtain ⟨h1,h2⟩:=zJ9 hm a2;refine ⟨0,?_⟩;unfold zpH oN;refine must (zbk ((zt1 _).2 hg)) (must (zx hm) (shr (must h1 (shr ?_))));have e:zfR a2.Guests=a2.Guests:=rfl;rw[e]
 show some [AV.agg (zbh { a0 with Mons:=_ })]=some [AV.agg (zbh { a0 with Mons:=_ })]
 rw[show zi=mZ from rfl,h2]
theorem zBc:zcP Tryz.prog 259 [true,true,true,true,false,false,false,false,false] none zmL:=by
 refine zCF (zb7 zEY zq zfh zrg) (zcO (by kernel_rfl)) (by kernel_rfl) ?_
 intro avs rs hl hr h;have hb:=zfX hr;unfold zmL at h;split at h
 .obtain ⟨hc,rfl⟩:=zhI h;obtain ⟨N,hN⟩:=zGp _ _ _ (by exact hb) hc
  exact ⟨_,N,12,(zI8 N _ _ _ ).trans hN⟩
 .cases h
def zNM:zK:=zHo
theorem zEZ:zy zNM:=zEY
def zUt:zdq:=[(259,([true,true,true,true,false,false,false,false,false],none,zmL))]++zQK
theorem zoP:zcQ zUt:=zli zrg (by
 intro x hx;simp only[qH,qU,or_false]at hx;rcases hx with rfl
 .exact zBc)
def zR4 (h:Host)(m:Int)(cB:Bool)(B:Bare)(ok:Bool)(o0 o1:Host->Ans):OA:=
 bif zed h then (cond (zfp h) (cond (cond (zeT h) false true) (some (o0 h)) (cond (zbs m (ln h.Mons)) (cond (cond (zbA m (ln h.Mons)) false true) (some (o0 h)) (cond (zh3 h m) (cond cB (cond ok (cond (zdh B.Guests) (cond (inb m (ln h.Mons)) (share (up h.Mons m { ix h.Mons m mZ with Guests:=B.Guests }) fun x=>(cond (inb m (ln x)) (share (up x m { ix x m mZ with Pending:=B.Pending }) fun y=>some (o1 { h with Mons:=y })) none)) none) none) (some (o1 h))) none) none)) none)) none) else none
theorem zdY {h:Host}{m:Int}:(zdJ h m=true)↔zbC h=true/\hasB m (ln h.Mons)=true:=by
 unfold zdJ;cases zbC h<;>simp
theorem zQv {h:Host}{m:Int}{cB:Bool}{B:Bare}{ok:Bool}{o0 o1:Host->Ans}(hs:SmH h)(hc:zdJ h m=true->cB=true)(hB:zdJ h m=true->SmB B)(hno:zdJ h m=true->ok=false->zhS h m B=h) :
 zR4 h m cB B ok o0 o1=some (cond (zdJ h m) (o1 (zhS h m B)) (o0 h)):=by
 have hS:zcn h:=(zbL h).2 hs;unfold zR4;refine must (zbk hS) (must rfl ?_);rw[show zeT h=zbC h from rfl]
 have hc':zbC h=true->hasB m (ln h.Mons)=true->cB=true:=fun a b=>hc (zdY.2 ⟨a,b⟩);have hB':zbC h=true->hasB m (ln h.Mons)=true->SmB B:=fun a b=>hB (zdY.2 ⟨a,b⟩);unfold zdJ at hno ⊢;cases h1:zbC h
 .rfl
 .refine ze5 rfl (must rfl ?_);rw[show zbA m (ln h.Mons)=hasB m (ln h.Mons) from rfl]
  rw[h1]at hno;cases h2:hasB m (ln h.Mons)
  .rfl
  .rw [h2]at hno;refine ze5 rfl (must (zbj hS) (must (hc' h1 h2) ?_));cases ok
   .simp only [cT,cF,hno rfl rfl]
   .obtain ⟨e1,e2⟩:=zJ9 h2 B;refine must rfl (must (zbk (hB' h1 h2).2.1) (must (zx h2) (shr (must e1 (shr ?_)))))
    show some (o1 { h with Mons:=_ })=_
    rw[e2];rfl
structure SameB (b c:Bare):Prop where
 g:b.Guests=c.Guests
 p:b.Pending=c.Pending
 o:zds b=zds c
theorem SameB.at {b c:Bare}(h:SameB b c)(g:Int):gAt b g=gAt c g:=by unfold gAt;rw[h.g]
theorem SameB.has {b c:Bare}(h:SameB b c)(g:Int):zeM b g=zeM c g:=by unfold zeM;rw[h.g,h.o]
theorem zNE {h:Host}{m:Int}(hm:hasB m (ln h.Mons)=true):zhS h m (zbc h m)=h:=by
 unfold zhS zAo zbc;rw[hm,cT];simp only;rw[zQM hm]
theorem zPv {b:Bare}{g:Int}{k:Bool}{x:Guest}(h:zfU b g k=false):chg b g k x=b:=by
 unfold chg;unfold zfU at h;rw[h];rfl
def zGR (h:Host)(m:Int)(b:Bare):Host:=bif zdJ h m then zhS h m b else h
def zGS (h:Host)(m:Int)(ok:Bool):Bool:=bif zdJ h m then ok else false
@[simp] abbrev zpU (b:Bare)(g p:Int)(s:Slot):Bare:=chg b g (zEm p s) (zzm (gAt b g) p s)
@[simp] abbrev zxm (b:Bare)(g p:Int)(s:Slot):Bool:=zfU b g (zEm p s)
theorem zLQ {b:Bare}(g p:Int)(s:Slot)(hb:SmB b):SmB (zpU b g p s):=zEn hb (zJA _ _ (zma _ hb))
theorem zQq {b:Bare}(g p:Int)(s:Slot)(hk:zxm b g p s=false):zpU b g p s=b:=zPv hk
@[simp] abbrev zlw (h:Host)(m:Int)(g p:Int)(s:Slot):Bool:=pc (zcn h)
@[simp] abbrev zcX (h:Host)(m:Int)(g p:Int)(s:Slot):Host:=zGR h m (zpU (zbc h m) g p s)
@[simp] abbrev zpO (h:Host)(m:Int)(g p:Int)(s:Slot):Bool:=zGS h m (zxm (zbc h m) g p s)
def zmE:Run:=rF5 dH dI dI dI (dT .slot) fun b c d e f=>(zlw b c d e f,[aH (zcX b c d e f),aB (zpO b c d e f)])
def zwQ (N:Nat)(a0:Host)(a1 a2 a3:Int)(a4:Slot):OA:=
 let y1:=(zY a0);let y0:=(zeU a0 a1);let y3:=(zgP y0 a2 a3 a4);let y2:=(zfL y0 a2 a3 a4); (oN (zed a0) (oN (zfp a0) (cond (nB (zeT a0)) (some [(aH y1),(aB false)]) (oN (zbs a1 (ln a0.Mons)) (cond (nB (zbA a1 (ln a0.Mons))) (some [(aH y1),(aB false)]) (oN (zh3 a0 a1) (oN (zlv y0 a2 a3 a4) (cond y2 (oN (zdh y3.Guests) (oN (inb a1 (ln y1.Mons)) (share (up y1.Mons a1 ({ (ix y1.Mons a1 zi) with Guests:=(zec y3.Guests) }:Mon)) (fun x6=>(oN (inb a1 (ln x6)) (share (up x6 a1 ({ (ix x6 a1 zi) with Pending:=y3.Pending }:Mon)) (fun x7=>(some [(aH ({ y1 with Mons:=x7 }:Host)),(aB y2)])))))))) (some [(aH y1),(aB y2)])))))))))
theorem zF0 (a0:Host)(a1 a2 a3:Int)(a4:Slot)(hc:zlw a0 a1 a2 a3 a4=true):∃N,zwQ N a0 a1 a2 a3 a4=some [aH (zcX a0 a1 a2 a3 a4),aB (zpO a0 a1 a2 a3 a4)]:=by
 have hs:=(zbL a0).1 (zB.1 hc);refine ⟨0,?_⟩;have key:=zQv (h:=a0) (m:=a1) (cB:=zlv (zbc a0 a1) a2 a3 a4) (B:=zgP (zbc a0 a1) a2 a3 a4) (ok:=zfL (zbc a0 a1) a2 a3 a4) (o0:=fun H=>[.agg (zbh H),.one (.b false)]) (o1:=fun H=>[.agg (zbh H),.one (.b (zfL (zbc a0 a1) a2 a3 a4))]) hs
  (fun h0=>zbk (zjt hs (zdY.1 h0).2)) (fun h0=>zLQ _ _ _ (zjt hs (zdY.1 h0).2)) (fun h0 hk=>(congrArg (zhS a0 a1) (zQq _ _ _ hk)).trans (zNE (zdY.1 h0).2))
 refine (show zwQ 0 a0 a1 a2 a3 a4=_ from key).trans ?_
 unfold zcX zpO zGR zGS;cases zdJ a0 a1<;>rfl
theorem zo8:uV 26 zmE:=kF5 zEZ zq zfh zoP (zo []) zF0
def zNN:zK:=[(26,zmE)]++zNM
theorem zNO:zy zNN:=zf zo8 zEZ
def zNP:zK:=zNN
theorem zE0:zy zNP:=zNO
theorem zNq {x:Mon}{b:Bare}(h:ziY x)(hb:znX b.Guests):ziY (zAo x b):=⟨h.1,h.2.1,h.2.2.1,hb,h.2.2.2.2⟩
theorem zzo {h:Host}{m:Int}{b:Bare}(hs:SmH h)(hm:hasB m (ln h.Mons)=true)(hb:znX b.Guests):SmH (zhS h m b) :=
 ⟨hs.1,zpA hs.2.1 (zNq (hs.2.1.2 _ (zbJ hm _)) hb),hs.2.2⟩
theorem zHc {h:Host}{m:Int}(b:Bare)(hm:hasB m (ln h.Mons)=true):hasB m (ln (zhS h m b).Mons)=true:=by
 show hasB m (ln (up h.Mons m _))=true
 rw[ln,zkE];exact hm
theorem zSh {h:Host}{m:Int}(b:Bare)(hm:hasB m (ln h.Mons)=true):ix (zhS h m b).Mons m mZ=zAo (ix h.Mons m mZ) b:=by
 obtain ⟨k,rfl,hk⟩:=zcH (n:=h.Mons.length) hm;exact zdp hk _ _
def zOp (h:Host)(m g p:Int):Host:=⟨h.Memory,up h.Mons m { ix h.Mons m mZ with Tables:=up (ix h.Mons m mZ).Tables g (zc4 (ix (ix h.Mons m mZ).Tables g kZ) p) },zcg h.Buffer (zen m g) p,zcg h.IoBuffer (zen m g) p⟩
def zOn (H:Host)(m g p:Int)(o:Host->Ans):OA:=
 bif inb m (ln H.Mons) then (bif inb m (ln H.Mons) then (bif inb g (ln (ix H.Mons m mZ).Tables) then (bif znk (ix (ix H.Mons m mZ).Tables g kZ) p then (bif inb g (ln (ix H.Mons m mZ).Tables) then (share (up H.Mons m { ix H.Mons m mZ with Tables:=up (ix H.Mons m mZ).Tables g (zc4 (ix (ix H.Mons m mZ).Tables g kZ) p) }) fun x =>
  (cond (zl5 m g) (cond (zgG H.Buffer (zen m g) p) (cond (zl5 m g) (cond (zgG H.IoBuffer (zen m g) p) (some (o ⟨H.Memory,x,zcg H.Buffer (zen m g) p,zcg H.IoBuffer (zen m g) p⟩)) none) none) none) none)) else none) else none) else none) else none) else none
theorem zOo {H:Host}{m g p:Int}{o:Host->Ans}(hs:SmH H)(hm:hasB m (ln H.Mons)=true)(hg:hasB g (ln (ix H.Mons m mZ).Tables)=true):zOn H m g p o=some (o (zOp H m g p)):=by
 have hx:=hs.2.1.2 _ (zbJ hm mZ);unfold zOn;exact must (zx hm) (must (zx hm) (must (zx hg) (must (zbk (hx.2.2.2.2.2.2 _ (zbJ hg _))) (must (zx hg) (shr (must rfl (must (zbk hs.2.2.1) (must rfl (must (zbk hs.2.2.2) rfl)))))))))
def zpc (h:Host)(m g p:Int):Host:=bif zdJ h m then (cond (zfU (zbc h m) g (hasB p 4)) (zOp (zhS h m (chg (zbc h m) g (hasB p 4) (ziA (gAt (zbc h m) g) p))) m g p) h) else h
@[simp] abbrev zi0 (h:Host)(m g p:Int):Bool:=pc (zcn h)
@[simp] abbrev zb1 (h:Host)(m g p:Int):Host:=zpc h m g p
@[simp] abbrev zmq (h:Host)(m g p:Int):Bool:=zGS h m (zfU (zbc h m) g (hasB p 4))
theorem zLc {h:Host}{m:Int}(hm:hasB m (ln h.Mons)=true):(zbc h m).Guests=(ix h.Mons m mZ).Guests:=by unfold zbc;rw[hm];rfl
theorem zE7 {h:Host}{m g:Int}{k:Bool}(hs:SmH h)(h0:zdJ h m=true)(b:Bare)(hk:zfU (zbc h m) g k=true):hasB g (ln (ix (zhS h m b).Mons m mZ).Tables)=true:=by
 obtain ⟨hh,hm⟩:=zdY.1 h0;rw[zSh b hm]
 show hasB g (ln (ix h.Mons m mZ).Tables)=true
 rw[ln,((zm6 hs hh).1.2 _ (zbJ hm mZ)).2.2.2,<- zLc hm];unfold zfU at hk;cases hb:zeM (zbc h m) g
 .rw [hb]at hk;cases hk
 .exact (zKi.1 hb).2
def zkm:Run:=rF4 dH dI dI dI fun b c d e=>(zi0 b c d e,[aH (zb1 b c d e),aB (zmq b c d e)])
def zsD (N:Nat)(a0:Host)(a1 a2 a3:Int):OA:=
 let y8:=(zlX a1 a2);let y5:=(zdD (zeU a0 a1) a2 a3);let y4:=(znI a1 a2);let y2:=(zY a0);let y6:=(inb a1 (ln y2.Mons));let y1:=(zfb (zeU a0 a1) a2 a3);let y0:=(ix y2.Mons a1 zi);let y9:=(ix y0.Tables a2 zcr); (oN (zed a0) (oN (zfp a0) (cond (nB (zeT a0)) (some [(aH y2),(aB false)]) (oN (zbs a1 (ln a0.Mons)) (cond (nB (zbA a1 (ln a0.Mons))) (some [(aH y2),(aB false)]) (oN (zh3 a0 a1) (oN (zmo (zeU a0 a1) a2 a3) (cond y1 (oN (zdh y5.Guests) (oN y6 (share (up y2.Mons a1 ({ y0 with Guests:=(zec y5.Guests) }:Mon)) (fun x5=>(oN (inb a1 (ln x5)) (share (up x5 a1 ({ (ix x5 a1 zi) with Pending:=y5.Pending }:Mon)) (fun x6=>let y3:=(ix x6 a1 zi);let y7:=(ix y3.Tables a2 zcr); (cond y1 (oN (inb a1 (ln x6)) (oN (inb a1 (ln x6)) (oN (inb a2 (ln y3.Tables)) (oN (zjZ y7 a3) (oN (inb a2 (ln y3.Tables)) (share (up x6 a1 ({ y3 with Tables:=(up y3.Tables a2 (zjf y7 a3)) }:Mon)) (fun x7=>(oN y8 (oN (zeq y2.Buffer y4 a3) (oN y8 (oN (zeq y2.IoBuffer y4 a3) (some [(aH (⟨y2.Memory,x7,(zeE y2.Buffer y4 a3),(zeE y2.IoBuffer y4 a3)⟩:Host)),(aB y1)])))))))))))) (some [(aH ({ y2 with Mons:=x6 }:Host)),(aB y1)]))))))))) (cond y1 (oN y6 (oN y6 (oN (inb a2 (ln y0.Tables)) (oN (zjZ y9 a3) (oN (inb a2 (ln y0.Tables)) (share (up y2.Mons a1 ({ y0 with Tables:=(up y0.Tables a2 (zjf y9 a3)) }:Mon)) (fun x5=>(oN y8 (oN (zeq y2.Buffer y4 a3) (oN y8 (oN (zeq y2.IoBuffer y4 a3) (some [(aH (⟨y2.Memory,x5,(zeE y2.Buffer y4 a3),(zeE y2.IoBuffer y4 a3)⟩:Host)),(aB y1)])))))))))))) (some [(aH y2),(aB y1)]))))))))))
theorem zBp (a0:Host)(a1 a2 a3:Int)(hb:zbq big [aH a0,aI a1,aI a2,aI a3])(hc:zi0 a0 a1 a2 a3=true):∃N,zsD N a0 a1 a2 a3=some [aH (zb1 a0 a1 a2 a3),aB (zmq a0 a1 a2 a3)]:=by
 have hs:=(zbL a0).1 (zB.1 hc);refine ⟨0,?_⟩;unfold zsD zb1 zmq zpc zGS oN nB
 conv=>zeta
 refine must hc (must rfl ?_);rw[show zeT a0=zbC a0 from rfl]
 cases hh:zbC a0
 .unfold zdJ;rw[hh];rfl
 .refine ze5 rfl (must rfl ?_);rw[show zbA a1 (ln a0.Mons)=hasB a1 (ln a0.Mons) from rfl]
  cases hm:hasB a1 (ln a0.Mons)
  .unfold zdJ;rw[hh,hm];rfl
  .have h0:zdJ a0 a1=true:=zdY.2 ⟨hh,hm⟩;have hv:=zjt hs hm;have hb:SmB (zdD (zbc a0 a1) a2 a3):=zEn hv (zsp _ (zma _ hv));rw[h0];refine ze5 rfl (must hc (must (zbk hv) ?_));rw[show zfb (zeU a0 a1) a2 a3=zfU (zbc a0 a1) a2 (hasB a3 4) from rfl]
   cases hf:zfU (zbc a0 a1) a2 (hasB a3 4)
   .rfl
   .obtain ⟨e1,e2⟩:=zJ9 hm (zdD (zbc a0 a1) a2 a3);refine must rfl (must (zbk hb.2.1) (must (zx hm) (shr (must e1 (shr ?_)))));rw[show zi=mZ from rfl,e2]
    have key:=zOo (H:=zhS a0 a1 (zdD (zbc a0 a1) a2 a3)) (m:=a1) (g:=a2) (p:=a3) (o:=fun H=>[.agg (zbh H),.one (.b true)]) (zzo hs hm hb.2.1) (zHc _ hm) (zE7 hs h0 _ hf);exact must rfl (show _=_ from key)
theorem zmU:uV 27 zkm:=hF4 zE0 zq zfh zoP (zo []) zBp
def zNQ:zK:=[(27,zkm)]++zNP
theorem zNR:zy zNQ:=zf zmU zE0
def zNS:zK:=zNQ
theorem zNT:zy zNS:=zNR
def zNU:zK:=zNS
theorem zNV:zy zNU:=zNT
def zNW:zK:=zNU
theorem zNX:zy zNW:=zNV
def zNY:zK:=[(144,zk9),(90,zq4)]++zNW
theorem zE1:zy zNY:=zf zob (zf zyI zNX)
def zqE:Kept:=⟨rp 4 false,zl9⟩
@[simp] abbrev zp4 (n:Int):Bool:=ieq n 4
@[simp] abbrev zpw (n:Int):Kept:=zqE
def ztb:Run:=rF1 dI fun b=>(zp4 b,[aT .kept (zpw b)])
def zKe (N:Nat)(a0:Int):OA:=
 let y0:=(ln (zeC a0)); (oN (zf7 a0) (oN (cond (few y0) (ieq y0 y0) false) (some [(aT .kept (⟨(rp y0 false),(zeC a0)⟩:Kept))])))
theorem zGe (a0:Int)(hc:zp4 a0=true):∃N,zKe N a0=some [aT .kept (zpw a0)]:=by
 refine ⟨0,?_⟩;have h:a0=4:=qG hc;subst h
 change _=_
 kernel_rfl
theorem zA1:uV 145 ztb:=kF1 zE1 zq zfh zoP (zo []) zGe
def zNZ:zK:=[(145,ztb)]++zNY
theorem zE2:zy zNZ:=zf zA1 zE1
def zJy:List Slot:=List.replicate 8 ⟨-1,0⟩
def ziK (ps:List (List Ins)):Mon:=⟨zJy,zQn,rp 8 false,(ps.take 2).map zhi,[],0,0,(ps.take 2).map (fun _=>zqE),0⟩
theorem zBC {α β γ ρ:Type}(m:Nat)(f:α->β)(g:α->γ)(K:List β×List γ->Option ρ):∀(l:List α) (i:Nat) (u:List β×List γ),u.1.length+l.length<=2147483648->u.2.length+l.length<=2147483648 ->
 goL (fun (i:Nat) x (u:List β×List γ) k=>bif ilt (i:Int) (m:Int) then (cond (few (ln (ap u.1 [f x]))) (cond (few (ln (ap u.2 [g x]))) (k (ap u.1 [f x],ap u.2 [g x])) none) none) else K u) K l i u=K (u.1++(l.take (m-i)).map f,u.2++(l.take (m-i)).map g)
 | [],i,u,_,_=>by simp[goL]
 | x :: l,i,u,h1,h2=>by
  simp only[qW]at h1 h2;have e1:few (ln (ap u.1 [f x]))=true:=zd5 (by simp[ap];omega)
  have e2:few (ln (ap u.2 [g x]))=true:=zd5 (by simp[ap];omega)
  by_cases h:i<m
  .have hi:ilt (i:Int) (m:Int)=true:=qL (by omega)
   simp only[goL,hi,e1,e2,cT];rw[zBC m f g K l (i+1) _ (by simp[ap];omega) (by simp[ap];omega)]
   rw[show m-i=m-(i+1)+1 by omega]
   simp[ap]
  .have hi:ilt (i:Int) (m:Int)=false:=qK (by omega)
   simp only[goL,hi,cF];rw[show m-i=0 by omega]
   simp
def zOP (u:List Guest×List Kept):OA:=some [AV.agg (Ty.cells .mon (⟨zJy,zQn,rp 8 false,u.1,[],0,0,u.2,0⟩:Mon))]
@[simp] abbrev znm (ps:List (List Ins)):Bool:=pc (zPn ps)
@[simp] abbrev zzg (ps:List (List Ins)):Mon:=ziK ps
def zvj:Run:=rF1 (dS (.sl .ins)) fun b=>(znm b,[aT .mon (zzg b)])
def zz7 (N:Nat)(a0:lP):OA:=
 (oN (zf7 8) (oN (znl 8) (oN (cond (few 8) (ieq 8 8) false) (iter (σ:=(Int×(Int×(Int×(Int×(Int×(Int×(Int×(lP×(lS×(lM×(lB×(lG×((List Int)×(lK×(lS×(lM×(lB×(lG×((List Int)×(lK×Unit))))))))))))))))))))) N (fun r2 s3=>let y8:=s3.2.2.2.2.2.2.2.2.2.2.2.2.2.2.1;let y7:=s3.2.2.2.2.2.2.2.2.2.2.2.2.2.2.2.1;let y6:=s3.2.2.2.2.2.2.2.2.2.2.2.2.2.2.2.2.1;let y5:=s3.2.2.2.2.2.2.2.2.2.2.2.2.2.2.2.2.2.1;let y4:=s3.2.2.2.2.2.2.2.2.2.2.2.2.2.2.2.2.2.2.1;let y3:=s3.2.2.2.2.2.2.2.1;let y2:=s3.2.2.2.2.2.2.2.2.2.2.2.2.2.2.2.2.2.2.2.1;let y1:=(ap y5 [(zks (ix y3 s3.1 []))]);let y0:=(aT .mon (⟨y8,y7,y6,y5,y4,s3.2.2.2.2.1,s3.2.2.2.2.2.1,y2,s3.2.2.2.2.2.2.1⟩:Mon)); (cond (ilt s3.1 (ln y3)) (cond (ilt s3.1 2) (oN (inb s3.1 (ln y3)) (oN (zkt (ix y3 s3.1 [])) (oN (few (ln y1)) (oN (zp4 4) (oN (few (ln (ap y2 [(zpw 4)]))) (r2 ((zG .i64 s3.1 1),(s3.2.1,(s3.2.2.1,(s3.2.2.2.1,(s3.2.2.2.2.1,(s3.2.2.2.2.2.1,(s3.2.2.2.2.2.2.1,(y3,(s3.2.2.2.2.2.2.2.2.1,(s3.2.2.2.2.2.2.2.2.2.1,(s3.2.2.2.2.2.2.2.2.2.2.1,(s3.2.2.2.2.2.2.2.2.2.2.2.1,(s3.2.2.2.2.2.2.2.2.2.2.2.2.1,(s3.2.2.2.2.2.2.2.2.2.2.2.2.2.1,(y8,(y7,(y6,(y1,(y4,((ap y2 [(zpw 4)]),())))))))))))))))))))))))))) (some [y0])) (some [y0]))) (0,(0,(0,(0,(0,(0,(0,(a0,([],([],([],([],([],([],((zeC 8),((zhy 8),((rp 8 false),([],([],([],()))))))))))))))))))))))))
def zJZ:FuncId->Nat->Option Tmpl:=zo [(59,0,{ n:=36,tm:=[(0,.sl 0 []),(2,.lp 0 0),(3,.lp 1 0),(4,ti)],lo:=[(0,[.sl 1 [],.sl 2 [],.sl 3 [],.sl 4 [],.sl 5 [],ti,ti,.sl 6 [],ti]),(1,[.sl 7 [],.sl 8 [],.sl 9 [],.sl 10 [],.sl 11 [],ti,ti,.sl 12 [],ti])],ro:=[(0,(.sl .ins),false),(1,.slot,true),(2,(.sl .int),true),(3,.bool,true),(4,.guest,true),(5,.int,true),(6,.kept,true),(7,.slot,true),(8,(.sl .int),true),(9,.bool,true),(10,.guest,true),(11,.int,true),(12,.kept,true)] })]
theorem zIB (a0:List lI)(hc:znm a0=true):∃N,zz7 N a0=some [aT .mon (zzg a0)]:=by
 have hs:=zB.1 hc;have hl:=zcA hs.1;refine zbK fun N hNN=>?_;unfold zz7 oN
 conv=>zeta
 refine must rfl (must rfl (must rfl ?_));refine (zQ a0 (fun i (t:lG×lK)=>((i:Int),0,0,0,0,0,0,a0,[],[],[],[],[],[],(zeC 8),(zhy 8),(rp 8 false),t.1,[],t.2,())) _ (fun i (x:List Ins) (u:List Guest×List Kept) κ=>bif ilt (i:Int) ((2:Nat):Int) then (cond (few (ln (ap u.1 [zhi x]))) (cond (few (ln (ap u.2 [zqE]))) (κ (ap u.1 [zhi x],ap u.2 [zqE])) none) none) else zOP u) (fun (t:lG×lK)=>(some [(.agg (Ty.cells .mon (⟨(zeC 8),(zhy 8),(rp 8 false),t.1,[],0,0,t.2,0⟩:Mon)))])) (fun i hi t rec=>?_) (fun t rec=>?_) _ ([],[]) (hNN hl.1)).trans ?_
 .simp only [zbl hi,zU hi,zZ hi,zN hi hl.1,cT];have hx:zkt a0[i]=true:=zbk (hs.2 _ (jR hi));simp only[hx,cT];rfl
 .simp only [zbe,cF]
 exact zBC 2 zhi (fun _=>zqE) zOP a0 0 ([],[]) (by simpa using hl.2) (by simpa using hl.2)
theorem zDg:uV 59 zvj:=kF1 zE2 zq zfh zoP zJZ zIB
def zN0:zK:=[(59,zvj)]++zNZ
theorem zE3:zy zN0:=zf zDg zE2
def zMO:List (List Int):=List.replicate 12 [0,0,0,0]
def znF (ps:List (List (List Ins))):Host:=⟨zMO,(ps.take 3).map ziK,[],[]⟩
def zL9 (ps:List (List (List Ins))):Prop:=ps.length<=1048576/\∀p∈ps,zPn p
@[simp] abbrev zp3 (ps:List (List (List Ins))):Bool:=pc (zL9 ps)
@[simp] abbrev zjI (ps:List (List (List Ins))):Host:=znF ps
def zLC (t:List Mon):OA:=some [AV.agg (zbh ⟨zMO,t,[],[]⟩)]
def zmH:Run:=rF1 (dS (.sl (.sl .ins))) fun b=>(zp3 b,[aH (zjI b)])
def zw3 (N:Nat)(a0:lQ):OA:=
 (oN (znl 12) (iter (σ:=(Int×(lQ×(lM×(lN×(lE×(lE×(lM×(lN×(lE×(lE×Unit))))))))))) N (fun r2 s3=>let y1:=(ap s3.2.2.2.2.2.2.2.1 [(zzg (ix s3.2.1 s3.1 []))]);let y0:=(aH (⟨s3.2.2.2.2.2.2.1,s3.2.2.2.2.2.2.2.1,s3.2.2.2.2.2.2.2.2.1,s3.2.2.2.2.2.2.2.2.2.1⟩:Host)); (cond (ilt s3.1 (ln s3.2.1)) (cond (ilt s3.1 3) (oN (inb s3.1 (ln s3.2.1)) (oN (znm (ix s3.2.1 s3.1 [])) (oN (few (ln y1)) (r2 ((zG .i64 s3.1 1),(s3.2.1,(s3.2.2.1,(s3.2.2.2.1,(s3.2.2.2.2.1,(s3.2.2.2.2.2.1,(s3.2.2.2.2.2.2.1,(y1,(s3.2.2.2.2.2.2.2.2.1,(s3.2.2.2.2.2.2.2.2.2.1,())))))))))))))) (some [y0])) (some [y0]))) (0,(a0,([],([],([],([],((zhy 12),([],([],([],()))))))))))))
def zGy:FuncId->Nat->Option Tmpl:=zo [(25,0,{ n:=28,tm:=[(0,.sl 0 []),(2,.lp 0 0),(3,.lp 1 0),(4,ti)],lo:=[(0,[.sl 1 [],.sl 2 [],.sl 3 [],.sl 4 []]),(1,[.sl 5 [],.sl 6 [],.sl 7 [],.sl 8 []])],ro:=[(0,(.sl (.sl .ins)),false),(1,(.sl .int),true),(2,.mon,true),(3,.entry,true),(4,.entry,true),(5,(.sl .int),true),(6,.mon,true),(7,.entry,true),(8,.entry,true)] })]
theorem zGd (a0:List lP)(hc:zp3 a0=true):∃N,zw3 N a0=some [aH (zjI a0)]:=by
 have hs:=zB.1 hc;have hl:=zcA hs.1;refine zbK fun N hNN=>?_;unfold zw3 oN
 conv=>zeta
 refine must rfl ?_;refine (zQ a0 (fun i (t:lN)=>((i:Int),a0,[],[],[],[],(zhy 12),t,[],[],())) _ (fun i (x:List lI) (t:List Mon) κ=>bif ilt (i:Int) ((3:Nat):Int) then (cond (few (ln (ap t [ziK x]))) (κ (ap t [ziK x])) none) else zLC t) (fun (t:lN)=>(some [(.agg (zbh (⟨(zhy 12),t,[],[]⟩:Host)))])) (fun i hi t rec=>?_) (fun t rec=>?_) _ ([]) (hNN hl.1)).trans ?_
 .simp only [zbl hi,zU hi,zZ hi,zN hi hl.1,cT];have hx:znm a0[i]=true:=zbk (hs.2 _ (jR hi));simp only[hx,cT];rfl
 .simp only [zbe,cF]
 exact zFe 3 ziK zLC a0 0 [] (by simpa using hl.2)
theorem zpb:uV 25 zmH:=kF1 zE3 zq zfh zoP zGy zGd
def zN1:zK:=[(25,zmH)]++zN0
theorem zN2:zy zN1:=zf zpb zE3
def zN3:zK:=zN1
theorem zN4:zy zN3:=zN2
def zN5:zK:=zN3
theorem zN6:zy zN5:=zN4
def zN7:zK:=zN5
theorem zN8:zy zN7:=zN6
theorem zQC {h:Host}{m:Int}{b:Bare}(hs:SmH h)(hb:zdJ h m=true->SmB b):SmH (zGR h m b):=by
 unfold zGR;cases h0:zdJ h m
 .exact hs
 .exact zzo hs (zdY.1 h0).2 (hb h0).2.1
theorem zFw {h:Host}{m g p:Int}(hs:SmH h):SmH (zpc h m g p):=by
 unfold zpc;cases h0:zdJ h m
 .exact hs
 .cases hk:zfU (zbc h m) g (hasB p 4)
  .exact hs
  .have hm:=(zdY.1 h0).2;have hv:=zjt hs hm;have hb:SmB (chg (zbc h m) g (hasB p 4) (ziA (gAt (zbc h m) g) p)):=zEn hv (zsp _ (zma _ hv));have h1:=zzo hs hm hb.2.1;have h2:=zHc (chg (zbc h m) g (hasB p 4) (ziA (gAt (zbc h m) g) p)) hm;have h3:=zE7 hs h0 (chg (zbc h m) g (hasB p 4) (ziA (gAt (zbc h m) g) p)) hk;have hx:=h1.2.1.2 _ (zbJ h2 mZ);simp only[cT];exact ⟨h1.1,zpA h1.2.1 ⟨hx.1,hx.2.1,hx.2.2.1,hx.2.2.2.1,hx.2.2.2.2.1,zEq hx.2.2.2.2.2 (zsq (hx.2.2.2.2.2.2 _ (zbJ h3 _)))⟩,jC (zrC _ _ _) h1.2.2.1,jC (zrC _ _ _) h1.2.2.2⟩
def zN9:zK:=zN7
theorem zOa:zy zN9:=zN8
def zOb:zK:=zN9
theorem zOc:zy zOb:=zOa
theorem zTa {ps:List (List (List Ins))}(h:zL9 ps):SmH (znF ps):=by
 refine ⟨show SmM zMO from ⟨by decide,by decide⟩,⟨?_,?_⟩,by simp[znF],by simp[znF]⟩
 .simp only [znF,uI,uU];omega
 .intro x hx;simp only[znF,q0]at hx;obtain ⟨p,hp,rfl⟩:=hx;have hps:=h.2 p (j7 hp);refine ⟨show zJy.length<=1048576 by decide,show SmM zQn from ⟨by decide,by decide⟩,show (rp 8 false).length<=1048576 by decide,⟨?_,?_⟩,by simp[ziK],⟨?_,?_⟩⟩
  .simp only [ziK,uI,uU];omega
  .intro y hy;simp only[ziK,q0]at hy;obtain ⟨q,hq,rfl⟩:=hy;exact ⟨hps.2 q (j7 hq),show zl9.length<=1048576 by decide,show zl9.length<=1048576 by decide,by simp[zhi]⟩
  .simp only [ziK,uI,uU];omega
  .intro y hy;simp only[ziK,q0]at hy;obtain ⟨q,hq,rfl⟩:=hy;exact ⟨show (rp 4 false).length<=1048576 by decide,show zl9.length<=1048576 by decide⟩
def zHp:zK:=zOb
theorem zKl:zy zHp:=zOc
theorem zhj {i n:Int}:hasB i n=true↔0<=i/\i<n:=by unfold hasB;exact decide_eq_true_iff
theorem zQb {x y:Int}:ieq x y=true↔x=y:=by simp[ieq]
theorem zTL {x y:Int}:ieq x y=false↔x≠y:=by simp[ieq]
theorem zpC {α:Type}(l:List α)(i:Int)(x:α):(up l i x).length=l.length:=by simp[up]
theorem zRT {α:Type}{l:List α}{i:Int}(h:hasB i (ln l)=true)(d:α):∃k:Nat,∃hk:k<l.length,i=(k:Int)/\ix l i d=l[k]:=by
 rw[zhj]at h;unfold ln at h;refine ⟨i.toNat,by omega,by omega,?_⟩
 simp[ix,List.getD,qB (show i.toNat<l.length by omega)]
theorem zMF {α:Type}{l:List α}{i:Int}(h:hasB i (ln l)=true)(d:α):ix l i d∈l:=by
 obtain ⟨k,hk,_,e⟩:=zRT h d;rw[e];exact jR hk
theorem zHV {α:Type}{l:List α}{i:Int}(h:hasB i (ln l)=true)(x d:α):ix (up l i x) i d=x:=by
 rw[zhj]at h;unfold ln at h;simp[ix,up,List.getD,show i.toNat<l.length by omega]
theorem zHW {α:Type}{l:List α}{i j:Int}(hi:0<=i)(hj:0<=j)(h:i≠j)(x d:α):ix (up l i x) j d=ix l j d:=by
 have:i.toNat≠j.toNat:=by omega
 simp[ix,up,List.getD,jD,this]
def cPg (x:Mon)(q:Int):Nat:=x.Outer.countP fun s=>ieq s.Page q
def zCt (l:List Mon)(q:Int):Nat:=(l.map fun x=>cPg x q).sum
theorem zT0 {l:List Mon}{m:Int}(h:hasB m (ln l)=true)(x:Mon)(q:Int):zCt (up l m x) q+cPg (ix l m mZ) q=zCt l q+cPg x q:=by
 obtain ⟨k,hk,rfl,e⟩:=zRT h mZ;rw[e]
 clear h e
 unfold up;simp only[kU]
 induction l generalizing k with
 | nil=>simp at hk
 | cons y l ih =>
  cases k with
  | zero=>simp[zCt];omega
  | succ k =>
   have:=ih k (by simpa using hk)
   simp[zCt] at this ⊢;omega
def SOk (s:Slot):Prop:=s=noSlot\/(0<=s.Page/\s.Page<=11/\1<=s.Rights/\s.Rights<=3)
theorem SOk.none {s:Slot}(h:SOk s)(hp:s.Page = -1):s=noSlot:=by
 rcases h with h|h
 .exact h
 .omega
structure MOk (x:Mon):Prop where
 g1:1<=x.Guests.length
 g2:x.Guests.length<=2
 gt:x.Tables.length=x.Guests.length
 o8:x.Outer.length=8
 sl:∀s∈x.Outer,SOk s
 u8:x.Out.length=8
 d8:x.Dirty.length=8
 outs:x.Outs.length<=40
 pend:zdK x.Pending=true
 tr:win x.Traps 0 3=true
 own:win x.Own 0 1000000000=true
 gs:∀g∈x.Guests,zcl g=true
 fit:∀p,hasB p 8=true->znM (ix x.Outer p sZ) (ix x.Out p [])=true
structure HOk (h:Host):Prop where
 m12:h.Memory.length=12
 pgs:∀c∈h.Memory,zb3 c=true
 n1:1<=h.Mons.length
 n3:h.Mons.length<=3
 b1:zlq h.Buffer=true
 b2:zlq h.IoBuffer=true
 mons:∀x∈h.Mons,MOk x
 uq:∀q,0<=q->zCt h.Mons q<=1
theorem HOk.mon {h:Host}(H:HOk h){m:Int}(hm:hasB m (ln h.Mons)=true):MOk (ix h.Mons m mZ):=H.mons _ (zMF hm _)
theorem MOk.hasO {x:Mon}(H:MOk x){p:Int}(hp:hasB p 8=true):hasB p (ln x.Outer)=true:=by rw[ln,H.o8];exact hp
theorem MOk.hasU {x:Mon}(H:MOk x){p:Int}(hp:hasB p 8=true):hasB p (ln x.Out)=true:=by rw[ln,H.u8];exact hp
theorem MOk.slot {x:Mon}(H:MOk x){p:Int}(hp:hasB p 8=true):SOk (ix x.Outer p sZ):=H.sl _ (zMF (H.hasO hp) _)
theorem HOk.up {h:Host}(H:HOk h){m:Int}(hm:hasB m (ln h.Mons)=true){x:Mon}(hx:MOk x){h':Host}(e:h'.Mons=up h.Mons m x)(m12:h'.Memory.length=12)(pgs:∀c∈h'.Memory,zb3 c=true)(b1:zlq h'.Buffer=true)(b2:zlq h'.IoBuffer=true)(uq:∀q,0<=q->cPg x q<=cPg (ix h.Mons m mZ) q\/zCt h.Mons q=0/\cPg x q<=1):HOk h':=by
 refine ⟨m12,pgs,by rw[e,zpC];exact H.n1,by rw[e,zpC];exact H.n3,b1,b2,fun y hy=>?_,fun q hq=>?_⟩
 .rw [e]at hy;unfold E.up at hy;rcases jP hy with h|h
  .exact H.mons y h
  .rw [h];exact hx
 .rw [e];have h1:=zT0 hm x q;have h2:=H.uq q hq;have h3:=uq q hq;omega
structure KOk (k:Kept) (inner outer:List Slot):Prop where
 l1:k.Known.length=inner.length
 l2:k.Slots.length=inner.length
 at':∀i,hasB i (ln inner)=true->ix k.Slots i sZ=bif ix k.Known i false then zcV (ix inner i sZ) outer else noSlot
def TOk (x:Mon):Prop:=∀g,hasB g (ln x.Guests)=true->KOk (ix x.Tables g kZ) (ix x.Guests g gZ).Live x.Outer
structure Rt (h:Host):Prop where
 t:∀m,hasB m (ln h.Mons)=true->TOk (ix h.Mons m mZ)
 e1:∀e∈h.Buffer,zhV h e=true
 e2:∀e∈h.IoBuffer,zhV h e=true
structure Safe (h:Host):Prop where
 ok:HOk h
 rt:Rt h
structure Chg (x x':Mon) (p:Int) (s:Slot) (c:List Int):Prop where
 o:x'.Outer=up x.Outer p s
 u:x'.Out=up x.Out p c
 g:x'.Guests=x.Guests
 t:x'.Tables.length=x.Tables.length
 d:x'.Dirty.length=x.Dirty.length
 a1:x'.Outs=x.Outs
 a2:x'.Pending=x.Pending
 a3:x'.Traps=x.Traps
 a4:x'.Own=x.Own
theorem MOk.chg {x x':Mon}(H:MOk x){p:Int}(hp:hasB p 8=true){s:Slot}{c:List Int}(k:Chg x x' p s c)(hs:SOk s)(hf:znM s c=true):MOk x':=by
 refine ⟨by rw[k.g];exact H.g1,by rw[k.g];exact H.g2,by rw[k.t,k.g];exact H.gt,by rw[k.o,zpC];exact H.o8,fun y hy=>?_,by rw[k.u,zpC];exact H.u8,by rw[k.d];exact H.d8,by rw[k.a1];exact H.outs,by rw[k.a2];exact H.pend,by rw[k.a3];exact H.tr,by rw[k.a4];exact H.own,by rw[k.g];exact H.gs,fun q hq=>?_⟩
 .rw [k.o]at hy;rcases jP hy with h|h
  .exact H.sl y h
  .rw [h];exact hs
 .rw [k.o,k.u]
  by_cases e:p=q
  .subst e;rw[zHV (H.hasO hp),zHV (H.hasU hp)];exact hf
  .rw [zHW (zhj.1 hp).1 (zhj.1 hq).1 e,zHW (zhj.1 hp).1 (zhj.1 hq).1 e];exact H.fit q hq
structure Like (h r:Host):Prop where
 len:r.Mons.length=h.Mons.length
 g:∀i,hasB i (ln h.Mons)=true->(ix r.Mons i mZ).Guests=(ix h.Mons i mZ).Guests
 o:∀i,hasB i (ln h.Mons)=true->(ix r.Mons i mZ).Outs=(ix h.Mons i mZ).Outs
 p:∀i,hasB i (ln h.Mons)=true->(ix r.Mons i mZ).Pending=(ix h.Mons i mZ).Pending
 tr:∀i,hasB i (ln h.Mons)=true->(ix r.Mons i mZ).Traps=(ix h.Mons i mZ).Traps
 ow:∀i,hasB i (ln h.Mons)=true->(ix r.Mons i mZ).Own=(ix h.Mons i mZ).Own
 pg:∀i k,hasB i (ln h.Mons)=true->hasB k 8=true->zdd r i k=zdd h i k
theorem Like.refl (h:Host):Like h h:=⟨rfl,fun _ _=>rfl,fun _ _=>rfl,fun _ _=>rfl,fun _ _=>rfl,fun _ _=>rfl,fun _ _ _ _=>rfl⟩
theorem Like.trans {a b c:Host}(x:Like a b)(y:Like b c):Like a c:=by
 have k:∀i,hasB i (ln a.Mons)=true->hasB i (ln b.Mons)=true:=fun i hi=>by unfold ln at hi ⊢;rwa [x.len]
 exact ⟨y.len.trans x.len,fun i h=>(y.g i (k i h)).trans (x.g i h),fun i h=>(y.o i (k i h)).trans (x.o i h),fun i h=>(y.p i (k i h)).trans (x.p i h),fun i h=>(y.tr i (k i h)).trans (x.tr i h),fun i h=>(y.ow i (k i h)).trans (x.ow i h),fun i q h hq=>(y.pg i q (k i h) hq).trans (x.pg i q h hq)⟩
theorem Like.has {h r:Host}(k:Like h r){i:Int}:hasB i (ln r.Mons)=hasB i (ln h.Mons):=by unfold ln;rw[k.len]
theorem zxs {h r:Host}{m:Int}:∀(n i:Nat),(∀k:Nat,i<=k->k<i+n->zdd r m (k:Int)=zdd h m (k:Int))->ze0 r m n i=ze0 h m n i
 | 0,i,_=>rfl
 | n+1,i,h=>by
  rw[ze0,ze0,h i (by omega) (by omega),zxs n (i+1) (fun k h1 h2=>h k (by omega) (by omega))]
theorem Like.seen {h r:Host}(k:Like h r)(m:Int):zbc r m=zbc h m:=by
 unfold zbc;rw[k.has];cases hm:hasB m (ln h.Mons) with
 | false=>rfl
 | true =>
  simp only[cond_true];rw[k.g m hm,k.o m hm,k.p m hm,zxs 8 0 (fun j h1 h2=>k.pg m j hm (zhj.2 (by omega)))]
structure Op (h r:Host):Prop where
 ok:HOk r
 like:Like h r
 rt:Rt h->Rt r
theorem Op.refl {h:Host}(H:HOk h):Op h h:=⟨H,Like.refl h,id⟩
theorem Op.trans {a b c:Host}(x:Op a b)(y:Op b c):Op a c:=⟨y.ok,x.like.trans y.like,fun h=>y.rt (x.rt h)⟩
theorem Op.safe {h r:Host}(k:Op h r)(s:Safe h):Safe r:=⟨k.ok,k.rt s.rt⟩
structure But (h r:Host) (m p:Int):Prop where
 ne:∀i k,hasB i (ln h.Mons)=true->hasB k 8=true->¬ (i=m/\k=p)->ix (ix r.Mons i mZ).Outer k sZ=ix (ix h.Mons i mZ).Outer k sZ
structure Roomy (h r:Host):Prop where
 op:Op h r
 free:zbX r≠[]
 sl:∀i k,hasB i (ln h.Mons)=true->hasB k 8=true->ix (ix r.Mons i mZ).Outer k sZ=ix (ix h.Mons i mZ).Outer k sZ\/ix (ix r.Mons i mZ).Outer k sZ=noSlot
 dirt:∀i,(ix r.Mons i mZ).Dirty=(ix h.Mons i mZ).Dirty
structure Mark (x y:Mon):Prop where
 o:y.Outer=x.Outer
 u:y.Out=x.Out
 g:y.Guests=x.Guests
 t:y.Tables=x.Tables
 d:y.Dirty.length=x.Dirty.length
 a1:y.Outs=x.Outs
 a2:y.Pending=x.Pending
 a3:y.Traps=x.Traps
 a4:y.Own=x.Own
structure Mended (h r:Host) (m p n:Int):Prop where
 op:Op h r
 inn:(ix (ix r.Mons m mZ).Outer p sZ).Page≠-1
 ri:ieq (wand .i64 n 2) 0=false->(ix (ix r.Mons m mZ).Outer p sZ).Rights=3
 dt:ieq (wand .i64 n 2) 0=false->ix (ix r.Mons m mZ).Dirty p false=true
 d0:ieq (wand .i64 n 2) 0=true->(ix r.Mons m mZ).Dirty=(ix h.Mons m mZ).Dirty
 dk:∀k,hasB k 8=true->k≠p->ix (ix r.Mons m mZ).Dirty k false=ix (ix h.Mons m mZ).Dirty k false
 dm:∀i,hasB i (ln h.Mons)=true->i≠m->(ix r.Mons i mZ).Dirty=(ix h.Mons i mZ).Dirty
structure KeepP (x y:Mon):Prop where
 o:y.Outer=x.Outer
 u:y.Out=x.Out
structure GOk (x:Guest):Prop where
 prog:ze2 x.Prog=true
 a:win x.A 0 99=true
 pc:win x.Pc 0 12=true
 w:zcf x.Written 4 8=true
 l:zcf x.Live 4 8=true
 ctl:zoZ x.Ctl=true
 pend:zdK x.Pending=true
 ex:zlR x.Exit=true
 seen:ile (ln x.Seen) 40=true
theorem zSJ {x:Guest}:zcl x=true↔GOk x:=by
 unfold zcl;simp only[qD];exact ⟨fun ⟨a,b,c,d,e,f,g,h,i⟩=>⟨a,b,c,d,e,f,g,h,i⟩,fun ⟨a,b,c,d,e,f,g,h,i⟩=>⟨a,b,c,d,e,f,g,h,i⟩⟩
theorem HOk.guest {h:Host}(H:HOk h){m g:Int}(hm:hasB m (ln h.Mons)=true)(hg:hasB g (ln (ix h.Mons m mZ).Guests)=true):GOk (ix (ix h.Mons m mZ).Guests g gZ):=zSJ.1 ((H.mon hm).gs _ (zMF hg _))
structure Walked (l:List Slot) (p n q:Int):Prop where
 hp:hasB p (ln l)=true
 pg:(ix l p sZ).Page=q
 q8:hasB q 8=true
 en:enough (ix l p sZ).Rights n=true
structure Looked (h r:Host) (m g page need q host:Int):Prop where
 op:Op h r
 inn:(ix (ix r.Mons m mZ).Outer q sZ).Page=host
 ne:host≠-1
 en:enough (zcV (ix (ix (ix h.Mons m mZ).Guests g gZ).Live page sZ) (ix r.Mons m mZ).Outer).Rights need=true
 cp:(zcV (ix (ix (ix h.Mons m mZ).Guests g gZ).Live page sZ) (ix r.Mons m mZ).Outer).Page=host
 dk:∀k,hasB k 8=true->k≠q->ix (ix r.Mons m mZ).Dirty k false=ix (ix h.Mons m mZ).Dirty k false
 dq:need=2->ix (ix r.Mons m mZ).Dirty q false=true
 d1:need=1->(ix r.Mons m mZ).Dirty=(ix h.Mons m mZ).Dirty
 dm:∀i,hasB i (ln h.Mons)=true->i≠m->(ix r.Mons i mZ).Dirty=(ix h.Mons i mZ).Dirty
structure GKeep (x y:Guest):Prop where
 ok:GOk y
 live:y.Live=x.Live
structure SimT (h r:Host) (m:Int) (f:Bare->Bare):Prop where
 safe:Safe r
 seen:∀i,zbc r i=bif ieq i m then f (zbc h i) else zbc h i
 len:r.Mons.length=h.Mons.length
theorem SimT.trans {a b c:Host}{m:Int}{f g:Bare->Bare}(x:SimT a b m f)(y:SimT b c m g):SimT a c m (fun t=>g (f t)):=by
 refine ⟨y.safe,fun i=>?_,y.len.trans x.len⟩;rw[y.seen i,x.seen i];cases ieq i m<;>rfl
theorem SimT.congr {h r:Host}{m:Int}{f g:Bare->Bare}(x:SimT h r m f)(e:f (zbc h m)=g (zbc h m)):SimT h r m g:=by
 refine ⟨x.safe,fun i=>?_,x.len⟩;rw[x.seen i]
 by_cases hi:i=m
 .subst hi;rw[zQb.2 rfl,cond_true,cond_true,e]
 .rw [zTL.2 hi];rfl
theorem SimT.has {h r:Host}{m:Int}{f:Bare->Bare}(x:SimT h r m f)(i:Int):hasB i (ln r.Mons)=hasB i (ln h.Mons):=by unfold ln;rw[x.len]
theorem SimT.refl {h:Host}(S:Safe h)(m:Int):SimT h h m id:=⟨S,fun i=>by cases ieq i m<;>rfl,rfl⟩
structure BackOk (b c:Bare):Prop where
 m:c.Memory=b.Memory
 o:c.Outs=b.Outs
 n:c.Guests.length=b.Guests.length
 g:∀j,hasB j (ln b.Guests)=true->GKeep (ix b.Guests j gZ) (ix c.Guests j gZ)
 p:zdK b.Pending=true->zdK c.Pending=true
def zSf (h:Host):List Bare:=(List.range h.Mons.length).map fun (i:Nat)=>zbc h (i:Int)
structure Live (u:Host×List Told) (v:List Bare×List Told):Prop where
 safe:Safe u.1
 seen:zSf u.1=v.1
def zRM:zK:=[(71,zpZ),(72,zkp)]++zja
theorem zPZ:zy zRM:=zf zsR (zf zkR zdz)
def zRN:zK:=zRM
theorem zP0:zy zRN:=zPZ
def zRO:zK:=zRN
theorem zP1:zy zRO:=zP0
def zRP:zK:=zRO
theorem zP2:zy zRP:=zP1
def zUe:zK:=zRP
theorem zP3:zy zUe:=zP2
@[simp] abbrev zsh (h:Host)(m:Int):Bool:=pc (zcn h)
@[simp] abbrev zld (h:Host)(m:Int):Bare:=zbc h m
def zvp:Run:=rF2 dH dI fun b c=>(zsh b c,[aT .bare (zld b c)])
def zAd (N:Nat)(a0:Host)(a1:Int):OA:=
 (oN (zvA a0 a1) (cond (nB (zl3 a0 a1)) (some [(aT .bare (⟨[],[],[],0⟩:Bare))]) (iter (σ:=(Int×(Int×(Int×(Int×(lM×(lN×(lE×(lE×(lM×(lG×((List Int)×(lM×(lG×((List Int)×Unit))))))))))))))) N (fun r3 s4=>let y3:=s4.2.2.2.2.2.2.2.2.2.2.2.2.1;let y2:=s4.2.2.2.2.2.2.2.2.2.2.2.2.2.1;let y0:=(⟨s4.2.2.2.2.1,s4.2.2.2.2.2.1,s4.2.2.2.2.2.2.1,s4.2.2.2.2.2.2.2.1⟩:Host);let y1:=(ap s4.2.2.2.2.2.2.2.2.2.2.2.1 [(zlc y0 s4.1 s4.2.1)]); (cond (ilt s4.2.1 8) (oN (znn y0 s4.1 s4.2.1) (oN (few (ln y1)) (r3 (s4.1,((zG .i64 s4.2.1 1),(s4.2.2.1,(s4.2.2.2.1,(s4.2.2.2.2.1,(s4.2.2.2.2.2.1,(s4.2.2.2.2.2.2.1,(s4.2.2.2.2.2.2.2.1,(s4.2.2.2.2.2.2.2.2.1,(s4.2.2.2.2.2.2.2.2.2.1,(s4.2.2.2.2.2.2.2.2.2.2.1,(y1,(y3,(y2,()))))))))))))))))) (some [(aT .bare (⟨s4.2.2.2.2.2.2.2.2.2.2.2.1,y3,y2,s4.2.2.2.1⟩:Bare))]))) (a1,(0,(0,((zdl a0 a1).Pending,(a0.Memory,(a0.Mons,(a0.Buffer,(a0.IoBuffer,([],([],([],([],((zdl a0 a1).Guests,((zdl a0 a1).Outs,())))))))))))))))))
def zJ2:FuncId->Nat->Option Tmpl:=zo [(31,0,{ n:=39,tm:=[(1,ti),(2,.lp 0 0),(4,.lp 1 0),(7,.lp 2 0),(8,ti)],lo:=[(0,[.sl 0 [],.sl 1 [],.sl 2 [],.sl 3 []]),(1,[.sl 4 [],.sl 5 [],.sl 6 [],ti]),(2,[.sl 7 [],.sl 8 [],.sl 9 [],ti])],ro:=[(0,(.sl .int),false),(1,.mon,false),(2,.entry,false),(3,.entry,false),(4,(.sl .int),true),(5,.guest,true),(6,.int,true),(7,(.sl .int),true),(8,.guest,true),(9,.int,true)] })]
theorem zII (a0:Host)(a1:Int)(hc:zsh a0 a1=true):∃N,zAd N a0 a1=some [aT .bare (zld a0 a1)]:=by
 have hs:=zB.1 hc;refine zbK fun N hNN=>?_;unfold zAd zld zbc oN nB
 conv=>zeta
 refine must (zbj hs) ?_;rw[show zl3 a0 a1=hasB a1 (ln a0.Mons) from rfl]
 cases hh:hasB a1 (ln a0.Mons)
 .rfl
 .refine ze5 rfl ?_;refine (zom 8 (fun i (t:lM)=>(a1,(i:Int),0,(zdl a0 a1).Pending,a0.Memory,a0.Mons,a0.Buffer,a0.IoBuffer,[],[],[],t,(zdl a0 a1).Guests,(zdl a0 a1).Outs,())) _ (fun i (acc:List (List Int)) κ=>bif few (ln (ap acc [zdd a0 a1 (i:Int)])) then κ (ap acc [zdd a0 a1 (i:Int)]) else none) (fun (t:lM)=>(some [(.agg (Ty.cells .bare (⟨t,(zdl a0 a1).Guests,(zdl a0 a1).Outs,(zdl a0 a1).Pending⟩:Bare)))])) (fun i hi t rec=>?_) (fun t rec=>?_) _ ([]) (hNN (by decide))).trans ?_
  .simp only [show ilt (i:Int) 8=true from qL (by omega),zN hi (show 8<=big by decide),cT]
   exact must (zbj hs) rfl
  .simp only [show ilt (((8:Nat)):Int) 8=false from qK (by omega),cF]
  rw[zt7 a0 a1 _ 8 0 [] (by decide)]
  simp only[zdl,hh,cT,jL]
theorem zDm:uV 31 zvp:=kF2 zP3 zV zl zn zJ2 zII
def zTw:zK:=[(69,zk7),(68,zk8),(70,zmG),(72,zkp),(73,zoy)]++zja
theorem ztZ:zy zTw:=zf zn9 (zf zoa (zf zpa (zf zkR (zf zqv zdz))))
abbrev HSb:Type:=(List Bool)×(List (List Int))×(List Mon)×(List Entry)×(List Entry)
def ziq (t:HSb):Host:=⟨t.2.1,t.2.2.1,t.2.2.2.1,t.2.2.2.2⟩
def zNu (u:Host×List Bool):HSb:=(u.2,u.1.Memory,u.1.Mons,u.1.Buffer,u.1.IoBuffer)
def zJI (t:HSb):OA:=some [AV.agg (zbh (ziq t)),AV.one (.s .bool t.1)]
def zvI (m:Int):List Int->Host×List Bool->Host×List Bool
 | [],u=>u
 | g :: l,u=>zvI m l ((zbF u.1 m g).1,ap u.2 [(zbF u.1 m g).2])
theorem zxk (m:Int){c:Host->Int->Bool}(hc:∀h g,SmH h->c h g=true):∀(l:List Int) (i:Nat) (u:Host×List Bool),SmH u.1->u.2.length+l.length<=2147483648 ->
 goL (fun (_:Nat) x (t:HSb) κ=>bif c (ziq t) x then (cond (few (ln (ap t.1 [(zbF (ziq t) m x).2]))) (κ (ap t.1 [(zbF (ziq t) m x).2],(zbF (ziq t) m x).1.Memory,(zbF (ziq t) m x).1.Mons,(zbF (ziq t) m x).1.Buffer,(zbF (ziq t) m x).1.IoBuffer)) none) else none) zJI l i (zNu u)=zJI (zNu (zvI m l u))
 | [],i,u,_,_=>rfl
 | a :: l,i,u,hs,hn=>by
  simp only[qW]at hn;have hf:few (ln (ap u.2 [(zbF u.1 m a).2]))=true:=zd5 (by simp[ap];omega)
  have hh:ziq (zNu u)=u.1:=rfl;have h2:(zNu u).1=u.2:=rfl;simp only[goL,hh,h2,hf,hc _ _ hs,cT];exact zxk m hc l (i+1) ((zbF u.1 m a).1,ap u.2 [(zbF u.1 m a).2]) (zFu m a hs).sm (by simp[ap];omega)
theorem zJJ (m:Int):∀(l:List Int) (u:Host×List Bool),SmH u.1->SmH (zvI m l u).1
 | [],u,h=>h
 | a :: l,u,h=>zJJ m l ((zbF u.1 m a).1,ap u.2 [(zbF u.1 m a).2]) (zFu m a h).sm
@[simp] abbrev zmr (h:Host)(_:Int)(l:List Int):Bool:=pc (zcn h/\l.length<=1048576)
@[simp] abbrev zfd (h:Host)(m:Int)(l:List Int):Host:=(zvI m l (h,[])).1
@[simp] abbrev zsS (h:Host)(m:Int)(l:List Int):List Bool:=(zvI m l (h,[])).2
def zpk:Run:=rF3 dH dI (dS .int) fun b c d=>(zmr b c d,[aH (zfd b c d),aS .bool (zsS b c d)])
def zsE (N:Nat)(a0:Host)(a1:Int)(a2:List Int):OA:=
 (oN (zed a0) (iter (σ:=(Int×(Int×(Int×(lB×((List Int)×(lM×(lN×(lE×(lE×(lM×(lN×(lE×(lE×Unit)))))))))))))) N (fun r4 s5=>let y1:=(ix s5.2.2.2.2.1 s5.2.2.1 0);let y0:=(⟨s5.2.2.2.2.2.2.2.2.2.1,s5.2.2.2.2.2.2.2.2.2.2.1,s5.2.2.2.2.2.2.2.2.2.2.2.1,s5.2.2.2.2.2.2.2.2.2.2.2.2.1⟩:Host);let y3:=(ap s5.2.2.2.1 [(zog y0 s5.1 y1)]);let y2:=(zof y0 s5.1 y1); (cond (ilt s5.2.2.1 s5.2.1) (oN (inb s5.2.2.1 (ln s5.2.2.2.2.1)) (oN (zj0 y0 s5.1 y1) (oN (few (ln y3)) (r4 (s5.1,(s5.2.1,((zG .i64 s5.2.2.1 1),(y3,(s5.2.2.2.2.1,(s5.2.2.2.2.2.1,(s5.2.2.2.2.2.2.1,(s5.2.2.2.2.2.2.2.1,(s5.2.2.2.2.2.2.2.2.1,(y2.Memory,(y2.Mons,(y2.Buffer,(y2.IoBuffer,()))))))))))))))))) (some [(aH y0),(aS .bool s5.2.2.2.1)]))) (a1,((ln a2),(0,([],(a2,([],([],([],([],((zY a0).Memory,((zY a0).Mons,((zY a0).Buffer,((zY a0).IoBuffer,())))))))))))))))
def zCe:FuncId->Nat->Option Tmpl:=zo [(28,0,{ n:=38,tm:=[(1,ti),(6,.lp 0 0),(8,.lp 1 0),(9,.sl 0 []),(17,.sl 1 []),(18,ti),(19,ti)],lo:=[(0,[.sl 2 [],.sl 3 [],.sl 4 [],.sl 5 []]),(1,[.sl 6 [],.sl 7 [],.sl 8 [],.sl 9 []])],ro:=[(0,.bool,true),(1,.int,false),(2,(.sl .int),true),(3,.mon,true),(4,.entry,true),(5,.entry,true),(6,(.sl .int),true),(7,.mon,true),(8,.entry,true),(9,.entry,true)] })]
theorem zBq (a0:Host)(a1:Int)(a2:List Int)(hc:zmr a0 a1 a2=true):∃N,zsE N a0 a1 a2=some [aH (zfd a0 a1 a2),aS .bool (zsS a0 a1 a2)]:=by
 obtain ⟨hs,hl1⟩:=zB.1 hc;have hl:=zcA hl1;refine zbK fun N hNN=>?_;unfold zsE oN
 conv=>zeta
 refine must (zbk hs) ?_;refine (zQ a2 (fun i (t:lB×lM×lN×lE×lE)=>(a1,(ln a2),(i:Int),t.1,a2,[],[],[],[],t.2.1,t.2.2.1,t.2.2.2.1,t.2.2.2.2,())) _ (fun _ (x:Int) (t:HSb) κ=>bif zj0 (ziq t) a1 x then (cond (few (ln (ap t.1 [(zbF (ziq t) a1 x).2]))) (κ (ap t.1 [(zbF (ziq t) a1 x).2],(zbF (ziq t) a1 x).1.Memory,(zbF (ziq t) a1 x).1.Mons,(zbF (ziq t) a1 x).1.Buffer,(zbF (ziq t) a1 x).1.IoBuffer)) none) else none) (fun (t:lB×lM×lN×lE×lE)=>(some [(.agg (zbh (⟨t.2.1,t.2.2.1,t.2.2.2.1,t.2.2.2.2⟩:Host))),(.one (.s .bool t.1))])) (fun i hi t rec=>?_) (fun t rec=>?_) _ ([],(zY a0).Memory,(zY a0).Mons,(zY a0).Buffer,(zY a0).IoBuffer) (hNN hl.1)).trans ?_
 .simp only [zbl hi,zU hi,zZ hi,zN hi hl.1,cT];rfl
 .simp only [zbe,cF]
 exact zxk a1 (fun h g hh=>zbk ((zbL h).2 hh)) a2 0 (a0,[]) ((zbL a0).1 hs) (by simpa using hl.2)
theorem zwp:uV 28 zpk:=kF3 ztZ zV zl zn zCe zBq
@[simp] abbrev zsj (b:Bare)(_:Int):Bool:=pc (SmB b)
@[simp] abbrev zsi (b:Bare)(i:Int):List Int:=ap [] (gAt b i).Seen
def zvq:Run:=rF2 (dT .bare) dI fun b c=>(zsj b c,[aS .int (zsi b c)])
def zAe (N:Nat)(a0:Bare)(a1:Int):OA:=
 (oN (zp2 a0 a1) (oN (few (ln (ap [] (zgV a0 a1).Seen))) (some [(aS .int (ap [] (zgV a0 a1).Seen))])))
theorem zIJ (a0:Bare)(a1:Int)(hc:zsj a0 a1=true):∃N,zAe N a0 a1=some [aS .int (zsi a0 a1)]:=by
 have hs:=zB.1 hc;refine ⟨0,?_⟩;unfold zAe oN;have hg:(gAt a0 a1).Seen.length<=1048576:=(zma a1 hs).2.2.2;exact must (zbk hs) (must (zd5 (by simp[ap];omega)) rfl)
theorem zDn:uV 30 zvq:=kF2 ztZ zV zl zn (zo []) zIJ
@[simp] abbrev zr1 (h:Host)(_ _ _:Int):Bool:=pc (zcn h)
@[simp] abbrev zyW (h:Host)(m p c:Int):Int:=cellAt [zdd h m p] 0 c
def zvd:Run:=rF4 dH dI dI dI fun b c d e=>(zr1 b c d e,[aI (zyW b c d e)])
def zz0 (N:Nat)(a0:Host)(a1 a2 a3:Int):OA:=
 (oN (znn a0 a1 a2) (oN (zsc [(zlc a0 a1 a2)] 0 a3) (some [(aI (zoE [(zlc a0 a1 a2)] 0 a3))])))
theorem zIt (a0:Host)(a1 a2 a3:Int)(hc:zr1 a0 a1 a2 a3=true):∃N,zz0 N a0 a1 a2 a3=some [aI (zyW a0 a1 a2 a3)]:=by
 have hs:=zB.1 hc;refine ⟨0,?_⟩;unfold zz0 oN;exact must (zbk hs) (must rfl rfl)
theorem zDa:uV 32 zvd:=kF4 ztZ zV zl zn (zo []) zIt
section
open Go Go.RowKit Go.Maps
theorem zuF {H:Type}{P:Program}{e:TypeId}(he:P.underlying e=some .bool){v:Value}{z:DataW H×List MemPlace}(h:plainElem P e v=some z):∃x,v = .bool x/\z=(.lit (.bool x),[]):=by
 unfold plainElem at h;rw[he]at h;cases v<;>simp at h;exact ⟨_,rfl,h.symm⟩
theorem zKT {H:Type}{P:Program}(w:World){ops:Array Oper}{rest:List Oper}{o:Oper}{a:Act}{Q:Exit->Act->World->Prop}(hg:o.guard=none)(m x:Operand)(t:TypeId)(hop:o.op=Op.lookup t m x false)(k e:TypeId)(K:Keyed P k)(ht:P.underlying t=some (.map k e))(he:P.underlying e=some .bool)(hz:(zeroValue e).run P w = .ok (.bool false) w)(b n:Nat)(D:DataW H)(hm:a.eval m = .map (some b))(hown:w.ownsMap P k (plainElem P e) b n D)(key:Value)(kl:Lit)(hx:a.eval x=key)(hkey:keyOf P k key=some kl)(hK:∀c:Bool,D.atKey kl (.lit (.bool false)) = .lit (.bool c)->wpList P ops Q rest (a.put o.dst (.bool c)) w) :
 wpList P ops Q (o :: rest) a w:=by
 refine wpList_plain hg fun K' hK'=>?_;obtain ⟨v,ps,hrun,hv⟩:=hown.lookup K ht hz (plainElem_bool he false) hkey;obtain ⟨c,rfl,hc⟩:=zuF he hv;simp only[jJ]at hc;unfold Oper.wp;simp[execOp,hop,hm,hx,hrun,Result.andThen];exact hK' _ _ (hK c hc.1)
def mapOf:List Int->DataW Unit
 | []=>.map []
 | p :: u=>(mapOf u).put (.int .i64 p) (.lit (.bool true))
theorem zIY:∀u,IsMap (mapOf u)
 | []=>isMap_empty
 | p :: u=>(zIY u).put _ _
theorem zy8 (p:Int):∀u,(mapOf u).atKey (.int .i64 p) (.lit (.bool false)) = .lit (.bool (u.contains p))
 | []=>rfl
 | q :: u=>by
  by_cases h:p=q
  .subst h;rw[mapOf,atKey_put_same (zIY u) (by exact True.intro)]
   simp
  .rw [mapOf,atKey_put_other (by intro e;cases e;exact h rfl),zy8 p u]
   simp[h]
theorem zLI:Keyed Tryz.prog 3:=int_keyed Tryz.underlying3
theorem zQQ (w:World):(zeroValue 4).run Tryz.prog w = .ok (.bool false) w:=by kernel_rfl
def wf64 (p:Int):Prop:=(Lit.int .i64 p).wf=true
def apS:List (Int×Int)->List Int->Option (List Int)
 | [],u=>some u
 | s :: l,u=>if s.1 = -1 then apS l u else if u.contains s.1 then none else apS l (s.1 :: u)
def apM:List (List (Int×Int))->List Int->Bool
 | [],_=>true
 | m :: l,u=>match apS m u with
  | none=>false
  | some u'=>apM l u'
theorem zCr {l:List (Int×Int)}{j:Nat}{p r:Int}(h:l[j]?=some (p,r))(u:List Int):apS (l.drop j) u=if p = -1 then apS (l.drop (j+1)) u else if u.contains p then none else apS (l.drop (j+1)) (p :: u):=by
 obtain ⟨hj,he⟩:=qA.1 h;rw[j5 hj,he];rfl
theorem zSg {l:List (List (Int×Int))}{k:Nat}{m:List (Int×Int)}(h:l[k]?=some m)(u:List Int):apM (l.drop k) u=match apS m u with|none=>false|some u'=>apM (l.drop (k+1)) u':=by
 obtain ⟨hj,he⟩:=qA.1 h;rw[j5 hj,he];rfl
structure SlotsAt (w:World) (B:Nat) (a:Option Addr) (l:List (Int×Int)):Prop where
 at1:∀j p r,l[j]?=some (p,r)->∃b off,a=some ⟨b,off,none⟩/\b<B/\w.cell? ⟨b,off+j*2,none⟩=some (.int .i64 p)/\w.cell? ⟨b,off+j*2+1,none⟩=some (.int .i64 r)/\wf64 p
structure MonsAt (w:World) (B:Nat) (a:Option Addr) (l:List (List (Int×Int))):Prop where
 at1:∀i m,l[i]?=some m->∃b off a2 cap p1 n1 q1 p2 n2 q2 p3 n3 q3 p4 n4 q4 x5 x6 p7 n7 q7 x8,a=some ⟨b,off,none⟩/\b<B/\w.cell? ⟨b,off+i*9,none⟩=some (.slice a2 m.length cap)/\SlotsAt w B a2 m/\m.length<=1048576 /\
  w.cell? ⟨b,off+i*9+1,none⟩=some (.slice p1 n1 q1)/\w.cell? ⟨b,off+i*9+2,none⟩=some (.slice p2 n2 q2)/\w.cell? ⟨b,off+i*9+3,none⟩=some (.slice p3 n3 q3)/\w.cell? ⟨b,off+i*9+4,none⟩=some (.slice p4 n4 q4) /\
  w.cell? ⟨b,off+i*9+5,none⟩=some (.int .i64 x5)/\w.cell? ⟨b,off+i*9+6,none⟩=some (.int .i64 x6)/\w.cell? ⟨b,off+i*9+7,none⟩=some (.slice p7 n7 q7)/\w.cell? ⟨b,off+i*9+8,none⟩=some (.int .i64 x8)
theorem zSY (m x y:Value)(a:Option Addr)(cap:Nat)(L:List (List (Int×Int)))(w:World)(hL:L.length<=1048576)(hat:MonsAt w w.heap.size a L) :
 Calls Tryz.prog 75 #[.agg #[m,.slice a L.length cap,x,y]] w fun e w'=>e = .returned (.bool (apM L []))/\Below w.heap.size w w':=by
 have hmm:=@run_makeMap Tryz.prog
 go_enter Tryz.func75,Tryz.ntmps75
 go_wp2
 go_loopw [12] (fun i wr=>∃(k:Nat) (u:List Int),k<=L.length/\i = .int .i64 k/\apM (L.drop k) u=apM L []/\wr.ownsMap Tryz.prog 3 (plainElem Tryz.prog 4) (w.heap.size+1) (k*1048576) (mapOf u)/\Below w.heap.size w wr/\w.heap.size+2<=wr.heap.size) (fun i _=>L.length-(intOf i).toNat)
 case atStart=>exact ⟨0,[],jZ _,rfl,rfl,by
  have h:=World.ownsMap_made (H:=Unit) (w.alloc (Obj.cells #[m,Value.slice a L.length cap,x,y] 42)) Tryz.prog 3 (plainElem Tryz.prog 4);rw[show (w.alloc (Obj.cells #[m,Value.slice a L.length cap,x,y] 42)).heap.size=w.heap.size+1 from by simp]at h
  rw[Nat.zero_mul];exact h,((Below.refl _ _).alloc (qV _) _).alloc (by simp) _,by simp⟩
 case round =>
  obtain ⟨k,u,hk,rfl,hres,hown,hnx,hws⟩:=hrel
  by_cases hkl:k<L.length
  .obtain ⟨mm,hmm2⟩:∃mm,L[k]?=some mm:=⟨_,qB (by omega)⟩
   obtain ⟨b,off,a2,cap2,p1,n1,q1,p2,n2,q2,p3,n3,q3,p4,n4,q4,x5,x6,p7,n7,q7,x8,rfl,hb,e0,hsl,hml,e1,e2,e3,e4,e5,e6,e7,e8⟩:=hat.at1 k mm hmm2;obtain ⟨len2,hlen2⟩:∃n,n=mm.length:=⟨_,rfl⟩;rw[<- hlen2] at e0 hml;rw[<- hnx.cell (by exact hb)] at e0 e1 e2 e3 e4 e5 e6 e7 e8
   go_wp2
   go_loopw [19] (fun j ws=>∃(q:Nat) (v:List Int),q<=mm.length/\j = .int .i64 q/\(match apS (mm.drop q) v with|none=>false|some u'=>apM (L.drop (k+1)) u')=apM L []/\ws.ownsMap Tryz.prog 3 (plainElem Tryz.prog 4) (w.heap.size+1) (k*1048576+q) (mapOf v)/\Below w.heap.size w ws/\w.heap.size+2<=ws.heap.size) (fun j _=>mm.length-(intOf j).toNat)
   case atStart=>exact ⟨0,u,jZ _,rfl,by rw[uJ,<- zSg hmm2];exact hres,(hown.alloc _).mono (kO _ _),hnx.alloc (by omega) _,by simp;omega⟩
   case round =>
    obtain ⟨q,v,hq,rfl,hres2,hown2,hnx2,hws2⟩:=hrel
    by_cases hql:q<mm.length
    .obtain ⟨⟨p,r⟩,hpr⟩:∃mm2,mm[q]?=some mm2:=⟨_,qB hql⟩;obtain ⟨b2,off2,rfl,hb2,f0,f1,hwf⟩:=hsl.at1 q p r hpr;rw[<- hnx2.cell (by exact hb2)] at f0 f1
     have hkey:keyOf Tryz.prog 3 (.int .i64 p)=some (.int .i64 p):=keyOf_int_mk Tryz.underlying3 hwf
     go_wp2_with (first
      | (at_lookup;refine zKT _ rfl _ _ 189 rfl 3 4 zLI Tryz.underlying189 Tryz.underlying4 (zQQ _) (w.heap.size+1) _ _ rfl (hown2.alloc _) _ _ rfl hkey ?_;intro c hat)
      | (at_mapUpdate;refine wpList_mapUpdate_own _ rfl _ _ _ 189 rfl 3 4 zLI Tryz.underlying189 _ (w.heap.size+1) _ _ rfl (hown2.alloc _) (by unfold maxLen;omega) _ _ _ rfl rfl hkey _ [] (plainElem_bool Tryz.underlying4 true) ?_;intro w1 hown1 hgrow1)
      | go_in)
     .have h:p = -1:=by simpa using ‹(p == -1)=true›
      have e:=zCr hpr v;rw[if_pos h] at e;refine ⟨⟨q+1,v,by omega,by go_num,by rw[<- e];exact hres2,(hown2.alloc _).mono (by omega),hnx2.alloc (by omega) _,by simp;omega⟩,by simp[intOf];omega⟩
     .have h:p≠-1:=by simpa using ‹(p == -1)=false›
      have hc:c=true:=by assumption
      subst hc;rw[zy8]at hat;have hin:v.contains p=true:=by simpa using hat
      have e:=zCr hpr v;rw[if_neg h,if_pos hin] at e;rw[e]at hres2
      go_ret
      exact ⟨by rw[<- hres2];rfl,hnx2.alloc (by omega) _⟩
     .have h:p≠-1:=by simpa using ‹(p == -1)=false›
      have hc:c=false:=by assumption
      subst hc;rw[zy8]at hat;have hin:v.contains p=false:=by simpa using hat
      have e:=zCr hpr v;rw[if_neg h,if_neg (by rw[hin];simp)] at e
      have s1:=hgrow1.size;simp at s1
      go_roundw
      case rel =>
       exact ⟨q+1,p :: v,by omega,by go_num,by rw[<- e];exact hres2,by simpa [kP,mapOf] using hown1,(hnx2.alloc (by omega) _).grown hgrow1 (by simp;omega) (fun j hj=>by cases hj;omega),by omega⟩
      case measure=>simp[intOf];omega
    .have hqe:q=mm.length:=by omega
     subst hqe
     go_wp2
     rw[uS]at hres2;exact ⟨⟨k+1,v,by omega,by go_num,hres2,hown2.mono (by omega),hnx2,hws2⟩,by simp[intOf];omega⟩
  .have hke:k=L.length:=by omega
   subst hke
   go_wp2
   go_ret
   exact ⟨by rw[<- hres,uS];rfl,hnx⟩
def pairs (l:List Slot):List (Int×Int):=l.map fun s=>(s.Page,s.Rights)
def zPm (h:Host):Prop:=∀m∈h.Mons,∀s∈m.Outer,wf64 s.Page
theorem zNo {w:World}{B:Nat}{v:Value}{l:List Slot}{S:zJ}(h:Rep false w v (.s .slot l) S)(hS:∀x,S x->x<B)(hwf:∀s∈l,wf64 s.Page):∃a cap,v = .slice a (pairs l).length cap/\SlotsAt w B a (pairs l):=by
 cases h with
 | nil=>exact ⟨none,0,rfl,⟨fun j p r h=>by simp[pairs]at h⟩⟩
 | void _ a _ ho=>exact ⟨some a,0,rfl,⟨fun j p r h=>by simp[pairs]at h⟩⟩
 | sl _ _ b off cap arr e fz V K _ hb hfz hlen hcap hsz hSb hsub hdis hv hc =>
  refine ⟨some ⟨b,off,none⟩,cap,by simp[pairs],⟨fun j p r hj=>?_⟩⟩
  unfold pairs at hj;rw[qM]at hj;cases hx:l[j]? with
  | none=>rw[hx]at hj;cases hj
  | some s =>
   rw[hx]at hj;cases hj;have hjl:j<l.length:=(qA.1 hx).1;have hw2:Ty.width .slot=2:=rfl;have c0:=hv j 0 hjl (by decide)
   have c1:=hv j 1 hjl (by decide)
   rw[(hc j s hx 0 (.i .i64 s.Page) rfl).int_inv] at c0;rw[(hc j s hx 1 (.i .i64 s.Rights) rfl).int_inv] at c1;exact ⟨b,off,rfl,hS b hSb,by rw[cell_of_block hb];exact c0,by rw[cell_of_block hb];exact c1,hwf s (qJ hx)⟩
theorem zl1 {w:World}{v:Value}{t:Ty}{l:List t.den}{S:zJ}(h:Rep false w v (.s t l) S):∃p n q,v = .slice p n q:=by
 obtain ⟨⟨a,cap,hv,_⟩,_⟩:=h.len;exact ⟨a,_,cap,hv⟩
theorem zOQ {w:World}{v:Value}{l:List Mon}{S:zJ}(h:Rep false w v (.s .mon l) S)(hS:∀x,S x->x<w.heap.size)(hwf:∀m∈l,∀s∈m.Outer,wf64 s.Page)(hsm:∀m∈l,m.Outer.length<=1048576) :
 ∃a cap,v = .slice a (l.map fun m=>pairs m.Outer).length cap/\MonsAt w w.heap.size a (l.map fun m=>pairs m.Outer):=by
 cases h with
 | nil=>exact ⟨none,0,rfl,⟨fun j m h=>by simp at h⟩⟩
 | void _ a _ ho=>exact ⟨some a,0,rfl,⟨fun j m h=>by simp at h⟩⟩
 | sl _ _ b off cap arr e fz V K _ hb hfz hlen hcap hsz hSb hsub hdis hv hc =>
  refine ⟨some ⟨b,off,none⟩,cap,by simp,⟨fun i mm hi=>?_⟩⟩
  rw[qM]at hi;cases hx:l[i]? with
  | none=>rw[hx]at hi;cases hi
  | some m =>
   rw[hx]at hi;cases hi;have hil:i<l.length:=(qA.1 hx).1;have hK:∀j,j<9->∀x,K i j x->x<w.heap.size:=fun j hj x hk=>hS x (hsub i j x hil hj hk).1;have c:∀j,j<9->w.cell? ⟨b,off+i*9+j,none⟩=some (V i j):=fun j hj=>by rw[cell_of_block hb];exact hv i j hil hj
   have hm:=qJ hx;obtain ⟨a2,cap2,e0,hsl⟩:=zNo (hc i m hx 0 (.s .slot m.Outer) rfl) (hK 0 (by decide)) (hwf m hm)
   obtain ⟨p1,n1,q1,e1⟩:=zl1 (hc i m hx 1 (.s (.sl .int) m.Out) rfl);obtain ⟨p2,n2,q2,e2⟩:=zl1 (hc i m hx 2 (.s .bool m.Dirty) rfl);obtain ⟨p3,n3,q3,e3⟩:=zl1 (hc i m hx 3 (.s .guest m.Guests) rfl);obtain ⟨p4,n4,q4,e4⟩:=zl1 (hc i m hx 4 (.s .int m.Outs) rfl);have e5:=(hc i m hx 5 (.i .i64 m.Pending) rfl).int_inv;have e6:=(hc i m hx 6 (.i .i64 m.Traps) rfl).int_inv;obtain ⟨p7,n7,q7,e7⟩:=zl1 (hc i m hx 7 (.s .kept m.Tables) rfl);have e8:=(hc i m hx 8 (.i .i64 m.Own) rfl).int_inv;refine ⟨b,off,a2,cap2,p1,n1,q1,p2,n2,q2,p3,n3,q3,p4,n4,q4,m.Pending,m.Traps,p7,n7,q7,m.Own,rfl,hS b hSb,?_,hsl,by simpa [pairs] using hsm m hm,?_,?_,?_,?_,?_,?_,?_,?_⟩
   .rw [<- e0];exact c 0 (by decide)
   .rw [<- e1];exact c 1 (by decide)
   .rw [<- e2];exact c 2 (by decide)
   .rw [<- e3];exact c 3 (by decide)
   .rw [<- e4];exact c 4 (by decide)
   .rw [<- e5];exact c 5 (by decide)
   .rw [<- e6];exact c 6 (by decide)
   .rw [<- e7];exact c 7 (by decide)
   .rw [<- e8];exact c 8 (by decide)
def zBO (h:Host):Bool:=apM (h.Mons.map fun m=>pairs m.Outer) []
@[simp] abbrev zqB (h:Host):Bool:=pc (zcn h/\zPm h)
@[simp] abbrev zuo (h:Host):Bool:=zBO h
def zjn:List AV->Option (Bool×List AV)
 | [.agg [.s (.sl .int) m,.s .mon l,.s .entry b,.s .entry c]]=>some (zqB ⟨m,l,b,c⟩,[.one (.b (zuo ⟨m,l,b,c⟩))])
 | _=>none
theorem zuf:uV 75 zjn:=by
 refine ⟨zcO (by kernel_rfl),?_⟩
 intro w avs xs rs hrep hrun;unfold zjn at hrun;split at hrun
 .rename_i m l b c;simp only[qC,jJ]at hrun;obtain ⟨hc,rfl⟩:=hrun;obtain ⟨hsm,hwf⟩:=zB.1 hc;have hl:xs.length=4:=hrep.1
  match xs,hl with
  | [x0,x1,x2,x3],_ =>
   have hR:Rep false w x1 (.s .mon l) (fun b=>b<w.heap.size):=hrep.2 1 _ x1 rfl rfl;have hmon:=hsm.mons;obtain ⟨a,cap,rfl,hat⟩:=zOQ hR (fun x hx=>hx) hwf (fun m hm=>by
    obtain ⟨i,hi⟩:=qP.1 hm;exact (hmon.inv.2 m hm (.s .slot m.Outer) (by simp[Ty.cells])).len)
   refine (zSY x0 x2 x3 a cap _ w (by have:=hmon.len;unfold sm at this;simpa using this) hat).mono ?_
   rintro r w' ⟨rfl,hB⟩
   refine ⟨⟨hB.os,hB.tape,hB.output,hB.size,fun b hb=>hB.block b hb⟩,[.bool _],fun _ _=>False,⟨rfl,fun i c x hc hx=>?_⟩,rfl,⟨fun i x _ h=>h.elim,fun i j x _ _ h=>h.elim⟩⟩;cases i with
   | zero=>cases hc;cases hx;exact .b _ _
   | succ i=>simp[zk,AV.cvs]at hc
 .cases hrun
end
def zv6:List Mon->Nat
 | []=>0
 | m :: l=>m.Outer.length+zv6 l
def zTe (h:Host):Prop:=zcn h/\zv6 h.Mons<=16777216
def zUd:zK:=[(75,zjn),(76,ziu),(77,zhx)]++zMi
theorem zPX:zy zUd:=zf zuf (zf zkH (zf zjT zHr))
theorem zxi:∀(l:List Mon) (u:List Bool),zgy l u=true->∀x∈l,zcM x=true
 | [],_,_,x,hx=>by cases hx
 | m :: l,u,h,x,hx=>by
  unfold zgy at h;cases hm:zcM m
  .rw [hm]at h;cases h
  .rw [hm]at h;simp only[cT]at h;cases hu:zfE m.Outer u with
   | none=>rw[hu]at h;cases h
   | some u' =>
    rw[hu]at h;rcases qH.1 hx with rfl|hx
    .exact hm
    .exact zxi l u' h x hx
theorem zxj {h:Host}(hh:zbC h=true):∀x∈h.Mons,zcM x=true:=by
 unfold zbC at hh;simp only[zce]at hh;exact zxi _ _ hh.2.2.2.2
theorem zQA {t:List Slot}{n:Int}(h:zcf t n 12=true):∀s∈t,-1<=s.Page/\s.Page<12:=by
 intro s hs;unfold zcf at h;simp only[zce]at h;have h2:=qS.1 h.1 s hs;unfold zdf at h2;cases h3:zcq s noSlot
 .rw [h3]at h2;simp only[cF,zce]at h2;have:=zdy.1 h2.2.1;rw[show wsub .i64 12 1=11 from rfl] at this
  omega
 .unfold zcq at h3;rw[qD]at h3;have:s.Page = -1:=qG h3.1;omega
theorem zFi:∀l:List Mon,(∀x∈l,zcM x=true)->zv6 l=8*l.length
 | [],_=>rfl
 | m :: l,h=>by
  have h1:=zmb (zfO (h m (by simp)))
  have h2:=zFi l (fun x hx=>h x (by simp[hx]))
  simp only[zv6,qW,h2,ln] at *;omega
theorem zNA {h:Host}(hs:zcn h)(hh:zbC h=true):zTe h:=by
 refine ⟨hs,?_⟩;rw[zFi _ (zxj hh)];have:=zMC hh;omega
theorem zO0 {h:Host}(hh:zbC h=true):zPm h:=by
 intro m hm s hs;have:=zQA (zfO (zxj hh m hm)) s hs;unfold wf64 Lit.wf;simp only[qD,decide_eq_true_iff];have h1:IntKind.i64.min = -9223372036854775808:=rfl;have h2:IntKind.i64.max=9223372036854775807:=rfl;rw[h1,h2];omega
def zoM (h:Host):Bool:=bif zbC h then (cond (zBO h) (cond (zqa h) (cond (zjQ h h.Buffer) (zjQ h h.IoBuffer) false) false) false) else false
@[simp] abbrev zoi (h:Host):Bool:=pc (zcn h)
@[simp] abbrev zj6 (h:Host):Bool:=zoM h
def zqS:Run:=rF1 dH fun b=>(zoi b,[aB (zj6 b)])
def ztw (N:Nat)(a0:Host):OA:=
 (oN (zfp a0) (cond (zeT a0) (oN (zqB a0) (cond (zuo a0) (oN (zj8 a0) (cond (zff a0) (oN (zgf a0 a0.Buffer) (cond (zdP a0 a0.Buffer) (oN (zgf a0 a0.IoBuffer) (some [(aB (zdP a0 a0.IoBuffer))])) oF)) oF)) oF)) oF))
theorem zDN (a0:Host)(hc:zoi a0=true):∃N,ztw N a0=some [aB (zj6 a0)]:=by
 have hs:=zB.1 hc;have hA:zbC a0=true->zTe a0:=zNA hs;have hP:zbC a0=true->zPm a0:=zO0
 refine ⟨0,?_⟩;unfold ztw oN;refine must rfl (br (fun _=>mu (br (fun _=>must rfl (br (fun _=>must rfl (br (fun _=>must rfl ?_) (fun _=>?_))) (fun _=>?_))) (fun _=>?_))) (fun _=>?_))
 all_goals first|rfl|(simp only [*,zj6,zoM,zff,zdP,cT,cF]<;>rfl)|simp_all[Ty.cells,zj6,zoM,zff,zdP]
theorem zyw:uV 33 zqS:=kF1 zPX zq zl zn (zo []) zDN
def zop (x y:List Int):Bool:=pc (x=y)
def zng (_ _:List Int):Bool:=true
def zq2:Run:=rF2 (dS .int) (dS .int) fun b c=>(zop b c,[aB (zng b c)])
def ztI (N:Nat)(a0 a1:List Int):OA:=
 (cond (ine (ln a0) (ln a1)) oF (iter (σ:=(Int×((List Int)×((List Int)×Unit)))) N (fun r3 s4=>(cond (ilt s4.1 (ln s4.2.1)) (oN (inb s4.1 (ln s4.2.1)) (oN (inb s4.1 (ln s4.2.2.1)) (cond (ine (ix s4.2.1 s4.1 0) (ix s4.2.2.1 s4.1 0)) oF (r3 ((zG .i64 s4.1 1),(s4.2.1,(s4.2.2.1,()))))))) oT)) (0,(a0,(a1,())))))
def zEw:FuncId->Nat->Option Tmpl:=zo [(29,0,{ n:=26,tm:=[(0,.sl 0 []),(1,.sl 1 []),(5,ti)],lo:=[],ro:=[(0,.int,false),(1,.int,false)] })]
theorem zDY (a0 a1:List Int)(hb:zbq big [aS .int a0,aS .int a1])(hc:zop a0 a1=true):∃N,ztI N a0 a1=some [aB (zng a0 a1)]:=by
 have:=zB.1 hc;subst this;have hl:=(len0 hb);refine ⟨a0.length+1,?_⟩;unfold ztI oN;rw[zHS];refine zSH a0 zUx _ _ hl (fun i hi rec=>?_) (fun rec=>?_) (uD _)
 .simp only [zbl hi,zU hi,zZ hi,zUO,zHS,zrY,zNF,cT,cF,uC,Bool.not_false]
 .simp only [zbe,cF,zng]
theorem zyG:uV 29 zq2:=hF2 zdz zV zl zn zEw zDY
def Ends {ρ:Type}(G:ρ->Prop)(o:Option ρ):Prop:=∃a,o=some a/\G a
section
variable {ρ:Type} {G:ρ->Prop}
theorem zcc {c:Bool}{a b:Option ρ}(h:c=true)(k:Ends G a):Ends G (cond c a b):=by rw[h];exact k
theorem zyl {c:Bool}{a b:Option ρ}(h1:c=true->Ends G a)(h2:c=false->Ends G b):Ends G (cond c a b):=by
 cases c
 .exact h2 rfl
 .exact h1 rfl
theorem zOl {a:ρ}(h:G a):Ends G (some a):=⟨a,rfl,h⟩
theorem zHA {σ:Type}{F:(σ->Option ρ)->σ->Option ρ}(I:Nat->σ->Prop)(h:∀n s rec,I n s->(∀k s',k<n->I k s'->Ends G (rec s'))->Ends G (F rec s)):∀(N n:Nat) (s:σ),I n s->n<N->Ends G (iter N F s)
 | 0,n,s,_,hn=>absurd hn (Nat.not_lt_zero n)
 | N+1,n,s,hI,hn=>h n s (iter N F) hI fun k s' hk hs=>zHA I h N k s' hs (by omega)
theorem zSF {G:Ans->Prop}{o:OA}{r:Ans}(h:Ends (fun a=>a=r) o):o=some r:=by
 obtain ⟨a,h1,h2⟩:=h;rw[h1,h2]
end
instance:Inhabited Cur:=⟨⟨[],0,0⟩⟩
instance:Inhabited Ins:=⟨⟨0,0⟩⟩
instance:Inhabited GAct:=⟨⟨0,0,0,0,0,0⟩⟩
instance:Inhabited Ctl:=⟨⟨0,0,false⟩⟩
instance:Inhabited Host:=⟨⟨[],[],[],[]⟩⟩
def zzv (c:Cur):Prop:=0<=c.i/\c.b.length<=big
theorem zAz {T:Type}(av:T->AV){good:T->Prop}{b:List Int}{x y:Int}{v:T}(h:0<=x)(g:good v):Ends (fun a=>∃s v0,a=(AV.agg (zbu s) :: [av v0])/\(s.b=b/\0<=s.i)/\good v0) (some (AV.agg [.s .u8 b,.i .i64 x,.i .i64 y] :: [av v])) :=
 ⟨_,rfl,⟨b,x,y⟩,v,rfl,⟨rfl,h⟩,g⟩
def zix (N:Nat)(c:Cur)  : OA :=
 let y0:=(zG .i64 (zkG .i64 c.h 6364136223846793005) 1442695040888963407);let y1:=(wand .i64 (zQP .i64 (ziv .i64 y0 33) (ziv .i64 y0 45)) 255); (oN (ile 0 33) (oN (ile 0 45) (cond (ilt c.i (ln c.b)) (oN (inb c.i (ln c.b)) (some [(.agg [(.s .u8 c.b),(.i .i64 (zG .i64 c.i 1)),(.i .i64 y0)]),(aI (wand .i64 (zG .i64 y1 (wcv .i64 (ix c.b c.i 0))) 255))])) (some [(.agg [(.s .u8 c.b),(.i .i64 c.i),(.i .i64 y0)]),(aI y1)]))))
theorem zI3 (N:Nat)(c:Cur)  : zej (cQ zja zir zzb zg0) (zo []) N 12 107 [false,true,true] (zbu c) []=zix N c:=by kernel_rfl
def zhA (c:Cur)(s:Cur)(v0:Int):Prop:=(∃N,zix N c=some (AV.agg (zbu s) :: [aI v0]))/\(s.b=c.b/\0<=s.i)/\(0<=v0/\v0<=255)
def zck (c:Cur)  : Bool:=pc (∃s v0,zhA c s v0)
def zlG (c:Cur)  : Cur×Int:=Classical.epsilon fun r=>zhA c r.1 r.2
def zbH (c:Cur)  : Cur:=bif zck c then (zlG c).1 else ⟨[],0,0⟩
def zdF (c:Cur)  : Int:=(zlG c).2
theorem zgW {c:Cur}(h:zck c=true):zhA c (zbH c) (zdF c):=by
 obtain ⟨s,v0,h2⟩:=zB.1 h;have h3:zhA c (zlG c).1 (zlG c).2:=Classical.epsilon_spec (p:=fun r=>zhA c r.1 r.2) ⟨(s,v0),h2⟩;unfold zbH;rw[h,cT];exact h3
theorem ziQ (c:Cur)  : 0<=(zbH c).i:=by
 unfold zbH;cases h:zck c with
 | false=>exact Int.le_refl 0
 | true =>
  have:=(zgW h).2.1.2;unfold zbH at this
  rwa [h] at this
theorem zK6 (c:Cur)(h:∃N,Ends (fun a=>∃s v0,a=(AV.agg (zbu s) :: [aI v0])/\(s.b=c.b/\0<=s.i)/\(0<=v0/\v0<=255)) (zix N c)):zck c=true:=by
 obtain ⟨N,a,e,s,v0,rfl,h⟩:=h;exact zbk ⟨s,v0,⟨N,e⟩,h⟩
def zk1:List CV->List AV->Option (Bool×List CV×List AV)
 | [.s .u8 b,.i .i64 c,.i .i64 d],[]=>some ((zck (⟨b,c,d⟩:Cur)),zbu (zbH (⟨b,c,d⟩:Cur)),[aI (zdF (⟨b,c,d⟩:Cur))])
 | _,_=>none
theorem zGg (c:Cur)(hb:zbq big (.agg (zbu c) :: []))(hc:zck c=true):∃N,zix N c=some (.agg (zbu (zbH c)) :: [aI (zdF c)]):=by
 exact (zgW hc).1
theorem zA3:zcD Tryz.prog 107 [false,true,true] zk1:=by
 refine zbw (zb7 zdz zV zl zn) (zcO (by kernel_rfl)) ?_
 intro cs avs cs' rs hl hr h;have hb:=zbI hr;unfold zk1 at h;split at h
 .obtain ⟨hc,rfl,rfl⟩:=zbU h;obtain ⟨N,hN⟩:=zGg _ (by exact hb) hc
  exact ⟨rfl,_,N,12,(zI3 N _ ).trans hN⟩
 .cases h
theorem zFx {x m:Int}(h0:0<=m)(h1:m<9223372036854775808):0<=wand .i64 x m/\wand .i64 x m<=m:=by
 have hm:(BitVec.ofInt 64 m).toNat=m.toNat:=by
  rw[BitVec.toNat_ofInt];omega
 have hle:(BitVec.ofInt 64 x &&& BitVec.ofInt 64 m).toNat<=m.toNat:=by
  rw[BitVec.toNat_and,hm];exact Nat.and_le_right
 unfold wand
 show 0<=IntKind.wrap .i64 ((BitVec.ofInt 64 x &&& BitVec.ofInt 64 m).toNat:Int)/\IntKind.wrap .i64 ((BitVec.ofInt 64 x &&& BitVec.ofInt 64 m).toNat:Int)<=m
 rw[znS (by omega) (by omega)]
 omega
@[simp] theorem zAt {c:Cur}(h:zzv c):zck c=true:=by
 refine zK6 c ⟨0,?_⟩;unfold zix oN
 conv=>zeta
 refine zcc rfl (zcc rfl (zyl (fun h0=>zcc (qL ⟨h.1,qG h0⟩) (zAz aI ?_ (zFx (by omega) (by omega)))) (fun _=>zAz aI h.1 (zFx (by omega) (by omega)))))
 have h1:c.i<ln c.b:=qG h0;have h2:=h.2;have h3:=h.1;rw[znA]at h2;unfold ln at h1;rw[znR (by omega) (by omega)]
 omega
def zMZ:zcv:=[(107,([false,true,true],zk1))]++zzb
theorem zJb:zbM zMZ:=zcT zl (by
 intro x hx;simp only[qH,qU,or_false]at hx;rcases hx with rfl
 .exact zA3)
theorem zyi {b:List Int}{i h:Int}(h0:0<=i)(hb:b.length<=big):zzv ⟨b,i,h⟩:=⟨h0,hb⟩
theorem zED {x n:Int}(h0:0<=x)(hn:0<n):0<=zjx x n/\zjx x n<n:=by
 unfold zjx;exact ⟨Int.tmod_nonneg _ h0,Int.tmod_lt_of_pos _ hn⟩
def zg5 (N:Nat)(c:Cur)(a0:Int):OA:=
 let y2:=({ (zbH c) with b:=c.b }:Cur);let y0:=({ (zbH y2) with b:=c.b }:Cur);let y1:=({ (zbH y0) with b:=c.b }:Cur); (cond (ile a0 0) (some [(.agg [(.s .u8 c.b),(.i .i64 c.i),(.i .i64 c.h)]),(aI 0)]) (cond (ile a0 256) (oN (zck c) (oN (ine a0 0) (some [(.agg [(.s .u8 c.b),(.i .i64 (zbH c).i),(.i .i64 (zbH c).h)]),(aI (zjx (zdF c) a0))]))) (oN (zck c) (oN (zck y2) (oN (zck y0) (oN (zck y1) (oN (ine a0 0) (some [(.agg [(.s .u8 c.b),(.i .i64 (zbH y1).i),(.i .i64 (zbH y1).h)]),(aI (zjx (zG .i64 (zG .i64 (zG .i64 (zkG .i64 (zdF c) 16777216) (zkG .i64 (zdF y2) 65536)) (zkG .i64 (zdF y0) 256)) (zdF y1)) a0))]))))))))
theorem zGr (N:Nat)(c:Cur)(a0:Int):zej (cQ zja zir zMZ zg0) (zo []) N 12 44 [false,true,true] (zbu c) [aI a0]=zg5 N c a0:=by kernel_rfl
def zgJ (c:Cur)(a0:Int)(s:Cur)(v0:Int):Prop:=(∃N,zg5 N c a0=some (AV.agg (zbu s) :: [aI v0]))/\(s.b=c.b/\0<=s.i)/\((0<a0->0<=v0/\v0<a0))
def zM (c:Cur)(a0:Int):Bool:=pc (∃s v0,zgJ c a0 s v0)
def zkw (c:Cur)(a0:Int):Cur×Int:=Classical.epsilon fun r=>zgJ c a0 r.1 r.2
def zu (c:Cur)(a0:Int):Cur:=bif zM c a0 then (zkw c a0).1 else ⟨[],0,0⟩
def zW (c:Cur)(a0:Int):Int:=(zkw c a0).2
theorem zoJ {c:Cur}{a0:Int}(h:zM c a0=true):zgJ c a0 (zu c a0) (zW c a0):=by
 obtain ⟨s,v0,h2⟩:=zB.1 h;have h3:zgJ c a0 (zkw c a0).1 (zkw c a0).2:=Classical.epsilon_spec (p:=fun r=>zgJ c a0 r.1 r.2) ⟨(s,v0),h2⟩;unfold zu;rw[h,cT];exact h3
theorem zJs (c:Cur)(a0:Int):0<=(zu c a0).i:=by
 unfold zu;cases h:zM c a0 with
 | false=>exact Int.le_refl 0
 | true =>
  have:=(zoJ h).2.1.2;unfold zu at this
  rwa [h] at this
theorem zJr (c:Cur)(a0:Int)(h:∃N,Ends (fun a=>∃s v0,a=(AV.agg (zbu s) :: [aI v0])/\(s.b=c.b/\0<=s.i)/\((0<a0->0<=v0/\v0<a0))) (zg5 N c a0)):zM c a0=true:=by
 obtain ⟨N,a,e,s,v0,rfl,h⟩:=h;exact zbk ⟨s,v0,⟨N,e⟩,h⟩
def zki:List CV->List AV->Option (Bool×List CV×List AV)
 | [.s .u8 b,.i .i64 c,.i .i64 d],[.one (.i .i64 e)]=>some ((zM (⟨b,c,d⟩:Cur) e),zbu (zu (⟨b,c,d⟩:Cur) e),[aI (zW (⟨b,c,d⟩:Cur) e)])
 | _,_=>none
theorem zD5 (c:Cur)(a0:Int)(hb:zbq big (.agg (zbu c) :: [aI a0]))(hc:zM c a0=true):∃N,zg5 N c a0=some (.agg (zbu (zu c a0)) :: [aI (zW c a0)]):=by
 exact (zoJ hc).1
theorem zyM:zcD Tryz.prog 44 [false,true,true] zki:=by
 refine zbw (zb7 zdz zV zJb zn) (zcO (by kernel_rfl)) ?_
 intro cs avs cs' rs hl hr h;have hb:=zbI hr;unfold zki at h;split at h
 .obtain ⟨hc,rfl,rfl⟩:=zbU h;obtain ⟨N,hN⟩:=zD5 _ _ (by exact hb) hc
  exact ⟨rfl,_,N,12,(zGr N _ _ ).trans hN⟩
 .cases h
theorem zLs {c:Cur}(h:zzv c)(n:Int):zM c n=true:=by
 refine zJr c n ⟨0,?_⟩;have k1:=zAt h;have k2:zck { zbH c with b:=c.b }=true:=zAt (zyi (ziQ _) h.2);have k3:zck { zbH { zbH c with b:=c.b } with b:=c.b }=true:=zAt (zyi (ziQ _) h.2);have k4:zck { zbH { zbH { zbH c with b:=c.b } with b:=c.b } with b:=c.b }=true:=zAt (zyi (ziQ _) h.2);have b1:=(zgW k1).2.2;have b2:=(zgW k2).2.2;have b3:=(zgW k3).2.2;have b4:=(zgW k4).2.2;unfold zg5 oN
 conv=>zeta
 refine zyl (fun h0=>zAz aI h.1 (fun hn=>absurd (qG h0) (by omega))) (fun h0=>?_)
 have hn:¬ n<=0:=j6 h0;have hz:ine n 0=true:=by simp[ine];omega
 refine zyl (fun h1=>zcc k1 (zcc hz (zAz aI (ziQ _) (fun hp=>zED b1.1 hp)))) (fun h1=>?_);refine zcc k1 (zcc k2 (zcc k3 (zcc k4 (zcc hz (zAz aI (ziQ _) (fun hp=>zED ?_ hp))))));generalize zdF c=x1 at b1;generalize zdF _=x2 at b2;generalize zdF _=x3 at b3;generalize zdF _=x4 at b4;have w1:zkG .i64 x1 16777216=x1*16777216:=znS (by omega) (by omega)
 have w2:zkG .i64 x2 65536=x2*65536:=znS (by omega) (by omega)
 have w3:zkG .i64 x3 256=x3*256:=znS (by omega) (by omega)
 rw[w1,w2,w3,znR (x:=x1*16777216) (by omega) (by omega),znR (x:=x1*16777216+x2*65536) (by omega) (by omega),znR (by omega) (by omega)]
 omega
def zGL:zcv:=[(44,([false,true,true],zki))]++zMZ
theorem zzc:zbM zGL:=zcT zJb (by
 intro x hx;simp only[qH,qU,or_false]at hx;rcases hx with rfl
 .exact zyM)
def zpD (N:Nat)(c:Cur)(a0:Int):OA:=
 (oN (zM c a0) (some [(.agg [(.s .u8 c.b),(.i .i64 (zu c a0).i),(.i .i64 (zu c a0).h)]),(aB (ieq (zW c a0) 0))]))
theorem zI4 (N:Nat)(c:Cur)(a0:Int):zej (cQ zja zir zGL zg0) (zo []) N 12 47 [false,true,true] (zbu c) [aI a0]=zpD N c a0:=by kernel_rfl
def zhC (c:Cur)(a0:Int)(s:Cur)(v0:Bool):Prop:=(∃N,zpD N c a0=some (AV.agg (zbu s) :: [aB v0]))/\(s.b=c.b/\0<=s.i)/\(True)
def zeI (c:Cur)(a0:Int):Bool:=pc (∃s v0,zhC c a0 s v0)
def zlH (c:Cur)(a0:Int):Cur×Bool:=Classical.epsilon fun r=>zhC c a0 r.1 r.2
def zca (c:Cur)(a0:Int):Cur:=bif zeI c a0 then (zlH c a0).1 else ⟨[],0,0⟩
def zhB (c:Cur)(a0:Int):Bool:=(zlH c a0).2
theorem zK7 {c:Cur}{a0:Int}(h:zeI c a0=true):zhC c a0 (zca c a0) (zhB c a0):=by
 obtain ⟨s,v0,h2⟩:=zB.1 h;have h3:zhC c a0 (zlH c a0).1 (zlH c a0).2:=Classical.epsilon_spec (p:=fun r=>zhC c a0 r.1 r.2) ⟨(s,v0),h2⟩;unfold zca;rw[h,cT];exact h3
def zk2:List CV->List AV->Option (Bool×List CV×List AV)
 | [.s .u8 b,.i .i64 c,.i .i64 d],[.one (.i .i64 e)]=>some ((zeI (⟨b,c,d⟩:Cur) e),zbu (zca (⟨b,c,d⟩:Cur) e),[aB (zhB (⟨b,c,d⟩:Cur) e)])
 | _,_=>none
theorem zGh (c:Cur)(a0:Int)(hb:zbq big (.agg (zbu c) :: [aI a0]))(hc:zeI c a0=true):∃N,zpD N c a0=some (.agg (zbu (zca c a0)) :: [aB (zhB c a0)]):=by
 exact (zK7 hc).1
theorem zA4:zcD Tryz.prog 47 [false,true,true] zk2:=by
 refine zbw (zb7 zdz zV zzc zn) (zcO (by kernel_rfl)) ?_
 intro cs avs cs' rs hl hr h;have hb:=zbI hr;unfold zk2 at h;split at h
 .obtain ⟨hc,rfl,rfl⟩:=zbU h;obtain ⟨N,hN⟩:=zGh _ _ (by exact hb) hc
  exact ⟨rfl,_,N,12,(zI4 N _ _ ).trans hN⟩
 .cases h
def zkK (N:Nat)(c:Cur)(a0:List Int):OA:=
 (oN (zM c (ln a0)) (oN (inb (zW c (ln a0)) (ln a0)) (some [(.agg [(.s .u8 c.b),(.i .i64 (zu c (ln a0)).i),(.i .i64 (zu c (ln a0)).h)]),(aI (ix a0 (zW c (ln a0)) 0))])))
theorem zBJ (N:Nat)(c:Cur)(a0:List Int):zej (cQ zja zir zGL zg0) (zo []) N 12 110 [false,true,true] (zbu c) [aS .int a0]=zkK N c a0:=by kernel_rfl
def zfy (c:Cur)(a0:List Int)(s:Cur)(v0:Int):Prop:=(∃N,zkK N c a0=some (AV.agg (zbu s) :: [aI v0]))/\(s.b=c.b/\0<=s.i)/\((0<a0.length->v0∈a0))
def zcz (c:Cur)(a0:List Int):Bool:=pc (∃s v0,zfy c a0 s v0)
def zih (c:Cur)(a0:List Int):Cur×Int:=Classical.epsilon fun r=>zfy c a0 r.1 r.2
def zb0 (c:Cur)(a0:List Int):Cur:=bif zcz c a0 then (zih c a0).1 else ⟨[],0,0⟩
def zde (c:Cur)(a0:List Int):Int:=(zih c a0).2
theorem zEl {c:Cur}{a0:List Int}(h:zcz c a0=true):zfy c a0 (zb0 c a0) (zde c a0):=by
 obtain ⟨s,v0,h2⟩:=zB.1 h;have h3:zfy c a0 (zih c a0).1 (zih c a0).2:=Classical.epsilon_spec (p:=fun r=>zfy c a0 r.1 r.2) ⟨(s,v0),h2⟩;unfold zb0;rw[h,cT];exact h3
def zit:List CV->List AV->Option (Bool×List CV×List AV)
 | [.s .u8 b,.i .i64 c,.i .i64 d],[.one (.s .int e)]=>some ((zcz (⟨b,c,d⟩:Cur) e),zbu (zb0 (⟨b,c,d⟩:Cur) e),[aI (zde (⟨b,c,d⟩:Cur) e)])
 | _,_=>none
theorem zy5 (c:Cur)(a0:List Int)(hb:zbq big (.agg (zbu c) :: [aS .int a0]))(hc:zcz c a0=true):∃N,zkK N c a0=some (.agg (zbu (zb0 c a0)) :: [aI (zde c a0)]):=by
 exact (zEl hc).1
theorem zul:zcD Tryz.prog 110 [false,true,true] zit:=by
 refine zbw (zb7 zdz zV zzc zn) (zcO (by kernel_rfl)) ?_
 intro cs avs cs' rs hl hr h;have hb:=zbI hr;unfold zit at h;split at h
 .obtain ⟨hc,rfl,rfl⟩:=zbU h;obtain ⟨N,hN⟩:=zy5 _ _ (by exact hb) hc
  exact ⟨rfl,_,N,12,(zBJ N _ _ ).trans hN⟩
 .cases h
def zM0:zcv:=[(47,([false,true,true],zk2)),(110,([false,true,true],zit))]++zGL
theorem zJc:zbM zM0:=zcT zzc (by
 intro x hx;simp only[qH,qU,or_false]at hx;rcases hx with rfl|rfl
 .exact zA4
 .exact zul)
theorem zPs {c:Cur}(h:zzv c){n:Int}(hn:0<n):0<=zW c n/\zW c n<n:=(zoJ (zLs h n)).2.2 hn
def zrj (N:Nat)(c:Cur)  : OA :=
 let y1:=(zde c [1,2,3,3,3,4,4,4,5,6,8]);let y0:=({ (zb0 c [1,2,3,3,3,4,4,4,5,6,8]) with b:=c.b }:Cur); (share (oN (zM y0 16) (some [(.agg [(.s .u8 c.b),(.i .i64 (zu y0 16).i),(.i .i64 (zu y0 16).h)]),(.agg [(.i .i64 y1),(.i .i64 (zW y0 16))])])) (fun t1=>(share (cond (ieq y1 8) (oN (zM y0 4) (some [(.agg [(.s .u8 c.b),(.i .i64 (zu y0 4).i),(.i .i64 (zu y0 4).h)]),(.agg [(.i .i64 y1),(.i .i64 (zW y0 4))])])) (oN (zM y0 100) (some [(.agg [(.s .u8 c.b),(.i .i64 (zu y0 100).i),(.i .i64 (zu y0 100).h)]),(.agg [(.i .i64 y1),(.i .i64 (zW y0 100))])]))) (fun t0=>(oN (zcz c [1,2,3,3,3,4,4,4,5,6,8]) (cond (ieq y1 3) (cond (ieq y1 3) t1 t0) (cond (ieq y1 4) t1 t0)))))))
theorem zKU (N:Nat)(c:Cur)  : zej (cQ zja zir zM0 zg0) (zo []) N 12 351 [false,true,true] (zbu c) []=zrj N c:=by kernel_rfl
def ziR (c:Cur)(s:Cur)(v0:Ins):Prop:=(∃N,zrj N c=some (AV.agg (zbu s) :: [aT .ins v0]))/\(s.b=c.b/\0<=s.i)/\(zi1 v0=true)
def zky (c:Cur)  : Bool:=pc (∃s v0,ziR c s v0)
def zno (c:Cur)  : Cur×Ins:=Classical.epsilon fun r=>ziR c r.1 r.2
def zii (c:Cur)  : Cur:=bif zky c then (zno c).1 else ⟨[],0,0⟩
def zoL (c:Cur)  : Ins:=(zno c).2
theorem zNb {c:Cur}(h:zky c=true):ziR c (zii c) (zoL c):=by
 obtain ⟨s,v0,h2⟩:=zB.1 h;have h3:ziR c (zno c).1 (zno c).2:=Classical.epsilon_spec (p:=fun r=>ziR c r.1 r.2) ⟨(s,v0),h2⟩;unfold zii;rw[h,cT];exact h3
def zmw:List CV->List AV->Option (Bool×List CV×List AV)
 | [.s .u8 b,.i .i64 c,.i .i64 d],[]=>some ((zky (⟨b,c,d⟩:Cur)),zbu (zii (⟨b,c,d⟩:Cur)),[aT .ins (zoL (⟨b,c,d⟩:Cur))])
 | _,_=>none
theorem zIP (c:Cur)(hb:zbq big (.agg (zbu c) :: []))(hc:zky c=true):∃N,zrj N c=some (.agg (zbu (zii c)) :: [aT .ins (zoL c)]):=by
 exact (zNb hc).1
theorem zDt:zcD Tryz.prog 351 [false,true,true] zmw:=by
 refine zbw (zb7 zdz zV zJc zn) (zcO (by kernel_rfl)) ?_
 intro cs avs cs' rs hl hr h;have hb:=zbI hr;unfold zmw at h;split at h
 .obtain ⟨hc,rfl,rfl⟩:=zbU h;obtain ⟨N,hN⟩:=zIP _ (by exact hb) hc
  exact ⟨rfl,_,N,12,(zKU N _ ).trans hN⟩
 .cases h
def zM1:zcv:=[(351,([false,true,true],zmw))]++zM0
theorem zJd:zbM zM1:=zcT zJc (by
 intro x hx;simp only[qH,qU,or_false]at hx;rcases hx with rfl
 .exact zDt)
theorem zTF {α:Type}{l:List α}(h:ln l<=1000000):few (ln l)=true:=qL ⟨by unfold ln;omega,by omega⟩
theorem zUi {α:Type}(l:List α)(x:α):ln (ap l [x])=ln l+1:=by simp[ln,ap]
def zpE (N:Nat)(c:Cur)  : OA :=
 (iter (σ:=(Int×(Int×(Int×(lI×((List Int)×Unit)))))) N (fun r2 s3=>let y3:=s3.2.2.2.1;let y2:=s3.2.2.2.2.1;let y1:=(⟨y2,s3.2.1,s3.2.2.1⟩:Cur);let y0:=({ (zu y1 7) with b:=y2 }:Cur); (oN (zM y1 7) (cond (ilt s3.1 (zG .i64 2 (zW y1 7))) (oN (zky y0) (oN (few (ln (ap y3 [(zoL y0)]))) (r2 ((zG .i64 s3.1 1),((zii y0).i,((zii y0).h,((ap y3 [(zoL y0)]),(y2,())))))))) (oN (zeI y0 3) (cond (zhB y0 3) (oN (few (ln (ap y3 [(⟨7,0⟩:Ins)]))) (some [(.agg [(.s .u8 y2),(.i .i64 (zca y0 3).i),(.i .i64 (zca y0 3).h)]),(aS .ins (ap y3 [(⟨7,0⟩:Ins)]))])) (oN (few (ln (ap y3 [(⟨8,0⟩:Ins)]))) (some [(.agg [(.s .u8 y2),(.i .i64 (zca y0 3).i),(.i .i64 (zca y0 3).h)]),(aS .ins (ap y3 [(⟨8,0⟩:Ins)]))]))))))) (0,(c.i,(c.h,([],(c.b,()))))))
def zGB:FuncId->Nat->Option Tmpl:=zo [(300,0,{ n:=29,tm:=[(0,.lp 0 0),(3,.sl 0 []),(4,ti)],lo:=[(0,[.sl 1 [],ti,ti])],ro:=[(0,.ins,true),(1,.u8,false)] })]
theorem zI5 (N:Nat)(c:Cur)  : zej (cQ zja zir zM1 zg0) zGB N 12 300 [false,true,true] (zbu c) []=zpE N c:=by kernel_rfl
def zhD (c:Cur)(s:Cur)(v0:List Ins):Prop:=(∃N,zpE N c=some (AV.agg (zbu s) :: [aS .ins v0]))/\(s.b=c.b/\0<=s.i)/\(ze2 v0=true)
def ziS (c:Cur)  : Bool:=pc (∃s v0,zhD c s v0)
def zlI (c:Cur)  : Cur×List Ins:=Classical.epsilon fun r=>zhD c r.1 r.2
def zgY (c:Cur)  : Cur:=bif ziS c then (zlI c).1 else ⟨[],0,0⟩
def zl6 (c:Cur)  : List Ins:=(zlI c).2
theorem zK8 {c:Cur}(h:ziS c=true):zhD c (zgY c) (zl6 c):=by
 obtain ⟨s,v0,h2⟩:=zB.1 h;have h3:zhD c (zlI c).1 (zlI c).2:=Classical.epsilon_spec (p:=fun r=>zhD c r.1 r.2) ⟨(s,v0),h2⟩;unfold zgY;rw[h,cT];exact h3
def zk3:List CV->List AV->Option (Bool×List CV×List AV)
 | [.s .u8 b,.i .i64 c,.i .i64 d],[]=>some ((ziS (⟨b,c,d⟩:Cur)),zbu (zgY (⟨b,c,d⟩:Cur)),[aS .ins (zl6 (⟨b,c,d⟩:Cur))])
 | _,_=>none
theorem zGk (c:Cur)(hb:zbq big (.agg (zbu c) :: []))(hc:ziS c=true):∃N,zpE N c=some (.agg (zbu (zgY c)) :: [aS .ins (zl6 c)]):=by
 exact (zK8 hc).1
theorem zA7:zcD Tryz.prog 300 [false,true,true] zk3:=by
 refine zbw (zb7 zdz zV zJd zn) (zcO (by kernel_rfl)) ?_
 intro cs avs cs' rs hl hr h;have hb:=zbI hr;unfold zk3 at h;split at h
 .obtain ⟨hc,rfl,rfl⟩:=zbU h;obtain ⟨N,hN⟩:=zGk _ (by exact hb) hc
  exact ⟨rfl,_,N,12,(zI5 N _ ).trans hN⟩
 .cases h
def zM2:zcv:=[(300,([false,true,true],zk3))]++zM1
theorem zJe:zbM zM2:=zcT zJd (by
 intro x hx;simp only[qH,qU,or_false]at hx;rcases hx with rfl
 .exact zA7)
def znW (N:Nat)(c:Cur)  : OA :=
 (iter (σ:=(Int×(Int×(Int×(lP×((List Int)×Unit)))))) N (fun r2 s3=>let y2:=s3.2.2.2.2.1;let y1:=(⟨y2,s3.2.1,s3.2.2.1⟩:Cur);let y0:=({ (zu y1 2) with b:=y2 }:Cur); (oN (zM y1 2) (cond (ilt s3.1 (zG .i64 1 (zW y1 2))) (oN (ziS y0) (oN (few (ln (ap s3.2.2.2.1 [(zl6 y0)]))) (r2 ((zG .i64 s3.1 1),((zgY y0).i,((zgY y0).h,((ap s3.2.2.2.1 [(zl6 y0)]),(y2,())))))))) (some [(.agg [(.s .u8 y2),(.i .i64 (zu y1 2).i),(.i .i64 (zu y1 2).h)]),(aS (.sl .ins) s3.2.2.2.1)])))) (0,(c.i,(c.h,([],(c.b,()))))))
def zEz:FuncId->Nat->Option Tmpl:=zo [(191,0,{ n:=19,tm:=[(0,.lp 0 0),(3,.sl 0 []),(4,ti)],lo:=[(0,[.sl 1 [],ti,ti])],ro:=[(0,(.sl .ins),true),(1,.u8,false)] })]
theorem zGs (N:Nat)(c:Cur)  : zej (cQ zja zir zM2 zg0) zEz N 12 191 [false,true,true] (zbu c) []=znW N c:=by kernel_rfl
def zgK (c:Cur)(s:Cur)(v0:List (List Ins)):Prop:=(∃N,znW N c=some (AV.agg (zbu s) :: [aS (.sl .ins) v0]))/\(s.b=c.b/\0<=s.i)/\(1<=v0.length/\v0.length<=2/\∀x∈v0,ze2 x=true)
def zhF (c:Cur)  : Bool:=pc (∃s v0,zgK c s v0)
def zkB (c:Cur)  : Cur×List (List Ins):=Classical.epsilon fun r=>zgK c r.1 r.2
def zf8 (c:Cur)  : Cur:=bif zhF c then (zkB c).1 else ⟨[],0,0⟩
def zkA (c:Cur)  : List (List Ins):=(zkB c).2
theorem zJt {c:Cur}(h:zhF c=true):zgK c (zf8 c) (zkA c):=by
 obtain ⟨s,v0,h2⟩:=zB.1 h;have h3:zgK c (zkB c).1 (zkB c).2:=Classical.epsilon_spec (p:=fun r=>zgK c r.1 r.2) ⟨(s,v0),h2⟩;unfold zf8;rw[h,cT];exact h3
def zkj:List CV->List AV->Option (Bool×List CV×List AV)
 | [.s .u8 b,.i .i64 c,.i .i64 d],[]=>some ((zhF (⟨b,c,d⟩:Cur)),zbu (zf8 (⟨b,c,d⟩:Cur)),[aS (.sl .ins) (zkA (⟨b,c,d⟩:Cur))])
 | _,_=>none
theorem zD6 (c:Cur)(hb:zbq big (.agg (zbu c) :: []))(hc:zhF c=true):∃N,znW N c=some (.agg (zbu (zf8 c)) :: [aS (.sl .ins) (zkA c)]):=by
 exact (zJt hc).1
theorem zyN:zcD Tryz.prog 191 [false,true,true] zkj:=by
 refine zbw (zb7 zdz zV zJe zn) (zcO (by kernel_rfl)) ?_
 intro cs avs cs' rs hl hr h;have hb:=zbI hr;unfold zkj at h;split at h
 .obtain ⟨hc,rfl,rfl⟩:=zbU h;obtain ⟨N,hN⟩:=zD6 _ (by exact hb) hc
  exact ⟨rfl,_,N,12,(zGs N _ ).trans hN⟩
 .cases h
def zM3:zcv:=[(191,([false,true,true],zkj))]++zM2
theorem zJf:zbM zM3:=zcT zJe (by
 intro x hx;simp only[qH,qU,or_false]at hx;rcases hx with rfl
 .exact zyN)
def zrl (N:Nat)(c:Cur)  : OA :=
 (iter (σ:=(Int×(Int×(Int×(lQ×((List Int)×Unit)))))) N (fun r2 s3=>let y2:=s3.2.2.2.2.1;let y1:=(⟨y2,s3.2.1,s3.2.2.1⟩:Cur);let y0:=({ (zu y1 2) with b:=y2 }:Cur); (oN (zM y1 2) (cond (ilt s3.1 (zG .i64 1 (zW y1 2))) (oN (zhF y0) (oN (few (ln (ap s3.2.2.2.1 [(zkA y0)]))) (r2 ((zG .i64 s3.1 1),((zf8 y0).i,((zf8 y0).h,((ap s3.2.2.2.1 [(zkA y0)]),(y2,())))))))) (some [(.agg [(.s .u8 y2),(.i .i64 (zu y1 2).i),(.i .i64 (zu y1 2).h)]),(aS (.sl (.sl .ins)) s3.2.2.2.1)])))) (0,(c.i,(c.h,([],(c.b,()))))))
def zJ4:FuncId->Nat->Option Tmpl:=zo [(81,0,{ n:=19,tm:=[(0,.lp 0 0),(3,.sl 0 []),(4,ti)],lo:=[(0,[.sl 1 [],ti,ti])],ro:=[(0,(.sl (.sl .ins)),true),(1,.u8,false)] })]
theorem zKW (N:Nat)(c:Cur)  : zej (cQ zja zir zM3 zg0) zJ4 N 12 81 [false,true,true] (zbu c) []=zrl N c:=by kernel_rfl
def ziU (c:Cur)(s:Cur)(v0:List (List (List Ins))):Prop:=(∃N,zrl N c=some (AV.agg (zbu s) :: [aS (.sl (.sl .ins)) v0]))/\(s.b=c.b/\0<=s.i)/\(1<=v0.length/\v0.length<=2/\∀p∈v0,1<=p.length/\p.length<=2/\∀x∈p,ze2 x=true)
def znq (c:Cur)  : Bool:=pc (∃s v0,ziU c s v0)
def znr (c:Cur)  : Cur×List (List (List Ins)):=Classical.epsilon fun r=>ziU c r.1 r.2
def zns (c:Cur)  : Cur:=bif znq c then (znr c).1 else ⟨[],0,0⟩
def zzh (c:Cur)  : List (List (List Ins)):=(znr c).2
theorem zNd {c:Cur}(h:znq c=true):ziU c (zns c) (zzh c):=by
 obtain ⟨s,v0,h2⟩:=zB.1 h;have h3:ziU c (znr c).1 (znr c).2:=Classical.epsilon_spec (p:=fun r=>ziU c r.1 r.2) ⟨(s,v0),h2⟩;unfold zns;rw[h,cT];exact h3
def zmy:List CV->List AV->Option (Bool×List CV×List AV)
 | [.s .u8 b,.i .i64 c,.i .i64 d],[]=>some ((znq (⟨b,c,d⟩:Cur)),zbu (zns (⟨b,c,d⟩:Cur)),[aS (.sl (.sl .ins)) (zzh (⟨b,c,d⟩:Cur))])
 | _,_=>none
theorem zIR (c:Cur)(hb:zbq big (.agg (zbu c) :: []))(hc:znq c=true):∃N,zrl N c=some (.agg (zbu (zns c)) :: [aS (.sl (.sl .ins)) (zzh c)]):=by
 exact (zNd hc).1
theorem zDv:zcD Tryz.prog 81 [false,true,true] zmy:=by
 refine zbw (zb7 zdz zV zJf zn) (zcO (by kernel_rfl)) ?_
 intro cs avs cs' rs hl hr h;have hb:=zbI hr;unfold zmy at h;split at h
 .obtain ⟨hc,rfl,rfl⟩:=zbU h;obtain ⟨N,hN⟩:=zIR _ (by exact hb) hc
  exact ⟨rfl,_,N,12,(zKW N _ ).trans hN⟩
 .cases h
def zM4:zcv:=[(81,([false,true,true],zmy))]++zM3
theorem zJg:zbM zM4:=zcT zJf (by
 intro x hx;simp only[qH,qU,or_false]at hx;rcases hx with rfl
 .exact zDv)
def zrk (N:Nat)(c:Cur)  : OA :=
 let y5:=(zW c 4);let y0:=({ (zu c 4) with b:=c.b }:Cur);let y4:=(zhB y0 4);let y3:=(zca y0 4);let y1:=({ y3 with b:=c.b }:Cur);let y2:=({ (zca y1 2) with b:=c.b }:Cur); (oN (zM c 4) (oN (zeI y0 4) (cond (nB y4) (cond (ine y5 2) (oN (zeI y1 2) (cond (zhB y1 2) (oN (zM y2 256) (some [(.agg [(.s .u8 c.b),(.i .i64 (zu y2 256).i),(.i .i64 (zu y2 256).h)]),(.agg [(.i .i64 y5),(.i .i64 (zW y2 256)),(.b (nB y4))])])) (some [(.agg [(.s .u8 c.b),(.i .i64 (zca y1 2).i),(.i .i64 (zca y1 2).h)]),(.agg [(.i .i64 y5),(.i .i64 0),(.b (nB y4))])]))) (some [(.agg [(.s .u8 c.b),(.i .i64 y3.i),(.i .i64 y3.h)]),(.agg [(.i .i64 y5),(.i .i64 0),(.b (nB y4))])])) (some [(.agg [(.s .u8 c.b),(.i .i64 y3.i),(.i .i64 y3.h)]),(.agg [(.i .i64 y5),(.i .i64 0),(.b (nB y4))])]))))
theorem zKV (N:Nat)(c:Cur)  : zej (cQ zja zir zM4 zg0) (zo []) N 12 233 [false,true,true] (zbu c) []=zrk N c:=by kernel_rfl
def ziT (c:Cur)(s:Cur)(v0:Ctl):Prop:=(∃N,zrk N c=some (AV.agg (zbu s) :: [.agg (zMg v0)]))/\(s.b=c.b/\0<=s.i)/\(True)
def zkz (c:Cur)  : Bool:=pc (∃s v0,ziT c s v0)
def znp (c:Cur)  : Cur×Ctl:=Classical.epsilon fun r=>ziT c r.1 r.2
def zfA (c:Cur)  : Cur:=bif zkz c then (znp c).1 else ⟨[],0,0⟩
def zhE (c:Cur)  : Ctl:=(znp c).2
theorem zNc {c:Cur}(h:zkz c=true):ziT c (zfA c) (zhE c):=by
 obtain ⟨s,v0,h2⟩:=zB.1 h;have h3:ziT c (znp c).1 (znp c).2:=Classical.epsilon_spec (p:=fun r=>ziT c r.1 r.2) ⟨(s,v0),h2⟩;unfold zfA;rw[h,cT];exact h3
def zmx:List CV->List AV->Option (Bool×List CV×List AV)
 | [.s .u8 b,.i .i64 c,.i .i64 d],[]=>some ((zkz (⟨b,c,d⟩:Cur)),zbu (zfA (⟨b,c,d⟩:Cur)),[.agg (zMg (zhE (⟨b,c,d⟩:Cur)))])
 | _,_=>none
theorem zIQ (c:Cur)(hb:zbq big (.agg (zbu c) :: []))(hc:zkz c=true):∃N,zrk N c=some (.agg (zbu (zfA c)) :: [.agg (zMg (zhE c))]):=by
 exact (zNc hc).1
theorem zDu:zcD Tryz.prog 233 [false,true,true] zmx:=by
 refine zbw (zb7 zdz zV zJg zn) (zcO (by kernel_rfl)) ?_
 intro cs avs cs' rs hl hr h;have hb:=zbI hr;unfold zmx at h;split at h
 .obtain ⟨hc,rfl,rfl⟩:=zbU h;obtain ⟨N,hN⟩:=zIQ _ (by exact hb) hc
  exact ⟨rfl,_,N,12,(zKV N _ ).trans hN⟩
 .cases h
def zM5:zcv:=[(233,([false,true,true],zmx))]++zM4
theorem zzd:zbM zM5:=zcT zJg (by
 intro x hx;simp only[qH,qU,or_false]at hx;rcases hx with rfl
 .exact zDu)
def zrn (N:Nat)(c:Cur)  : OA :=
 let y13:=({ (zu c 2) with b:=c.b }:Cur);let y8:=(zW c 2);let y2:=(zW y13 2);let y1:=({ (zu y13 2) with b:=c.b }:Cur);let y10:=(zu y1 24);let y5:=(zW y1 24);let y0:=({ y10 with b:=c.b }:Cur);let y14:=(zu y0 8);let y12:=({ (zu y0 4) with b:=c.b }:Cur);let y11:=({ y14 with b:=c.b }:Cur);let y9:=({ (zu y0 16) with b:=c.b }:Cur);let y7:=({ (zb0 y0 [16,17]) with b:=c.b }:Cur);let y6:=({ (zb0 y0 [13,13,14,15]) with b:=c.b }:Cur);let y4:=({ (zu y11 4) with b:=c.b }:Cur);let y3:=({ (zu y12 8) with b:=c.b }:Cur); (share (oN (zcz y0 [13,13,14,15]) (oN (zM y6 8) (some [(.agg [(.s .u8 c.b),(.i .i64 (zu y6 8).i),(.i .i64 (zu y6 8).h)]),(.agg [(.i .i64 (zde y0 [13,13,14,15])),(.i .i64 y8),(.i .i64 y2),(.i .i64 (zW y6 8)),(.i .i64 0),(.i .i64 0)])]))) (fun t5=>(share (cond (ieq y5 16) (oN (zcz y0 [16,17]) (oN (zM y7 4) (some [(.agg [(.s .u8 c.b),(.i .i64 (zu y7 4).i),(.i .i64 (zu y7 4).h)]),(.agg [(.i .i64 (zde y0 [16,17])),(.i .i64 y8),(.i .i64 y2),(.i .i64 (zW y7 4)),(.i .i64 0),(.i .i64 0)])]))) (some [(.agg [(.s .u8 c.b),(.i .i64 y10.i),(.i .i64 y10.h)]),(.agg [(.i .i64 1),(.i .i64 y8),(.i .i64 y2),(.i .i64 0),(.i .i64 0),(.i .i64 0)])])) (fun t4=>(share (oN (zM y0 4) (oN (zM y12 8) (oN (zcz y3 [3,3,1,2]) (some [(.agg [(.s .u8 c.b),(.i .i64 (zb0 y3 [3,3,1,2]).i),(.i .i64 (zb0 y3 [3,3,1,2]).h)]),(.agg [(.i .i64 2),(.i .i64 y8),(.i .i64 y2),(.i .i64 (zW y0 4)),(.i .i64 (zW y12 8)),(.i .i64 (zde y3 [3,3,1,2]))])])))) (fun t3=>(share (oN (zM y0 4) (some [(.agg [(.s .u8 c.b),(.i .i64 (zu y0 4).i),(.i .i64 (zu y0 4).h)]),(.agg [(.i .i64 3),(.i .i64 y8),(.i .i64 y2),(.i .i64 (zW y0 4)),(.i .i64 0),(.i .i64 0)])])) (fun t2=>(share (cond (ieq y5 7) (oN (zM y0 8) (some [(.agg [(.s .u8 c.b),(.i .i64 y14.i),(.i .i64 y14.h)]),(.agg [(.i .i64 6),(.i .i64 y8),(.i .i64 y2),(.i .i64 (zW y0 8)),(.i .i64 0),(.i .i64 0)])])) (cond (ieq y5 8) (oN (zkz y0) (cond ((zhE y0).Open) (some [(.agg [(.s .u8 c.b),(.i .i64 (zfA y0).i),(.i .i64 (zfA y0).h)]),(.agg [(.i .i64 7),(.i .i64 y8),(.i .i64 y2),(.i .i64 (zhE y0).Traps),(.i .i64 (zhE y0).Post),(.i .i64 1)])]) (some [(.agg [(.s .u8 c.b),(.i .i64 (zfA y0).i),(.i .i64 (zfA y0).h)]),(.agg [(.i .i64 7),(.i .i64 y8),(.i .i64 y2),(.i .i64 (zhE y0).Traps),(.i .i64 (zhE y0).Post),(.i .i64 0)])]))) (cond (ieq y5 9) (oN (zM y0 8) (oN (zM y11 4) (oN (zM y4 100) (some [(.agg [(.s .u8 c.b),(.i .i64 (zu y4 100).i),(.i .i64 (zu y4 100).h)]),(.agg [(.i .i64 8),(.i .i64 y8),(.i .i64 y2),(.i .i64 (zW y0 8)),(.i .i64 (zW y11 4)),(.i .i64 (zW y4 100))])])))) (cond (ieq y5 10) (oN (zM y0 8) (some [(.agg [(.s .u8 c.b),(.i .i64 y14.i),(.i .i64 y14.h)]),(.agg [(.i .i64 9),(.i .i64 y8),(.i .i64 y2),(.i .i64 (zW y0 8)),(.i .i64 0),(.i .i64 0)])])) (cond (ieq y5 11) (some [(.agg [(.s .u8 c.b),(.i .i64 y10.i),(.i .i64 y10.h)]),(.agg [(.i .i64 10),(.i .i64 y8),(.i .i64 y2),(.i .i64 0),(.i .i64 0),(.i .i64 0)])]) (cond (ieq y5 12) (oN (zM y0 16) (oN (zM y9 100) (some [(.agg [(.s .u8 c.b),(.i .i64 (zu y9 100).i),(.i .i64 (zu y9 100).h)]),(.agg [(.i .i64 11),(.i .i64 y8),(.i .i64 y2),(.i .i64 (zW y0 16)),(.i .i64 (zW y9 100)),(.i .i64 0)])]))) (cond (ieq y5 13) (oN (zM y0 16) (some [(.agg [(.s .u8 c.b),(.i .i64 (zu y0 16).i),(.i .i64 (zu y0 16).h)]),(.agg [(.i .i64 12),(.i .i64 y8),(.i .i64 y2),(.i .i64 (zW y0 16)),(.i .i64 0),(.i .i64 0)])])) (cond (ieq y5 14) (cond (ieq y5 14) t5 t4) (cond (ieq y5 15) t5 t4))))))))) (fun t0=>(share (cond (ieq y5 4) (oN (zM y0 100) (some [(.agg [(.s .u8 c.b),(.i .i64 (zu y0 100).i),(.i .i64 (zu y0 100).h)]),(.agg [(.i .i64 4),(.i .i64 y8),(.i .i64 y2),(.i .i64 (zW y0 100)),(.i .i64 0),(.i .i64 0)])])) (cond (ieq y5 5) (cond (ieq y5 5) (some [(.agg [(.s .u8 c.b),(.i .i64 y10.i),(.i .i64 y10.h)]),(.agg [(.i .i64 5),(.i .i64 y8),(.i .i64 y2),(.i .i64 0),(.i .i64 0),(.i .i64 0)])]) t0) (cond (ieq y5 6) (some [(.agg [(.s .u8 c.b),(.i .i64 y10.i),(.i .i64 y10.h)]),(.agg [(.i .i64 5),(.i .i64 y8),(.i .i64 y2),(.i .i64 0),(.i .i64 0),(.i .i64 0)])]) t0))) (fun t1=>(share (cond (ieq y5 2) (cond (ieq y5 2) t2 t1) (cond (ieq y5 3) t2 t1)) (fun t6=>(oN (zM c 2) (oN (zM y13 2) (oN (zM y1 24) (cond (ieq y5 0) (cond (ieq y5 0) t3 t6) (cond (ieq y5 1) t3 t6)))))))))))))))))))
theorem zKY (N:Nat)(c:Cur)  : zej (cQ zja zir zM5 zg0) (zo []) N 12 108 [false,true,true] (zbu c) []=zrn N c:=by kernel_rfl
def ziV (c:Cur)(s:Cur)(v0:GAct):Prop:=(∃N,zrn N c=some (AV.agg (zbu s) :: [aT .act v0]))/\(s.b=c.b/\0<=s.i)/\(True)
def zgv (c:Cur)  : Bool:=pc (∃s v0,ziV c s v0)
def znu (c:Cur)  : Cur×GAct:=Classical.epsilon fun r=>ziV c r.1 r.2
def zeD (c:Cur)  : Cur:=bif zgv c then (znu c).1 else ⟨[],0,0⟩
def zlf (c:Cur)  : GAct:=(znu c).2
theorem zNe {c:Cur}(h:zgv c=true):ziV c (zeD c) (zlf c):=by
 obtain ⟨s,v0,h2⟩:=zB.1 h;have h3:ziV c (znu c).1 (znu c).2:=Classical.epsilon_spec (p:=fun r=>ziV c r.1 r.2) ⟨(s,v0),h2⟩;unfold zeD;rw[h,cT];exact h3
def zmz:List CV->List AV->Option (Bool×List CV×List AV)
 | [.s .u8 b,.i .i64 c,.i .i64 d],[]=>some ((zgv (⟨b,c,d⟩:Cur)),zbu (zeD (⟨b,c,d⟩:Cur)),[aT .act (zlf (⟨b,c,d⟩:Cur))])
 | _,_=>none
theorem zIU (c:Cur)(hb:zbq big (.agg (zbu c) :: []))(hc:zgv c=true):∃N,zrn N c=some (.agg (zbu (zeD c)) :: [aT .act (zlf c)]):=by
 exact (zNe hc).1
theorem zDy:zcD Tryz.prog 108 [false,true,true] zmz:=by
 refine zbw (zb7 zdz zV zzd zn) (zcO (by kernel_rfl)) ?_
 intro cs avs cs' rs hl hr h;have hb:=zbI hr;unfold zmz at h;split at h
 .obtain ⟨hc,rfl,rfl⟩:=zbU h;obtain ⟨N,hN⟩:=zIU _ (by exact hb) hc
  exact ⟨rfl,_,N,12,(zKY N _ ).trans hN⟩
 .cases h
def ztP (N:Nat)  : OA :=
 (iter (σ:=(Int×(lA×Unit))) N (fun r1 s2=>(cond (ilt s2.1 2) (iter (σ:=(Int×(Int×(lA×Unit)))) N (fun r3 s4=>(cond (ilt s4.2.1 2) (iter (σ:=(Int×(Int×(Int×(lA×Unit))))) N (fun r5 s6=>let y0:=(ap s6.2.2.2.1 [(⟨2,s6.1,s6.2.1,s6.2.2.1,(zG .i64 s6.2.2.1 (zkG .i64 3 s6.2.1)),3⟩:GAct),(⟨3,s6.1,s6.2.1,s6.2.2.1,0,0⟩:GAct)]); (cond (ilt s6.2.2.1 3) (oN (few (ln y0)) (r5 (s6.1,(s6.2.1,((zG .i64 s6.2.2.1 1),(y0,())))))) (r3 (s6.1,((zG .i64 s6.2.1 1),(s6.2.2.2.1,())))))) (s4.1,(s4.2.1,(0,(s4.2.2.1,()))))) (r1 ((zG .i64 s4.1 1),(s4.2.2.1,()))))) (s2.1,(0,(s2.2.1,())))) (some [(aS .act s2.2.1)]))) (0,([],())))
def zEA:FuncId->Nat->Option Tmpl:=zo [(192,0,{ n:=34,tm:=[(1,.sl 0 []),(2,ti)],lo:=[],ro:=[(0,.act,true)] }),(192,2,{ n:=34,tm:=[(1,.sl 0 []),(2,ti),(3,ti)],lo:=[],ro:=[(0,.act,true)] }),(192,4,{ n:=34,tm:=[(1,.sl 0 []),(2,ti),(3,ti),(4,ti)],lo:=[],ro:=[(0,.act,true)] })]
def zgL  (v0:List GAct):Prop:=(∃N,ztP N=some [aS .act v0])/\(v0.length<=45)
def zkD  : Bool:=pc (∃v0,zgL v0)
def zvD  : List GAct:=Classical.epsilon fun r=>zgL r
def zny  : List GAct:=(zvD)
theorem zJu  (h:zkD=true):zgL zny:=by
 obtain ⟨v0,h2⟩:=zB.1 h;have h3:zgL (zvD):=Classical.epsilon_spec (p:=fun r=>zgL r) ⟨v0,h2⟩;exact h3
def zq8:Run:=rF0 (zkD,[aS .act zny])
theorem zD7  (hc:zkD=true):∃N,ztP N  = some [aS .act zny]:=by
 exact (zJu hc).1
theorem zyO:uV 192 zq8:=kF0 zdz zV zzd zn zEA zD7
def zM6:zcv:=[(108,([false,true,true],zmz))]++zM5
theorem zJh:zbM zM6:=zcT zzd (by
 intro x hx;simp only[qH,qU,or_false]at hx;rcases hx with rfl
 .exact zDy)
def zNI:zK:=[(192,zq8)]++zja
theorem zNJ:zy zNI:=zf zyO zdz
def zpI (N:Nat)(c:Cur)(a0:Int):OA:=
 (oN (zeI c 5) (cond (nB (zhB c 5)) (oN zkD (iter (σ:=(Int×(Int×(Int×(Int×(lA×((List Int)×Unit))))))) N (fun r3 s4=>let y6:=s4.2.2.2.2.2.1;let y4:=(zG .i64 s4.1 1);let y2:=(⟨y6,s4.2.2.1,s4.2.2.2.1⟩:Cur);let y0:=({ (zu y2 y4) with b:=y6 }:Cur);let y8:=(ap s4.2.2.2.2.1 [(zlf y0)]); (oN (zM y2 y4) (cond (ilt s4.2.1 (zW y2 y4)) (oN (zgv y0) (oN (few (ln y8)) (r3 (s4.1,((zG .i64 s4.2.1 1),((zeD y0).i,((zeD y0).h,(y8,(y6,()))))))))) (some [(.agg [(.s .u8 y6),(.i .i64 (zu y2 y4).i),(.i .i64 (zu y2 y4).h)]),(aS .act s4.2.2.2.2.1)])))) (a0,(0,((zca c 5).i,((zca c 5).h,(zny,(c.b,())))))))) (iter (σ:=(Int×(Int×(Int×(Int×(lA×((List Int)×Unit))))))) N (fun r3 s4=>let y7:=s4.2.2.2.2.2.1;let y5:=(zG .i64 s4.1 1);let y3:=(⟨y7,s4.2.2.1,s4.2.2.2.1⟩:Cur);let y1:=({ (zu y3 y5) with b:=y7 }:Cur);let y9:=(ap s4.2.2.2.2.1 [(zlf y1)]); (oN (zM y3 y5) (cond (ilt s4.2.1 (zW y3 y5)) (oN (zgv y1) (oN (few (ln y9)) (r3 (s4.1,((zG .i64 s4.2.1 1),((zeD y1).i,((zeD y1).h,(y9,(y7,()))))))))) (some [(.agg [(.s .u8 y7),(.i .i64 (zu y3 y5).i),(.i .i64 (zu y3 y5).h)]),(aS .act s4.2.2.2.2.1)])))) (a0,(0,((zca c 5).i,((zca c 5).h,([],(c.b,())))))))))
def zGD:FuncId->Nat->Option Tmpl:=zo [(82,0,{ n:=26,tm:=[(0,.lp 0 0),(1,ti),(5,.sl 0 []),(6,ti)],lo:=[(0,[.sl 1 [],ti,ti])],ro:=[(0,.act,true),(1,.u8,false)] })]
theorem zI9 (N:Nat)(c:Cur)(a0:Int):zej (cQ zNI zir zM6 zg0) zGD N 12 82 [false,true,true] (zbu c) [aI a0]=zpI N c a0:=by kernel_rfl
def zhG (c:Cur)(a0:Int)(s:Cur)(v0:List GAct):Prop:=(∃N,zpI N c a0=some (AV.agg (zbu s) :: [aS .act v0]))/\(s.b=c.b/\0<=s.i)/\(ln v0<=45+a0)
def zlJ (c:Cur)(a0:Int):Bool:=pc (∃s v0,zhG c a0 s v0)
def zlK (c:Cur)(a0:Int):Cur×List GAct:=Classical.epsilon fun r=>zhG c a0 r.1 r.2
def zlL (c:Cur)(a0:Int):Cur:=bif zlJ c a0 then (zlK c a0).1 else ⟨[],0,0⟩
def zvC (c:Cur)(a0:Int):List GAct:=(zlK c a0).2
theorem zK9 {c:Cur}{a0:Int}(h:zlJ c a0=true):zhG c a0 (zlL c a0) (zvC c a0):=by
 obtain ⟨s,v0,h2⟩:=zB.1 h;have h3:zhG c a0 (zlK c a0).1 (zlK c a0).2:=Classical.epsilon_spec (p:=fun r=>zhG c a0 r.1 r.2) ⟨(s,v0),h2⟩;unfold zlL;rw[h,cT];exact h3
def zk4:List CV->List AV->Option (Bool×List CV×List AV)
 | [.s .u8 b,.i .i64 c,.i .i64 d],[.one (.i .i64 e)]=>some ((zlJ (⟨b,c,d⟩:Cur) e),zbu (zlL (⟨b,c,d⟩:Cur) e),[aS .act (zvC (⟨b,c,d⟩:Cur) e)])
 | _,_=>none
theorem zGq (c:Cur)(a0:Int)(hb:zbq big (.agg (zbu c) :: [aI a0]))(hc:zlJ c a0=true):∃N,zpI N c a0=some (.agg (zbu (zlL c a0)) :: [aS .act (zvC c a0)]):=by
 exact (zK9 hc).1
theorem zBd:zcD Tryz.prog 82 [false,true,true] zk4:=by
 refine zbw (zb7 zNJ zV zJh zn) (zcO (by kernel_rfl)) ?_
 intro cs avs cs' rs hl hr h;have hb:=zbI hr;unfold zk4 at h;split at h
 .obtain ⟨hc,rfl,rfl⟩:=zbU h;obtain ⟨N,hN⟩:=zGq _ _ (by exact hb) hc
  exact ⟨rfl,_,N,12,(zI9 N _ _ ).trans hN⟩
 .cases h
def zR2:zcv:=[(82,([false,true,true],zk4))]++zM6
theorem zQt:zbM zR2:=zcT zJh (by
 intro x hx;simp only[qH,qU,or_false]at hx;rcases hx with rfl
 .exact zBd)
def zGM:zcv:=zR2
theorem zr8:zbM zGM:=zQt
def zNK:zK:=zHp
theorem zNL:zy zNK:=zKl
def zAw:zK:=zNK
theorem zlP:zy zAw:=zNL
def zG7 (l:List Int):Prop:=l.length=12/\∀i:Int,0<=i->i<12->0<=ix l i 0/\ix l i 0<10000
def ztN (N:Nat)(c:Cur)  : OA :=
 let y0:=(zb0 c [0,0,0,1,1,2,(-1),9223372036854775807]); (oN (zcz c [0,0,0,1,1,2,(-1),9223372036854775807]) (some [(.agg [(.s .u8 c.b),(.i .i64 y0.i),(.i .i64 y0.h)]),(aI (zde c [0,0,0,1,1,2,(-1),9223372036854775807]))]))
theorem zMR (N:Nat)(c:Cur)  : zej (cQ zAw zir zGM zg0) (zo []) N 12 109 [false,true,true] (zbu c) []=ztN N c:=by kernel_rfl
def zkC (c:Cur)(s:Cur)(v0:Int):Prop:=(∃N,ztN N c=some (AV.agg (zbu s) :: [aI v0]))/\(s.b=c.b/\0<=s.i)/\(True)
def zl7 (c:Cur)  : Bool:=pc (∃s v0,zkC c s v0)
def zpx (c:Cur)  : Cur×Int:=Classical.epsilon fun r=>zkC c r.1 r.2
def zjJ (c:Cur)  : Cur:=bif zl7 c then (zpx c).1 else ⟨[],0,0⟩
def zwb (c:Cur)  : Int:=(zpx c).2
theorem zO9 {c:Cur}(h:zl7 c=true):zkC c (zjJ c) (zwb c):=by
 obtain ⟨s,v0,h2⟩:=zB.1 h;have h3:zkC c (zpx c).1 (zpx c).2:=Classical.epsilon_spec (p:=fun r=>zkC c r.1 r.2) ⟨(s,v0),h2⟩;unfold zjJ;rw[h,cT];exact h3
def zot:List CV->List AV->Option (Bool×List CV×List AV)
 | [.s .u8 b,.i .i64 c,.i .i64 d],[]=>some ((zl7 (⟨b,c,d⟩:Cur)),zbu (zjJ (⟨b,c,d⟩:Cur)),[aI (zwb (⟨b,c,d⟩:Cur))])
 | _,_=>none
theorem zKR (c:Cur)(hb:zbq big (.agg (zbu c) :: []))(hc:zl7 c=true):∃N,ztN N c=some (.agg (zbu (zjJ c)) :: [aI (zwb c)]):=by
 exact (zO9 hc).1
theorem zFS:zcD Tryz.prog 109 [false,true,true] zot:=by
 refine zbw (zb7 zlP zV zr8 zn) (zcO (by kernel_rfl)) ?_
 intro cs avs cs' rs hl hr h;have hb:=zbI hr;unfold zot at h;split at h
 .obtain ⟨hc,rfl,rfl⟩:=zbU h;obtain ⟨N,hN⟩:=zKR _ (by exact hb) hc
  exact ⟨rfl,_,N,12,(zMR N _ ).trans hN⟩
 .cases h
def zM7:zcv:=[(109,([false,true,true],zot))]++zGM
theorem zJi:zbM zM7:=zcT zr8 (by
 intro x hx;simp only[qH,qU,or_false]at hx;rcases hx with rfl
 .exact zFS)
def zro (N:Nat)(c:Cur)  : OA :=
 let y2:=(zlf c);let y1:=({ (zeD c) with b:=c.b }:Cur);let y4:=(zW y1 10);let y0:=({ (zu y1 10) with b:=c.b }:Cur);let y3:=(zb0 y0 [(-1),4,8,16,100,9223372036854775807]); (oN (zgv c) (oN (zM y1 10) (cond (ieq y4 0) (oN (zM y0 20) (some [(.agg [(.s .u8 c.b),(.i .i64 (zu y0 20).i),(.i .i64 (zu y0 20).h)]),(.agg [(.i .i64 (wsub .i64 (zW y0 20) 1)),(.i .i64 y2.M),(.i .i64 y2.G),(.i .i64 y2.X),(.i .i64 y2.Y),(.i .i64 y2.Z)])])) (cond (ieq y4 1) (oN (zl7 y0) (some [(.agg [(.s .u8 c.b),(.i .i64 (zjJ y0).i),(.i .i64 (zjJ y0).h)]),(.agg [(.i .i64 y2.Kind),(.i .i64 (zwb y0)),(.i .i64 y2.G),(.i .i64 y2.X),(.i .i64 y2.Y),(.i .i64 y2.Z)])])) (cond (ieq y4 2) (oN (zcz y0 [(-1),4,8,16,100,9223372036854775807]) (some [(.agg [(.s .u8 c.b),(.i .i64 y3.i),(.i .i64 y3.h)]),(.agg [(.i .i64 y2.Kind),(.i .i64 y2.M),(.i .i64 y2.G),(.i .i64 (zde y0 [(-1),4,8,16,100,9223372036854775807])),(.i .i64 y2.Y),(.i .i64 y2.Z)])])) (cond (ieq y4 3) (oN (zcz y0 [(-1),0,1,4]) (some [(.agg [(.s .u8 c.b),(.i .i64 (zb0 y0 [(-1),0,1,4]).i),(.i .i64 (zb0 y0 [(-1),0,1,4]).h)]),(.agg [(.i .i64 y2.Kind),(.i .i64 y2.M),(.i .i64 y2.G),(.i .i64 y2.X),(.i .i64 y2.Y),(.i .i64 (zde y0 [(-1),0,1,4]))])])) (some [(.agg [(.s .u8 c.b),(.i .i64 (zu y1 10).i),(.i .i64 (zu y1 10).h)]),(.agg [(.i .i64 y2.Kind),(.i .i64 y2.M),(.i .i64 y2.G),(.i .i64 y2.X),(.i .i64 y2.Y),(.i .i64 y2.Z)])])))))))
theorem zKZ (N:Nat)(c:Cur)  : zej (cQ zAw zir zM7 zg0) (zo []) N 12 45 [false,true,true] (zbu c) []=zro N c:=by kernel_rfl
def ziW (c:Cur)(s:Cur)(v0:GAct):Prop:=(∃N,zro N c=some (AV.agg (zbu s) :: [aT .act v0]))/\(s.b=c.b/\0<=s.i)/\(True)
def znv (c:Cur)  : Bool:=pc (∃s v0,ziW c s v0)
def znw (c:Cur)  : Cur×GAct:=Classical.epsilon fun r=>ziW c r.1 r.2
def znx (c:Cur)  : Cur:=bif znv c then (znw c).1 else ⟨[],0,0⟩
def zzk (c:Cur)  : GAct:=(znw c).2
theorem zNf {c:Cur}(h:znv c=true):ziW c (znx c) (zzk c):=by
 obtain ⟨s,v0,h2⟩:=zB.1 h;have h3:ziW c (znw c).1 (znw c).2:=Classical.epsilon_spec (p:=fun r=>ziW c r.1 r.2) ⟨(s,v0),h2⟩;unfold znx;rw[h,cT];exact h3
def zmA:List CV->List AV->Option (Bool×List CV×List AV)
 | [.s .u8 b,.i .i64 c,.i .i64 d],[]=>some ((znv (⟨b,c,d⟩:Cur)),zbu (znx (⟨b,c,d⟩:Cur)),[aT .act (zzk (⟨b,c,d⟩:Cur))])
 | _,_=>none
theorem zIV (c:Cur)(hb:zbq big (.agg (zbu c) :: []))(hc:znv c=true):∃N,zro N c=some (.agg (zbu (znx c)) :: [aT .act (zzk c)]):=by
 exact (zNf hc).1
theorem zDz:zcD Tryz.prog 45 [false,true,true] zmA:=by
 refine zbw (zb7 zlP zV zJi zn) (zcO (by kernel_rfl)) ?_
 intro cs avs cs' rs hl hr h;have hb:=zbI hr;unfold zmA at h;split at h
 .obtain ⟨hc,rfl,rfl⟩:=zbU h;obtain ⟨N,hN⟩:=zIV _ (by exact hb) hc
  exact ⟨rfl,_,N,12,(zKZ N _ ).trans hN⟩
 .cases h
def zUn:zcv:=[(45,([false,true,true],zmA))]++zM7
theorem zQu:zbM zUn:=zcT zJi (by
 intro x hx;simp only[qH,qU,or_false]at hx;rcases hx with rfl
 .exact zDz)
def zhP (N:Nat)(a0:List Int):OA:=
 (iter (σ:=(Int×(Int×((List Int)×((List Int)×Unit))))) N (fun r2 s3=>let y4:=s3.2.2.1; (cond (ilt s3.2.1 (ln y4)) (cond (ilt s3.2.1 4000) (oN (inb s3.2.1 (ln y4)) (r2 ((wand .i64 (zG .i64 (zG .i64 (zkG .i64 s3.1 131) (wcv .i64 (ix y4 s3.2.1 0))) 7) 1073741823),((zG .i64 s3.2.1 1),(y4,(s3.2.2.2.1,())))))) (iter (σ:=(Int×(Int×(Int×((List Int)×((List Int)×Unit)))))) N (fun r4 s5=>let y0:=(⟨s5.2.2.2.2.1,s5.2.1,s5.2.2.1⟩:Cur);let y2:=(ap s5.2.2.2.1 [(zW y0 10000)]); (cond (ilt s5.1 12) (oN (zM y0 10000) (oN (few (ln y2)) (r4 ((zG .i64 s5.1 1),((zu y0 10000).i,((zu y0 10000).h,(y2,(s5.2.2.2.2.1,())))))))) (some [(aS .int s5.2.2.2.1)]))) (0,(0,(s3.1,([],(y4,()))))))) (iter (σ:=(Int×(Int×(Int×((List Int)×((List Int)×Unit)))))) N (fun r4 s5=>let y1:=(⟨s5.2.2.2.2.1,s5.2.1,s5.2.2.1⟩:Cur);let y3:=(ap s5.2.2.2.1 [(zW y1 10000)]); (cond (ilt s5.1 12) (oN (zM y1 10000) (oN (few (ln y3)) (r4 ((zG .i64 s5.1 1),((zu y1 10000).i,((zu y1 10000).h,(y3,(s5.2.2.2.2.1,())))))))) (some [(aS .int s5.2.2.2.1)]))) (0,(0,(s3.1,([],(y4,())))))))) ((zG .i64 94701 (ln a0)),(0,(a0,([],())))))
def zzt:FuncId->Nat->Option Tmpl:=zo [(43,0,{ n:=32,tm:=[(0,.sl 0 []),(3,ti),(4,ti)],lo:=[],ro:=[(0,.u8,false),(1,.int,true)],sk:=[(0,2,0,.sl 1 [])] }),(24,0,{ n:=19,tm:=[(3,.lp 0 0),(4,.sl 0 []),(5,ti)],lo:=[(0,[.sl 1 [],ti,ti])],ro:=[(0,.int,true),(1,.u8,false)] })]
def zfv (a0:List Int)(v0:List Int):Prop:=(∃N,zhP N a0=some [aS .int v0])/\(zG7 v0)
def zeP (a0:List Int):Bool:=pc (∃v0,zfv a0 v0)
def zrb (a0:List Int):List Int:=Classical.epsilon fun r=>zfv a0 r
def zf5 (a0:List Int):List Int:=(zrb a0)
theorem zra {a0:List Int}(h:zeP a0=true):zfv a0 (zf5 a0):=by
 obtain ⟨v0,h2⟩:=zB.1 h;have h3:zfv a0 (zrb a0):=Classical.epsilon_spec (p:=fun r=>zfv a0 r) ⟨v0,h2⟩;exact h3
theorem zEk (a0:List Int)(h:∃N,Ends (fun a=>∃v0,a=[aS .int v0]/\(zG7 v0)) (zhP N a0)):zeP a0=true:=by
 obtain ⟨N,a,e,v0,rfl,h⟩:=h;exact zbk ⟨v0,⟨N,e⟩,h⟩
def zoz:Run:=rF1 (dS .u8) fun b=>(zeP b,[aS .int (zf5 b)])
theorem zy3 (a0:List Int)(hc:zeP a0=true):∃N,zhP N a0=some [aS .int (zf5 a0)]:=by
 exact (zra hc).1
theorem zuj:uV 24 zoz:=kF1 zlP zV zQu zn zzt zy3
theorem zJl {a0:List Int}(h:a0.length<=big):zeP a0=true:=by
 refine zEk a0 (zbK fun N hNN=>?_);unfold zhP oN
 conv=>zeta
 have h12:12<N:=hNN (by rw[znA];omega)
 refine zHA (fun n s=>∃(t:Int) (i:Nat),s=(t,(i:Int),a0,[],())/\i+n=a0.length) ?_ N a0.length _ ⟨_,0,rfl,by omega⟩ (hNN h)
 rintro n s rec ⟨t,i,rfl,hi⟩ hrec
 dsimp only
 refine zyl (fun h1=>zyl (fun h2=>?_) (fun _=>?_)) (fun _=>?_)
 .have hlt:(i:Int)<ln a0:=qG h1;unfold ln at hlt;refine zcc (qL ⟨by omega,by unfold ln;omega⟩) (hrec (n-1) _ (by omega) (by rw[zN (show i<a0.length by omega) h];exact ⟨_,i+1,rfl,by omega⟩))
 all_goals
  refine zHA (fun n s=>∃(k:Nat) (i x:Int) (l:List Int),s=((k:Int),i,x,l,a0,())/\k+n=12/\0<=i/\l.length=k/\∀y∈l,0<=y/\y<10000) ?_ N 12 _ ⟨0,0,t,[],rfl,rfl,Int.le_refl 0,rfl,by simp⟩ h12
  rintro n' s rec' ⟨k,i',x,l,rfl,hk,hi0,hlk,hl⟩ hrec'
  dsimp only
  have hcur:zzv ⟨a0,i',x⟩:=⟨hi0,h⟩;have hx:=zPs hcur (n:=10000) (by omega)
  refine zyl (fun h3=>?_) (fun h3=>⟨_,rfl,l,rfl,?_⟩)
  .have h3':(k:Int)<12:=qG h3;have hnew:∀y∈ap l [zW ⟨a0,i',x⟩ 10000],0<=y/\y<10000:=by
    intro y hy;rcases jQ.1 hy with hy|hy
    .exact hl y hy
    .rw [qE.1 hy];exact hx
   exact zcc (zLs hcur _) (zcc (zTF (by rw[zUi];unfold ln;omega)) (hrec' (n'-1) _ (by omega) (by rw[znR (show -9223372036854775808<=(k:Int)+1 by omega) (by omega)];exact ⟨k+1,_,_,_,rfl,by omega,zJs _ _,by simp[ap,hlk],hnew⟩)))
  .have h3':¬ (k:Int)<12:=j6 h3;exact ⟨by omega,fun j h0 h1=>hl _ (zbJ (qL ⟨h0,by unfold ln;omega⟩) 0)⟩
theorem zIZ {α β:Type}{f:α->β}{l:List α}{x:β}{xs:List β}(h:l.map f=x :: xs):∃a r,l=a :: r/\f a=x/\r.map f=xs:=by
 cases l with
 | nil=>cases h
 | cons a r =>
  simp only[jG,List.cons.injEq]at h;exact ⟨a,r,rfl,h.1,h.2⟩
theorem zTY {a:AV}{ct:CTy}(h:some a.sh=some (false,[ct])):∃c,a = .one c/\c.ty=ct:=by
 cases a with
 | one c =>
  simp only[AV.sh,qC,jJ,List.cons.injEq,and_true,true_and]at h;exact ⟨c,rfl,h⟩
 | agg l=>simp[AV.sh]at h
theorem zUQ {a:AV}{t:Ty}(h:some a.sh=some (false,[.s t])):∃l:List t.den,a = .one (.s t l):=by
 obtain ⟨c,rfl,hc⟩:=zTY h;obtain ⟨l,rfl⟩:=zhT hc;exact ⟨l,rfl⟩
section
open Go Go.ChangeShapes Go.WideShapes Go.ChangeAt
abbrev zDE (_:List Int):Bool:=true
abbrev zBh (l:List Int):Bool:=igt (ln l) 1048576
def zFq:Run:=rF1 (dS .u8) fun b=>(zDE b,[aB (zBh b)])
def zLp (N:Nat)(a0:List Int):OA:=
 (some [(aB (igt (ln a0) 1048576))])
theorem zOH (a0:List Int)(hc:zDE a0=true):∃N,zLp N a0=some [aB (zBh a0)]:=by
 refine ⟨0,?_⟩;unfold zLp
 first|rfl|(simp only [*,zBh,cT,cF]<;>rfl)|simp_all[Ty.cells,zBh]
theorem zKx:uV 6 zFq:=kF1 zlP zV zr8 zn (zo []) zOH
def zRL:zK:=[(6,zFq),(24,zoz),(25,zmH),(26,zmE),(27,zkm),(28,zpk),(31,zvp),(30,zvq),(32,zvd),(29,zq2),(33,zqS)]++zAw
theorem zPY:zy zRL:=zf zKx (zf zuj (zf zpb (zf zo8 (zf zmU (zf zwp (zf zDm (zf zDn (zf zDa (zf zyG (zf zyw zlP))))))))))
def zGU (v:Int):Host:=zfd (zb1 (zb1 (zcX (zcX (zjI [[[⟨1,v⟩,⟨4,1⟩,⟨7,0⟩],[⟨3,9⟩,⟨7,0⟩]]]) 0 0 0 ⟨4,3⟩) 0 1 2 ⟨4,1⟩) 0 0 0) 0 1 2) 0 [0,0,1]
def zGJ:List Int->List Int->Bool
 | [],[]=>true
 | a :: l,b :: m=>ieq a b&&zGJ l m
 | _,_=>false
theorem zHT:∀{l m:List Int},zGJ l m=true->l=m
 | [],[],_=>rfl
 | a :: l,b :: m,h=>by
  simp only[zGJ,qD]at h;rw[show a=b from qG h.1,zHT h.2]
 | [],_ :: _,h=>by cases h
 | _ :: _,[],h=>by cases h
def zQL (v:Int):Bool:=zGJ (ap [] (gAt (zbc (zGU v) 0) 1).Seen) [v]&&(ieq (cellAt [zdd (zGU v) 0 4] 0 1) v&&zoM (zGU v))
theorem zT2:((List.range 100).all fun n=>zQL (n:Int))=true:=by kernel_rfl
theorem zUu {v:Int}(h0:0<=v)(h1:v<100):zQL v=true:=by
 obtain ⟨n,rfl⟩:=Int.eq_ofNat_of_zero_le h0;exact qS.1 zT2 n (j8.2 (by omega))
def zg1 (N:Nat)(a0:List Int):OA:=
 let y4:=(⟨7,0⟩:Ins);let y3:=(zjx (ix (zf5 a0) 0 0) 100);let y2:=(zjI [[[(⟨1,y3⟩:Ins),(⟨4,1⟩:Ins),y4],[(⟨3,9⟩:Ins),y4]]]);let y5:=(zcX y2 0 0 0 (⟨4,3⟩:Slot));let y0:=(zcX y5 0 1 2 (⟨4,1⟩:Slot));let y1:=(zfd (zb1 (zb1 y0 0 0 0) 0 1 2) 0 [0,0,1]); (oN (zDE a0) (cond (zBh a0) oT (oN (zeP a0) (oN (inb 0 (ln (zf5 a0))) (oN (ine 100 0) (oN (zp3 [[[(⟨1,y3⟩:Ins),(⟨4,1⟩:Ins),y4],[(⟨3,9⟩:Ins),y4]]]) (oN (zlw y2 0 0 0 (⟨4,3⟩:Slot)) (oN (zlw y5 0 1 2 (⟨4,1⟩:Slot)) (oN (zi0 y0 0 0 0) (oN (zi0 (zb1 y0 0 0 0) 0 1 2) (oN (zmr (zb1 (zb1 y0 0 0 0) 0 1 2) 0 [0,0,1]) (oN (zsh y1 0) (oN (zsj (zld y1 0) 1) (oN (zop (zsi (zld y1 0) 1) [y3]) (cond (zng (zsi (zld y1 0) 1) [y3]) (oN (zr1 y1 0 4 1) (cond (ieq (zyW y1 0 4 1) y3) (oN (zoi y1) (some [(aB (zj6 y1))])) oF)) oF)))))))))))))))
theorem zza (N:Nat)(a0:List Int):evalFn (cQ zRL zir zGM zg0) (zo []) N 12 4 [aS .u8 a0]=zg1 N a0:=by kernel_rfl
theorem zt2 (N:Nat)(a0:List Int)(hl:a0.length<=big):Ends (fun a=>a=[.one (.b true)]) (zg1 N a0):=by
 unfold zg1 oN
 conv=>zeta
 refine zcc rfl (zyl (fun _=>zOl rfl) (fun _=>zcc (zJl hl) ?_));obtain ⟨hp1,hp2⟩:=(zra (zJl hl)).2;generalize zf5 a0=p at hp1 hp2;have hlp:ln p=12:=by unfold ln;omega
 have mk:=zED (hp2 0 (by omega) (by omega)).1 (show (0:Int)<100 by omega)
 generalize zjx (ix p 0 0) 100=v at mk;have hok:=zUu mk.1 mk.2;unfold zQL zGU at hok;have hps:zL9 [[[(⟨1,v⟩:Ins),⟨4,1⟩,⟨7,0⟩],[⟨3,9⟩,⟨7,0⟩]]]:=⟨by simp,by simp[zPn]⟩
 have s0:SmH (zjI [[[(⟨1,v⟩:Ins),⟨4,1⟩,⟨7,0⟩],[⟨3,9⟩,⟨7,0⟩]]]):=zTa hps;have sm:∀{h:Host},SmH h->zcn h:=fun h=>(zbL _).2 h;refine zcc (zx (zhj.2 (by omega))) (zcc rfl (zcc (zbk hps) ?_))
 generalize zjI [[[(⟨1,v⟩:Ins),⟨4,1⟩,⟨7,0⟩],[⟨3,9⟩,⟨7,0⟩]]]=h0 at s0 hok ⊢;have smSet:∀{h:Host} {m g q:Int} {s:Slot},SmH h->SmH (zcX h m g q s):=fun hs=>zQC hs (fun h0=>zLQ _ _ _ (zjt hs (zdY.1 h0).2));refine zcc (zbk (sm s0)) ?_;have s1:SmH (zcX h0 0 0 0 ⟨4,3⟩):=smSet s0;generalize zcX h0 0 0 0 ⟨4,3⟩=h1 at s1 hok ⊢;refine zcc (zbk (sm s1)) ?_;have s2:SmH (zcX h1 0 1 2 ⟨4,1⟩):=smSet s1;generalize zcX h1 0 1 2 ⟨4,1⟩=h2 at s2 hok ⊢;refine zcc (zbk (sm s2)) ?_;have s3:SmH (zb1 h2 0 0 0):=zFw s2;generalize zb1 h2 0 0 0=h3 at s3 hok ⊢;refine zcc (zbk (sm s3)) ?_;have s4:SmH (zb1 h3 0 1 2):=zFw s3;generalize zb1 h3 0 1 2=h4 at s4 hok ⊢;refine zcc (zbk ⟨sm s4,by simp⟩) ?_
 have s5:SmH (zfd h4 0 [0,0,1]):=zJJ 0 [0,0,1] (h4,[]) s4;generalize zfd h4 0 [0,0,1]=h5 at s5 hok ⊢;simp only[qD]at hok;obtain ⟨k1,k2,k3⟩:=hok;have hseen:SmB (zbc h5 0):=by
  by_cases h:hasB 0 (ln h5.Mons)=true
  .exact zjt s5 h
  .have h:hasB 0 (ln h5.Mons)=false:=by simpa using h
   unfold zbc;rw[h];exact ⟨⟨by simp,by simp⟩,⟨by simp,by simp⟩,by simp⟩
 refine zcc (zbk (sm s5)) (zcc (zbk hseen) (zcc (zbk (zHT k1)) (zcc rfl (zcc (zbk (sm s5)) (zcc k2 (zcc (zbk (sm s5)) (zOl ?_)))))))
 show [AV.one (CV.b (zoM h5))]=_
 rw[k3]
theorem zwj (a0:List Int)(ho:∀c∈zk [aS .u8 a0],CVOk c):∃N,zg1 N a0=some [.one (.b true)]:=by
 have hb:zbq big [aS .u8 a0]:=fun c hc=>CVB.of_ok (ho c hc);have hl:=(len0 hb);exact ⟨1,zSF (G:=fun a=>a=[.one (.b true)]) (zt2 1 a0 hl)⟩
theorem zto:Tryz.f4.params.toList.map (zbE Tryz.prog 4)=[some (false,[.s .u8])]:=by kernel_rfl
theorem zqk:zLl 4 Tryz.f4.params.toList:=by
 refine zKg zPY zV zr8 zn (zcO (by kernel_rfl)) ?_
 intro avs hg;obtain ⟨h1,h2⟩:=hg;rw[zto]at h1;obtain ⟨v0,r0,rfl,e0,h1⟩:=zIZ h1;cases List.map_eq_nil_iff.1 h1;obtain ⟨a0,rfl⟩:=zUQ e0;obtain ⟨N,hN⟩:=zwj a0 h2;exact ⟨zo [],N,12,(zza N a0).trans hN⟩
theorem zvG (H:Type)(ds:List (DataW H))(h:ds.length=Tryz.f4.params.toList.length):Rows.fnTwoGuestsSpec.fn H ds={ results:=[.lit (.bool true)],args:=ds }:=by
 have hl:ds.length=1:=h.trans (by kernel_rfl)
 match ds,hl with
 | [d],_=>rfl
set_option maxRecDepth 100000 in
theorem zr5 (os:Os)(started:os.Started)(H:Type)(enc:TypeId×Value->H) :
 ReturnsInHanded {} Tryz.checked os 4 .any (Rows.fnTwoGuestsSpec.pre6 enc Tryz.prog Tryz.f4 Rows.fnTwoGuestsRow.domain false) (Rows.fnTwoGuestsSpec.post enc Tryz.prog Tryz.f4 false true false false):=by
 refine returnsInHanded_of_change_shaped (C:=Tryz.checked) own started (by kernel_rfl) Tryz.func4
  (ChangeSpec.witness6 (enc:=enc) (C:=Tryz.checked) false ⟨#[],#[.slice none 0 0],[]⟩ 8 (by kernel_rfl) (by kernel_rfl) (by kernel_rfl) (by kernel_rfl)) ?_
 intro W base args ds gs before hval hW _ hsz _ _;exact zBi (P:=Tryz.prog) zPw zQf rfl zvG (by kernel_rfl) (B:=4) (by kernel_rfl) (by kernel_rfl) zqk W base args ds gs before hval hW hsz
end
section
open Go Go.ChangeShapes Go.WideShapes Go.ChangeAt
abbrev PP:=Tryz.pinned.checked.prog
abbrev cc:=Rows.fnTwoGuestsRow
abbrev ss:=Rows.fnTwoGuestsSpec
theorem jf1:cc.wf (OpenSpec.ofChange ss)=true:=by kernel_rfl
theorem jf2:laidOutB PP=true:=by kernel_rfl
theorem jf3:mapsRowed PP=true:=by kernel_rfl
theorem jf4:Tryz.f4.params.all (PP.readableRec ·)=true:=by kernel_rfl
theorem jf5:namedTie PP cc.named ss.vars=true:=by kernel_rfl
theorem jf6:(cc.inPlace==PP.inPlace 4)=true:=by kernel_rfl
theorem jf7:(cc.unfollowed==PP.unfollowed 4)=true:=by kernel_rfl
theorem jf8:(cc.recurses==PP.recurses 4)=true:=by kernel_rfl
theorem jf9:(cc.named==PP.varsNamed 4)=true:=by kernel_rfl
theorem zUJ:(cc.lifted==PP.liftsFinal)=true:=by kernel_rfl
theorem zUK:PP.stopsHeard=true:=by kernel_rfl
theorem zUL:PP.mayEnter=true:=by kernel_rfl
theorem zUM:(cc.plainKeys==PP.plainKeys)=true:=by kernel_rfl
theorem zUN:(PP.make==some cc.make)=true:=by kernel_rfl
theorem zHX:joinedFacts PP 4 Tryz.f4 ss cc=true:=by
 unfold joinedFacts;simp only[qD]
 repeat' apply And.intro
 all_goals first|with_reducible exact jf1|with_reducible exact jf2|with_reducible exact jf3|with_reducible exact jf4|with_reducible exact jf5|with_reducible exact jf6|with_reducible exact jf7|with_reducible exact jf8|with_reducible exact jf9|with_reducible exact zUJ|with_reducible exact zUK|with_reducible exact zUL|with_reducible exact zUM|with_reducible exact zUN|kernel_rfl
theorem said_fnTwoGuests:Rows.FnTwoGuestsSaid :=
 OpenClaim.holds_of_wide 4 Tryz.f4 rfl rfl rfl rfl rfl rfl rfl ⟨rfl,rfl,rfl,rfl,rfl⟩ rfl rfl rfl rfl rfl (by kernel_rfl) Tryz.func4 zHX
  (qG (by kernel_rfl)) (by unfold Func.isWrapper;first|(rw [if_pos (by decide +kernel)];kernel_rfl)|(rw [if_neg (by decide +kernel)];exact ⟨rfl,rfl⟩))
  (fun os started H enc _=>zr5 os started H enc)
end
end
end Go.Proofs.YtnnmbkjhakbicaaGreat.E
