/- What is proved here: a part of the proof that the statement of this claim holds (several texts of wip/, laid together). -/
import Derived.Test.YtdnmkiajccpnoaaGreatV5
import Derived.Shelf.Bits.Mul64
import Derived.Ground.NamesProg
import Derived.Laws.CopyOwn
import Derived.Deep.RegionLaw
import Derived.WalkKit
import Derived.Tactics2
namespace Go.Proofs.YtdnmkiajccpnoaaGreat.E
open Go
set_option linter.unusedVariables false
set_option maxRecDepth 100000
set_option linter.unusedSimpArgs false
set_option linter.unusedSectionVars false
noncomputable section
def z7C:zQ:=[(70,zpJ),(45,zr2),(187,zr6)]++zZ7
theorem ztz:zI z7C:=zh ztI (zh zvb (zh zvf zmW))
theorem zTV {a b:Bool}(h:(a=true)↔(b=true)):a=b:=by cases a<;>cases b<;>simp_all
@[simp] theorem zbaE (x:Int):win x 0 3=hasB x 4:=zTV (by rw[zfl];unfold hasB;rw[decide_eq_true_iff];omega)
@[simp] theorem z4t (x:Int):win x 0 7=hasB x 8:=zTV (by rw[zfl];unfold hasB;rw[decide_eq_true_iff];omega)
def zed (t:List Slot)(p:Int)(s:Slot):List Slot:=bif hasB p (ln t) then up t p s else t
@[simp] theorem zbaF (t:List Slot)(p:Int)(s:Slot):(zed t p s).length=t.length:=by
 unfold zed;cases hasB p (ln t)<;>simp
@[simp] abbrev zo3 (t:List Slot)(p:Int)(s:Slot):Bool:=pc (t.length<=1048576)
@[simp] abbrev zlM (t:List Slot)(p:Int)(s:Slot):List Slot:=zed t p s
def zyi:Run:=rF3 (dS .slot) dI (dT .slot) fun b c d=>(zo3 b c d,[aS .slot (zlM b c d)])
def zB5 (N:Nat)(a0:lS)(a1:Int)(a2:Slot):OA:=
 (oN (few (ln (ap [] a0))) (oN (zK a1 0 (wsub .i64 (ln a0) 1)) (cond (zM a1 0 (wsub .i64 (ln a0) 1)) (oN (inb a1 (ln (ap [] a0))) (share (up (ap [] a0) a1 a2) (fun x4=>(some [(aS .slot x4)])))) (some [(aS .slot (ap [] a0))]))))
theorem zPq (a0:List Slot)(a1:Int)(a2:Slot)(hc:zo3 a0 a1 a2=true):∃N,zB5 N a0 a1 a2=some [aS .slot (zlM a0 a1 a2)]:=by
 have hs:=zD.1 hc;refine ⟨0,?_⟩;unfold zB5 oN;refine mu (must rfl (br (fun _=>mu (shr ?_)) (fun _=>?_)))
 all_goals first|rfl|(simp only [*,zlM,zed,cT,cF]<;>rfl)|simp_all[Ty.cells,zlM,zed]
theorem zIC:u3 276 zyi:=kF3 ztz zk zl zo (zq []) zPq
def zgd (p n:Int):Bool:=bif zcQ p then win n 0 7 else false
def zsK (p n:Int):Int:=bif zgd p n then wor .i64 p (zk0 .i64 1 n) else p
theorem cv7 {n:Int}(h:hasB n 8=true):wcv .u64 n=n/\ile 0 n=true:=by
 have:=qD h;exact ⟨zP9 (by omega) (by omega),qJ (by omega)⟩
@[simp] abbrev zjX (p n:Int):Bool:=true
@[simp] abbrev zgO (p n:Int):Int:=zsK p n
@[simp] abbrev zmw (p n:Int):Bool:=zgd p n
def zAU:Run:=rF2 dI dI fun b c=>(zjX b c,[aI (zgO b c),aB (zmw b c)])
def zGq (N:Nat)(a0 a1:Int):OA:=
 (oN (zff a0) (cond (nB (zfe a0)) (some [(aI a0),(aB false)]) (oN (zK a1 0 7) (cond (nB (zM a1 0 7)) (some [(aI a0),(aB false)]) (oN (ile 0 (wcv .u64 a1)) (some [(aI (wor .i64 a0 (zk0 .i64 1 (wcv .u64 a1)))),(aB true)]))))))
theorem zSH (a0 a1:Int)(hc:zjX a0 a1=true):∃N,zGq N a0 a1=some [aI (zgO a0 a1),aB (zmw a0 a1)]:=by
 have hw:=@cv7 a1;refine ⟨0,?_⟩;unfold zGq oN nB;refine must rfl (brN (fun _=>?_) (fun _=>must rfl (brN (fun _=>?_) (fun _=>mu ?_))))
 all_goals first|rfl|(simp only [*,zgO,zmw,zsK,zgd,cT,cF]<;>rfl)|simp_all[Ty.cells,zgO,zmw,zsK,zgd]
theorem zLy:u3 280 zAU:=kF2 ztz zk zl zo (zq []) zSH
def posts (c:Ctl)(n:Int):Bool:=bif zhn c then (cond (win n 0 7) (ieq (wand .i64 (zjq .i64 c.Post n) 1) 1) false) else false
@[simp] abbrev zD9 (c:Ctl)(n:Int):Bool:=true
@[simp] abbrev zyq (c:Ctl)(n:Int):Bool:=posts c n
def zHf:Run:=rF2 dC dI fun b c=>(zD9 b c,[aB (zyq b c)])
def zQt (N:Nat)(a0:Ctl)(a1:Int):OA:=
 (oN (zrq a0) (cond (zpR a0) (oN (zK a1 0 7) (cond (zM a1 0 7) (oN (ile 0 (wcv .u64 a1)) (some [(aB (ieq (wand .i64 (zjq .i64 a0.Post (wcv .u64 a1)) 1) 1))])) oF)) oF))
theorem zXZ (a0:Ctl)(a1:Int)(hc:zD9 a0 a1=true):∃N,zQt N a0 a1=some [aB (zyq a0 a1)]:=by
 have hw:=@cv7 a1;refine ⟨0,?_⟩;unfold zQt oN;refine must rfl (br (fun _=>must rfl (br (fun _=>mu ?_) (fun _=>?_))) (fun _=>?_))
 all_goals first|rfl|(simp only [*,zyq,posts,cT,cF]<;>rfl)|simp_all[Ty.cells,zyq,posts]
theorem zRY:u3 315 zHf:=kF2 ztz zk zl zo (zq []) zXZ
def zb0 (b:Bare)(g:Int):Bool:=bif zbC b then hasB g (ln b.Guests) else false
theorem zdE {b:Bare}{g:Int}:(zb0 b g=true)↔zbC b=true/\hasB g (ln b.Guests)=true:=by
 unfold zb0;cases zbC b<;>simp
@[simp] abbrev ziT (b:Bare)(g:Int):Bool:=pc (SmB b)
@[simp] abbrev zj1 (b:Bare)(g:Int):Bool:=zb0 b g
def zHi:Run:=rF2 (dT .bare) dI fun b c=>(ziT b c,[aB (zj1 b c)])
def zQw (N:Nat)(a0:Bare)(a1:Int):OA:=
 (oN (zoH a0) (cond (zeM a0) (oN (zK a1 0 (wsub .i64 (ln a0.Guests) 1)) (some [(aB (zM a1 0 (wsub .i64 (ln a0.Guests) 1)))])) oF))
theorem zX2 (a0:Bare)(a1:Int)(hc:ziT a0 a1=true):∃N,zQw N a0 a1=some [aB (zj1 a0 a1)]:=by
 have hs:=zD.1 hc;have hl:a0.Guests.length<=1048576:=hs.2.1.1
 refine ⟨0,?_⟩;unfold zQw oN;refine must rfl (br (fun _=>must rfl ?_) (fun _=>?_))
 all_goals first|rfl|(simp only [*,zj1,zb0,cT,cF]<;>rfl)|simp_all[Ty.cells,zj1,zb0]
theorem zR1:u3 274 zHi:=kF2 ztz zk zl zo (zq []) zX2
def z7D:zQ:=[(276,zyi),(280,zAU),(315,zHf),(274,zHi)]++z7C
theorem zkl:zI z7D:=zh zIC (zh zLy (zh zRY (zh zR1 ztz)))
theorem z6v {α:Type}{l:List α}{i:Int}{d:α}(h:hasB i (ln l)=true):up l i (ix l i d)=l:=by
 obtain ⟨k,rfl,hk⟩:=zdJ (n:=l.length) h;unfold up;rw[zbd hk,kV];exact uQ hk
theorem ztD {b:Bare}{g:Int}(h:hasB g (ln b.Guests)=true):gAt b g=ix b.Guests g zi:=by
 unfold gAt;rw[h];rfl
theorem z3Z {b:Bare}{g:Int}(h:hasB g (ln b.Guests)=true):zdC b g (gAt b g)=b:=by
 unfold zdC;rw[ztD h,z6v h]
def chg (b:Bare)(g:Int)(c:Bool)(x:Guest):Bare:=bif (cond (zb0 b g) c false) then zdC b g x else b
def zbR (b:Bare)(g:Int)(c:Bool):Bool:=bif zb0 b g then c else false
def zsh (p:Int)(s:Slot):Bool:=bif hasB p 4 then zdD s 8 else false
def zzO (x:Guest)(p:Int)(s:Slot):Guest:={ x with Written:=zed x.Written p s }
def zdL (x:Guest)(p:Int):Guest:={ x with Live:=zed x.Live p (zbn x.Written p) }
def zkC:GExit:=⟨0,0,false,0⟩
def zrL (x:Guest)(v:Int):Bool:=bif win v 0 99 then (cond (ieq x.Exit.Kind 2) true (ieq x.Exit.Kind 3)) else false
def zwm (x:Guest)(v:Int):Guest:=zbJ (stopped (cond (ieq x.Exit.Kind 2) { x with A:=v } x) zkC)
def zwG (x:Guest):Bool:=bif ieq x.Exit.Kind 1 then true else ieq x.Exit.Kind 4
def zwH (x:Guest):Guest:=bif ieq x.Exit.Kind 1 then stopped x zkC else held (stopped x zkC)
def zm5 (x:Guest)(n:Int):Guest:={ x with Pending:=zsK x.Pending n }
def zHI (x:Guest)(c:Ctl):Guest:={ x with Ctl:=c }
theorem z81 {x:Guest}{n:Int}(h:zgd x.Pending n=false):zm5 x n=x:=by
 unfold zm5 zsK;rw[h];rfl
theorem z6j {x:Guest}(p:Int)(s:Slot)(h:SmG x):SmG (zzO x p s):=⟨h.1,by simpa [zzO] using h.2.1,h.2.2.1,h.2.2.2⟩
theorem zM1 {x:Guest}(p:Int)(h:SmG x):SmG (zdL x p):=⟨h.1,h.2.1,by simpa [zdL] using h.2.2.1,h.2.2.2⟩
theorem z6h {x:Guest}(v:Int)(h:SmG x):SmG (zwm x v):=by
 unfold zwm;cases ieq x.Exit.Kind 2<;>exact zkY h
theorem z6i {x:Guest}(h:SmG x):SmG (zwH x):=by
 unfold zwH;cases ieq x.Exit.Kind 1
 .exact zWC (g:=stopped x zkC) h
 .exact h
theorem zp2 {b:Bare}{g:Int}{c:Bool}{x:Guest}(h:SmB b)(hx:SmG x):SmB (chg b g c x):=by
 unfold chg;cases (cond (zb0 b g) c false)
 .exact h
 .exact znh h hx
@[simp] abbrev zqB (b:Bare)(g p:Int)(s:Slot):Bool:=pc (SmB b)
@[simp] abbrev zh8 (b:Bare)(g p:Int)(s:Slot):Bare:=chg b g (zsh p s) (zzO (gAt b g) p s)
@[simp] abbrev zjW (b:Bare)(g p:Int)(s:Slot):Bool:=zbR b g (zsh p s)
def zr5:Run:=rF4 (dT .bare) dI dI (dT .slot) fun b c d e=>(zqB b c d e,[aT .bare (zh8 b c d e),aB (zjW b c d e)])
def zGb (N:Nat)(a0:Bare)(a1 a2:Int)(a3:Slot):OA:=
 let y0:=(zcb a0);let y1:=(ix y0.Guests a1 zi); (oN (ze0 a0) (oN (ziT y0 a1) (cond (nB (zj1 y0 a1)) (some [(aT .bare y0),(aB false)]) (oN (zK a2 0 3) (cond (nB (zM a2 0 3)) (some [(aT .bare y0),(aB false)]) (oN (zsR a3 8) (cond (nB (zpV a3 8)) (some [(aT .bare y0),(aB false)]) (oN (inb a1 (ln y0.Guests)) (oN (zo3 y1.Written a2 a3) (oN (inb a1 (ln y0.Guests)) (share (up y0.Guests a1 ({ y1 with Written:=(zlM y1.Written a2 a3) }:Guest)) (fun x5=>(some [(aT .bare ({ y0 with Guests:=x5 }:Bare)),(aB true)])))))))))))))
theorem zSr (a0:Bare)(a1 a2:Int)(a3:Slot)(hc:zqB a0 a1 a2 a3=true):∃N,zGb N a0 a1 a2 a3=some [aT .bare (zh8 a0 a1 a2 a3),aB (zjW a0 a1 a2 a3)]:=by
 have hs:=zD.1 hc;have hx:=ziN a1 hs;have hz:zb0 a0 a1=true->hasB a1 (ln a0.Guests)=true:=fun h=>(zdE.1 h).2;have hz2:zb0 a0 a1=true->gAt a0 a1=ix a0.Guests a1 zi:=fun h=>ztD (zdE.1 h).2;have hw:=hx.2.1
 refine ⟨0,?_⟩;unfold zGb oN nB
 conv=>zeta
 refine mu (mu (brN (fun _=>?_) (fun _=>must rfl (brN (fun _=>?_) (fun _=>must rfl (brN (fun _=>?_) (fun _=>mu (mu (mu (shr ?_))))))))))
 all_goals first|rfl|(simp only [*,zh8,zjW,chg,zbR,zsh,zzO,zdC,cT,cF]<;>rfl)|simp_all[Ty.cells,zh8,zjW,chg,zbR,zsh,zzO,zdC]
theorem zve:u3 206 zr5:=kF4 zkl zk zl zo (zq []) zSr
@[simp] abbrev zsb (b:Bare)(g p:Int):Bool:=pc (SmB b)
@[simp] abbrev zeI (b:Bare)(g p:Int):Bare:=chg b g (hasB p 4) (zdL (gAt b g) p)
@[simp] abbrev zhz (b:Bare)(g p:Int):Bool:=zbR b g (hasB p 4)
def zoy:Run:=rF3 (dT .bare) dI dI fun b c d=>(zsb b c d,[aT .bare (zeI b c d),aB (zhz b c d)])
def zAd (N:Nat)(a0:Bare)(a1 a2:Int):OA:=
 let y1:=(zcb a0);let y2:=(inb a1 (ln y1.Guests));let y0:=(ix y1.Guests a1 zi); (oN (ze0 a0) (oN (ziT y1 a1) (cond (nB (zj1 y1 a1)) (some [(aT .bare y1),(aB false)]) (oN (zK a2 0 3) (cond (nB (zM a2 0 3)) (some [(aT .bare y1),(aB false)]) (oN y2 (oN y2 (oN (zo1 y0.Written a2) (oN (zo3 y0.Live a2 (zjh y0.Written a2)) (oN y2 (share (up y1.Guests a1 ({ y0 with Live:=(zlM y0.Live a2 (zjh y0.Written a2)) }:Guest)) (fun x4=>(some [(aT .bare ({ y1 with Guests:=x4 }:Bare)),(aB true)])))))))))))))
theorem zMg (a0:Bare)(a1 a2:Int)(hc:zsb a0 a1 a2=true):∃N,zAd N a0 a1 a2=some [aT .bare (zeI a0 a1 a2),aB (zhz a0 a1 a2)]:=by
 have hs:=zD.1 hc;have hx:=ziN a1 hs;have hz:zb0 a0 a1=true->hasB a1 (ln a0.Guests)=true:=fun h=>(zdE.1 h).2;have hz2:zb0 a0 a1=true->gAt a0 a1=ix a0.Guests a1 zi:=fun h=>ztD (zdE.1 h).2;have hw:=hx.2.2.1
 refine ⟨0,?_⟩;unfold zAd oN nB
 conv=>zeta
 refine mu (mu (brN (fun _=>?_) (fun _=>must rfl (brN (fun _=>?_) (fun _=>mu (mu (must rfl (mu (mu (shr ?_))))))))))
 all_goals first|rfl|(simp only [*,zeI,zhz,chg,zbR,zdL,zdC,cT,cF]<;>rfl)|simp_all[Ty.cells,zeI,zhz,chg,zbR,zdL,zdC]
theorem zsm:u3 209 zoy:=kF3 zkl zk zl zo (zq []) zMg
@[simp] abbrev zlw (b:Bare)(g v:Int):Bool:=pc (SmB b)
@[simp] abbrev zfH (b:Bare)(g v:Int):Bare:=chg b g (zrL (gAt b g) v) (zwm (gAt b g) v)
@[simp] abbrev zg3 (b:Bare)(g v:Int):Bool:=zbR b g (zrL (gAt b g) v)
def zm8:Run:=rF3 (dT .bare) dI dI fun b c d=>(zlw b c d,[aT .bare (zfH b c d),aB (zg3 b c d)])
def zxb (N:Nat)(a0:Bare)(a1 a2:Int):OA:=
 let y2:=(zcb a0);let y4:=(inb a1 (ln y2.Guests));let y1:=(⟨0,0,false,0⟩:GExit);let y0:=(ix y2.Guests a1 zi);let y3:=({ y0 with A:=a2 }:Guest); (oN (ze0 a0) (oN (ziT y2 a1) (cond (nB (zj1 y2 a1)) (some [(aT .bare y2),(aB false)]) (oN (zK a2 0 99) (cond (nB (zM a2 0 99)) (some [(aT .bare y2),(aB false)]) (oN y4 (cond (ieq y0.Exit.Kind 2) (oN (zee y3 y1) (oN (zea (zdI y3 y1)) (oN y4 (share (up y2.Guests a1 (zgm (zdI y3 y1))) (fun x4=>(some [(aT .bare ({ y2 with Guests:=x4 }:Bare)),(aB true)])))))) (cond (ieq y0.Exit.Kind 3) (oN (zee y0 y1) (oN (zea (zdI y0 y1)) (oN y4 (share (up y2.Guests a1 (zgm (zdI y0 y1))) (fun x4=>(some [(aT .bare ({ y2 with Guests:=x4 }:Bare)),(aB true)])))))) (some [(aT .bare y2),(aB false)])))))))))
theorem zIT (a0:Bare)(a1 a2:Int)(hc:zlw a0 a1 a2=true):∃N,zxb N a0 a1 a2=some [aT .bare (zfH a0 a1 a2),aB (zg3 a0 a1 a2)]:=by
 have hs:=zD.1 hc;have hx:=ziN a1 hs;have hz:zb0 a0 a1=true->hasB a1 (ln a0.Guests)=true:=fun h=>(zdE.1 h).2;have hz2:zb0 a0 a1=true->gAt a0 a1=ix a0.Guests a1 zi:=fun h=>ztD (zdE.1 h).2;have ho:_/\_/\_/\_:=hx
 refine ⟨0,?_⟩;unfold zxb oN nB
 conv=>zeta
 refine mu (mu (brN (fun _=>?_) (fun _=>must rfl (brN (fun _=>?_) (fun _=>mu (br (fun _=>mu (mu (mu (shr ?_)))) (fun _=>br (fun _=>mu (mu (mu (shr ?_)))) (fun _=>?_))))))))
 all_goals first|rfl|(simp only [*,zfH,zg3,chg,zbR,zrL,zwm,zkC,zdC,SmG,stopped,cT,cF]<;>rfl)|simp_all[Ty.cells,zfH,zg3,chg,zbR,zrL,zwm,zkC,zdC,SmG,stopped]
theorem zrb:u3 213 zm8:=kF3 zkl zk zl zo (zq []) zIT
@[simp] abbrev zly (b:Bare)(g:Int):Bool:=pc (SmB b)
@[simp] abbrev zfJ (b:Bare)(g:Int):Bare:=chg b g (zwG (gAt b g)) (zwH (gAt b g))
@[simp] abbrev zg5 (b:Bare)(g:Int):Bool:=zbR b g (zwG (gAt b g))
def zna:Run:=rF2 (dT .bare) dI fun b c=>(zly b c,[aT .bare (zfJ b c),aB (zg5 b c)])
def zxd (N:Nat)(a0:Bare)(a1:Int):OA:=
 let y2:=(zcb a0);let y3:=(inb a1 (ln y2.Guests));let y1:=(⟨0,0,false,0⟩:GExit);let y0:=(ix y2.Guests a1 zi); (oN (ze0 a0) (oN (ziT y2 a1) (cond (nB (zj1 y2 a1)) (some [(aT .bare y2),(aB false)]) (oN y3 (cond (ieq y0.Exit.Kind 1) (oN (zee y0 y1) (oN y3 (share (up y2.Guests a1 (zdI y0 y1)) (fun x3=>(some [(aT .bare ({ y2 with Guests:=x3 }:Bare)),(aB true)]))))) (cond (ieq y0.Exit.Kind 4) (oN (zee y0 y1) (oN (znc (zdI y0 y1)) (oN y3 (share (up y2.Guests a1 (zyo (zdI y0 y1))) (fun x3=>(some [(aT .bare ({ y2 with Guests:=x3 }:Bare)),(aB true)])))))) (some [(aT .bare y2),(aB false)])))))))
theorem zIV (a0:Bare)(a1:Int)(hc:zly a0 a1=true):∃N,zxd N a0 a1=some [aT .bare (zfJ a0 a1),aB (zg5 a0 a1)]:=by
 have hs:=zD.1 hc;have hx:=ziN a1 hs;have hz:zb0 a0 a1=true->hasB a1 (ln a0.Guests)=true:=fun h=>(zdE.1 h).2;have hz2:zb0 a0 a1=true->gAt a0 a1=ix a0.Guests a1 zi:=fun h=>ztD (zdE.1 h).2;have ho:_/\_/\_/\_:=hx
 refine ⟨0,?_⟩;unfold zxd oN nB
 conv=>zeta
 refine mu (mu (brN (fun _=>?_) (fun _=>mu (br (fun _=>mu (mu (shr ?_))) (fun _=>br (fun _=>mu (mu (mu (shr ?_)))) (fun _=>?_))))))
 all_goals first|rfl|(simp only [*,zfJ,zg5,chg,zbR,zwG,zwH,zkC,zdC,SmG,stopped,cT,cF]<;>rfl)|simp_all[Ty.cells,zfJ,zg5,chg,zbR,zwG,zwH,zkC,zdC,SmG,stopped]
theorem zre:u3 214 zna:=kF2 zkl zk zl zo (zq []) zIV
theorem z9P {b:Bare}{g:Int}{c:Bool}{x:Guest}(h:zb0 b g=false):chg b g c x=b:=by
 unfold chg;rw[h];rfl
theorem z8o {b:Bare}{g n:Int}(h:zb0 b g=true):chg b g (zgd (gAt b g).Pending n) (zm5 (gAt b g) n)=zdC b g (zm5 (gAt b g) n):=by
 unfold chg;rw[h];cases hp:zgd (gAt b g).Pending n
 .rw [z81 hp,z3Z (zdE.1 h).2];rfl
 .rfl
@[simp] abbrev zlx (b:Bare)(g n:Int):Bool:=pc (SmB b)
@[simp] abbrev zfI (b:Bare)(g n:Int):Bare:=chg b g (zgd (gAt b g).Pending n) (zm5 (gAt b g) n)
@[simp] abbrev zg4 (b:Bare)(g n:Int):Bool:=zbR b g (zgd (gAt b g).Pending n)
def zm9:Run:=rF3 (dT .bare) dI dI fun b c d=>(zlx b c d,[aT .bare (zfI b c d),aB (zg4 b c d)])
def zxc (N:Nat)(a0:Bare)(a1 a2:Int):OA:=
 let y1:=(zcb a0);let y0:=(ix y1.Guests a1 zi); (oN (ze0 a0) (oN (ziT y1 a1) (cond (nB (zj1 y1 a1)) (some [(aT .bare y1),(aB false)]) (oN (inb a1 (ln y1.Guests)) (oN (zjX y0.Pending a2) (oN (inb a1 (ln y1.Guests)) (share (up y1.Guests a1 ({ y0 with Pending:=(zgO y0.Pending a2) }:Guest)) (fun x4=>(some [(aT .bare ({ y1 with Guests:=x4 }:Bare)),(aB (zmw y0.Pending a2))])))))))))
theorem zIU (a0:Bare)(a1 a2:Int)(hc:zlx a0 a1 a2=true):∃N,zxc N a0 a1 a2=some [aT .bare (zfI a0 a1 a2),aB (zg4 a0 a1 a2)]:=by
 have hs:=zD.1 hc;have hz:zb0 a0 a1=true->hasB a1 (ln a0.Guests)=true:=fun h=>(zdE.1 h).2;have hz2:zb0 a0 a1=true->gAt a0 a1=ix a0.Guests a1 zi:=fun h=>ztD (zdE.1 h).2;have hj:=@z8o a0 a1 a2;have hj0:=@z9P a0 a1 (zgd (gAt a0 a1).Pending a2) (zm5 (gAt a0 a1) a2)
 refine ⟨0,?_⟩;unfold zxc oN nB
 conv=>zeta
 refine mu (mu (brN (fun _=>?_) (fun _=>mu (must rfl (mu (shr ?_))))))
 all_goals first|rfl|(simp only [*,zfI,zg4,zbR,zdC,zm5,cT,cF]<;>rfl)|simp_all[Ty.cells,zfI,zg4,zbR,zdC,zm5]
theorem zrd:u3 215 zm9:=kF3 zkl zk zl zo (zq []) zIU
@[simp] abbrev zqA (b:Bare)(g:Int)(c:Ctl):Bool:=pc (SmB b)
@[simp] abbrev zh7 (b:Bare)(g:Int)(c:Ctl):Bare:=chg b g (zhn c) (zHI (gAt b g) c)
@[simp] abbrev zjV (b:Bare)(g:Int)(c:Ctl):Bool:=zbR b g (zhn c)
def zr4:Run:=rF3 (dT .bare) dI dC fun b c d=>(zqA b c d,[aT .bare (zh7 b c d),aB (zjV b c d)])
def zGa (N:Nat)(a0:Bare)(a1:Int)(a2:Ctl):OA:=
 let y0:=(zcb a0); (oN (ze0 a0) (oN (ziT y0 a1) (cond (nB (zj1 y0 a1)) (some [(aT .bare y0),(aB false)]) (oN (zrq a2) (cond (nB (zpR a2)) (some [(aT .bare y0),(aB false)]) (oN (inb a1 (ln y0.Guests)) (share (up y0.Guests a1 ({ (ix y0.Guests a1 zi) with Ctl:=a2 }:Guest)) (fun x4=>(some [(aT .bare ({ y0 with Guests:=x4 }:Bare)),(aB true)])))))))))
theorem zSq (a0:Bare)(a1:Int)(a2:Ctl)(hc:zqA a0 a1 a2=true):∃N,zGa N a0 a1 a2=some [aT .bare (zh7 a0 a1 a2),aB (zjV a0 a1 a2)]:=by
 have hs:=zD.1 hc;have hz:zb0 a0 a1=true->hasB a1 (ln a0.Guests)=true:=fun h=>(zdE.1 h).2;have hz2:zb0 a0 a1=true->gAt a0 a1=ix a0.Guests a1 zi:=fun h=>ztD (zdE.1 h).2
 refine ⟨0,?_⟩;unfold zGa oN nB
 conv=>zeta
 refine mu (mu (brN (fun _=>?_) (fun _=>must rfl (brN (fun _=>?_) (fun _=>mu (shr ?_))))))
 all_goals first|rfl|(simp only [*,zh7,zjV,chg,zbR,zHI,zdC,cT,cF]<;>rfl)|simp_all[Ty.cells,zh7,zjV,chg,zbR,zHI,zdC]
theorem zvd:u3 216 zr4:=kF3 zkl zk zl zo (zq []) zSq
def z7S (p c v:Int):Bool:=bif hasB p 8 then (cond (hasB c 4) (win v 0 99) false) else false
def zxF (b:Bare)(p c v:Int):Bool:=bif zbC b then z7S p c v else false
def zTt (b:Bare)(p c v:Int):Bare:=bif zxF b p c v then { b with Memory:=zbu b.Memory p c v } else b
def zlS (b:Bare):Bare:=bif zbC b then { b with Pending:=zgY b.Pending } else b
def zrK (b:Bare):Int:=bif zbC b then zmg b.Pending else -1
def zk8 (b:Bare):Bool:=bif zbC b then !ilt (zdf b.Pending) 0 else false
def zn0 (b:Bare)(g a n:Int):Bool:=bif zb0 b g then (cond (win a 0 15) (zdZ (gAt b g).Live (zX a) n) false) else false
def zEv (b:Bare)(g a n:Int):Int:=zbV (gAt b g).Live (zX a) n
def zyN (b:Bare)(g a v:Int):Bool:=bif zn0 b g a 2 then win v 0 99 else false
def z0l (b:Bare)(g a v:Int):Bare:=bif zyN b g a v then { b with Memory:=zbu b.Memory (zEv b g a 2) (zcG a) v } else b
def zTx (b:Bare)(g a:Int):Int:=bif zn0 b g a 1 then cellAt b.Memory (zEv b g a 1) (zcG a) else 0
@[simp] abbrev zqz (b:Bare):Bool:=pc (SmB b)
@[simp] abbrev zh6 (b:Bare):Bare:=zlS b
@[simp] abbrev zjT (b:Bare):Int:=zrK b
@[simp] abbrev zjU (b:Bare):Bool:=zk8 b
def zr3:Run:=rF1 (dT .bare) fun b=>(zqz b,[aT .bare (zh6 b),aI (zjT b),aB (zjU b)])
def zF9 (N:Nat)(a0:Bare):OA:=
 let y0:=(zcb a0); (oN (ze0 a0) (oN (zoH y0) (cond (nB (zeM y0)) (some [(aT .bare y0),(aI (-1)),(aB false)]) (oN (zqR y0.Pending) (some [(aT .bare ({ y0 with Pending:=(zjY y0.Pending) }:Bare)),(aI (zjZ y0.Pending)),(aB (zmy y0.Pending))])))))
theorem zSp (a0:Bare)(hc:zqz a0=true):∃N,zF9 N a0=some [aT .bare (zh6 a0),aI (zjT a0),aB (zjU a0)]:=by
 have hs:=zD.1 hc;refine ⟨0,?_⟩;unfold zF9 oN nB
 conv=>zeta
 refine mu (must rfl (brN (fun _=>?_) (fun _=>must rfl ?_)))
 all_goals first|rfl|(simp only [*,zh6,zjT,zjU,zlS,zrK,zk8,zgY,zmg,cT,cF]<;>rfl)|simp_all[Ty.cells,zh6,zjT,zjU,zlS,zrK,zk8,zgY,zmg]
theorem zvc:u3 221 zr3:=kF1 zkl zk zl zo (zq []) zSp
def z7E:zQ:=z7D
theorem zUd:zI z7E:=zkl
def zd9 (l:List Guest)(n:Int):List Int:=idxs (fun (x:Guest)=>posts x.Ctl n) l 0
theorem zUG {α:Type}(p:α->Bool):∀(l:List α) (i:Nat),∀k∈idxs p l i,(i:Int)<=k/\k<(i:Int)+l.length
 | [],_,k,hk=>by cases hk
 | x :: l,i,k,hk=>by
  have hr:=zUG p l (i+1);simp only[qV];unfold idxs at hk;cases hp:p x
  .rw [hp]at hk;have:=hr k hk;omega
  .rw [hp]at hk;rcases qI.1 hk with rfl|hk
   .omega
   .have:=hr k hk;omega
@[simp] abbrev zuw (b:Bare)(n:Int):Bool:=pc (SmB b)
@[simp] abbrev zlK (b:Bare)(n:Int):List Int:=zd9 b.Guests n
def zyb:Run:=rF2 (dT .bare) dI fun b c=>(zuw b c,[aS .int (zlK b c)])
def zBZ (N:Nat)(a0:Bare)(a1:Int):OA:=
 (iter (σ:=(Int×(Int×(Int×((List Int)×(lM×(lG×((List Int)×Unit)))))))) N (fun r3 s4=>let y0:=s4.2.2.2.2.2.1;let y1:=(ix y0 s4.2.1 zi).Ctl; (cond (ilt s4.2.1 (ln y0)) (oN (inb s4.2.1 (ln y0)) (oN (zD9 y1 s4.1) (cond (zyq y1 s4.1) (oN (few (ln (ap s4.2.2.2.1 [s4.2.1]))) (r3 (s4.1,((zG .i64 s4.2.1 1),(s4.2.2.1,((ap s4.2.2.2.1 [s4.2.1]),(s4.2.2.2.2.1,(y0,(s4.2.2.2.2.2.2.1,()))))))))) (r3 (s4.1,((zG .i64 s4.2.1 1),(s4.2.2.1,(s4.2.2.2.1,(s4.2.2.2.2.1,(y0,(s4.2.2.2.2.2.2.1,()))))))))))) (some [(aS .int s4.2.2.2.1)]))) (a1,(0,(a0.Pending,([],(a0.Memory,(a0.Guests,(a0.Outs,()))))))))
def zP0:FuncId->Nat->Option Tmpl:=zq [(284,0,{ n:=28,tm:=[(1,ti),(2,.lp 0 0),(5,.sl 0 []),(6,ti)],lo:=[(0,[.sl 1 [],.sl 2 [],.sl 3 [],ti])],ro:=[(0,.int,true),(1,(.sl .int),false),(2,.guest,false),(3,.int,false)] })]
theorem zPi (a0:Bare)(a1:Int)(hc:zuw a0 a1=true):∃N,zBZ N a0 a1=some [aS .int (zlK a0 a1)]:=by
 have hs:=zD.1 hc;have hl:=zcK hs.2.1.1;refine zb8 fun N hNN=>?_;unfold zBZ oN
 conv=>zeta
 refine (zbc a0.Guests (fun i (t:(List Int))=>(a1,(i:Int),a0.Pending,t,a0.Memory,a0.Guests,a0.Outs,())) _ (fun i (x:Guest) (t:List Int) κ=>bif posts x.Ctl a1 then (cond (few (ln (ap t [(i:Int)]))) (κ (ap t [(i:Int)])) none) else κ t) (fun (t:(List Int))=>(some [(.one (.s .int t))])) (fun i hi t rec=>?_) (fun t rec=>?_) _ ([]) (hNN hl.1)).trans ?_
 .simp only [zbo hi,zY hi,zbd hi,zW hi hl.1,cT]
 .simp only [zbf,cF]
 exact ztF (fun (x:Guest)=>posts x.Ctl a1) _ a0.Guests 0 [] (by simpa using hl.2)
theorem zIv:u3 284 zyb:=kF2 zUd zk zl zo zP0 zPi
def z7F:zQ:=[(284,zyb)]++z7E
theorem zUe:zI z7F:=zh zIv zUd
def zEL (n:Int)(l:List Guest)(k:Int):List Guest:=up l k (zm5 (ix l k zi) n)
def zlu (n:Int)(ks:List Int)(l:List Guest):List Guest:=ks.foldl (zEL n) l
theorem zC4 (n:Int)(l:List Guest)(k:Int):(zEL n l k).length=l.length:=zgy _ _ _
theorem z1B {n:Int}{l:List Guest}{k:Int}(hk:hasB k (ln l)=true)(h:zmT l):zmT (zEL n l k):=zET h (zWD h hk _)
theorem zEg {n:Int}:∀(ks:List Int) {l:List Guest},(∀k∈ks,hasB k (ln l)=true)->zmT l->zmT (zlu n ks l)/\(zlu n ks l).length=l.length
 | [],_,_,h=>⟨h,rfl⟩
 | k :: ks,l,hk,h=>by
  have h1:=z1B (n:=n) (hk k (by simp)) h
  obtain ⟨g1,g2⟩:=zEg (n:=n) ks (l:=zEL n l k) (fun j hj=>by rw[ln,zC4];exact hk j (by simp[hj])) h1
  exact ⟨g1,g2.trans (zC4 _ _ _)⟩
theorem zUs {ρ:Type}(n:Int)(K:List Guest->Option ρ):∀(ks:List Int) (i:Nat) (l:List Guest),(∀k∈ks,hasB k (ln l)=true) ->
 goL (fun _ k (t:List Guest) κ=>bif inb k (ln t) then (cond (inb k (ln t)) (κ (up t k (zm5 (ix t k zi) n))) none) else none) K ks i l=K (zlu n ks l)
 | [],_,_,_=>rfl
 | k :: ks,i,l,h=>by
  have hk:inb k (ln l)=true:=h k (by simp)
  simp only[goL,hk,cT];exact zUs n K ks (i+1) (zEL n l k) (fun j hj=>by rw[ln,zC4];exact h j (by simp[hj]))
def zEM (b:Bare)(n:Int):Bare:=bif ieq (ln (zd9 b.Guests n)) 0 then { b with Pending:=zsK b.Pending n } else { b with Guests:=zlu n (zd9 b.Guests n) b.Guests }
def zeS (b:Bare)(n:Int):Bool:=bif zbC b then hasB n 8 else false
def zje (b:Bare)(n:Int):Bare:=bif zeS b n then zEM b n else b
theorem zMG {b:Bare}{n:Int}:∀k∈zd9 b.Guests n,hasB k (ln b.Guests)=true:=fun k hk=>by
 have:=zUG _ _ _ k hk;exact qJ (by simp only[ln];omega)
theorem z1i {b:Bare}{n:Int}(h:ieq (ln (zd9 b.Guests n)) 0=true):zlu n (zd9 b.Guests n) b.Guests=b.Guests:=by
 have h1:((zd9 b.Guests n).length:Int)=0:=qD h;have:zd9 b.Guests n=[]:=List.length_eq_zero_iff.1 (by omega)
 rw[this];rfl
theorem z1h {b:Bare}{n:Int}:(cond (ieq (ln (zd9 b.Guests n)) 0) (some [AV.agg (Ty.cells .bare ⟨b.Memory,zlu n (zd9 b.Guests n) b.Guests,b.Outs,zsK b.Pending n⟩),AV.one (.b true)]) (some [AV.agg (Ty.cells .bare ⟨b.Memory,zlu n (zd9 b.Guests n) b.Guests,b.Outs,b.Pending⟩),AV.one (.b true)]))=some [AV.agg (Ty.cells .bare (zEM b n)),AV.one (.b true)]:=by
 unfold zEM;cases h:ieq (ln (zd9 b.Guests n)) 0
 .rfl
 .simp only [cT,z1i h]
@[simp] abbrev zoI (b:Bare)(n:Int):Bool:=pc (SmB b)
@[simp] abbrev ziF (b:Bare)(n:Int):Bare:=zje b n
@[simp] abbrev zkI (b:Bare)(n:Int):Bool:=zeS b n
def zpK:Run:=rF2 (dT .bare) dI fun b c=>(zoI b c,[aT .bare (ziF b c),aB (zkI b c)])
def zBR (N:Nat)(a0:Bare)(a1:Int):OA:=
 let y2:=(zcb a0); (oN (ze0 a0) (oN (zoH y2) (cond (nB (zeM y2)) (some [(aT .bare y2),(aB false)]) (oN (zK a1 0 7) (cond (nB (zM a1 0 7)) (some [(aT .bare y2),(aB false)]) (oN (zuw y2 a1) (iter (σ:=(Int×(Int×(Int×(Int×((List Int)×(lM×(lG×((List Int)×(lM×(lG×((List Int)×Unit)))))))))))) N (fun r3 s4=>let y5:=s4.2.2.2.2.2.2.2.1;let y3:=s4.2.2.2.2.1;let y1:=s4.2.2.2.2.2.2.1;let y0:=(ix y3 s4.2.1 0);let y4:=(ix y1 y0 zi); (cond (ilt s4.2.1 (ln y3)) (oN (inb s4.2.1 (ln y3)) (oN (inb s4.2.1 (ln y3)) (oN (inb y0 (ln y1)) (oN (zjX y4.Pending s4.1) (oN (inb y0 (ln y1)) (r3 (s4.1,((zG .i64 s4.2.1 1),(s4.2.2.1,(s4.2.2.2.1,(y3,(s4.2.2.2.2.2.1,((up y1 y0 ({ y4 with Pending:=(zgO y4.Pending s4.1) }:Guest)),(y5,(s4.2.2.2.2.2.2.2.2.1,(s4.2.2.2.2.2.2.2.2.2.1,(s4.2.2.2.2.2.2.2.2.2.2.1,()))))))))))))))))) (cond (ieq (ln y3) 0) (oN (zjX s4.2.2.1 s4.1) (some [(aT .bare (⟨s4.2.2.2.2.2.1,y1,y5,(zgO s4.2.2.1 s4.1)⟩:Bare)),(aB true)])) (some [(aT .bare (⟨s4.2.2.2.2.2.1,y1,y5,s4.2.2.1⟩:Bare)),(aB true)])))) (a1,(0,(y2.Pending,(0,((zlK y2 a1),(y2.Memory,(y2.Guests,(y2.Outs,([],([],([],()))))))))))))))))))
def zPW:FuncId->Nat->Option Tmpl:=zq [(220,0,{ n:=62,tm:=[(1,ti),(2,.lp 0 0),(4,.lp 1 0),(6,.sl 0 []),(7,ti)],lo:=[(0,[.sl 1 [],.sl 2 [],.sl 3 [],ti]),(1,[.sl 4 [],.sl 5 [],.sl 6 [],ti])],ro:=[(0,.int,true),(1,(.sl .int),true),(2,.guest,true),(3,.int,true),(4,(.sl .int),true),(5,.guest,true),(6,.int,true)] })]
theorem zO9 (a0:Bare)(a1:Int)(hc:zoI a0 a1=true):∃N,zBR N a0 a1=some [aT .bare (ziF a0 a1),aB (zkI a0 a1)]:=by
 have hs:=zD.1 hc;have hk:(zd9 a0.Guests a1).length<=big:=jB (zzh _ _ _) (zcK hs.2.1.1).1;refine zb8 fun N hNN=>?_;unfold zBR ziF zkI zje zeS oN nB
 conv=>zeta
 refine must (zbe hs) (must rfl (brN (fun h1=>?_) (fun h1=>must rfl (brN (fun h2=>?_) (fun h2=>must (zbe hs) ?_)))))
 .simp only [show zbC a0=false from h1,cF]
 .simp only [show zbC a0=true from h1,show hasB a1 8=false from by first|exact h2|exact (z4t a1).symm.trans h2,cT,cF]
 simp only[show zbC a0=true from h1,show hasB a1 8=true from by first|exact h2|exact (z4t a1).symm.trans h2,cT]
 refine (zbc (zlK (zcb a0) a1) (fun i (t:lG)=>(a1,(i:Int),(zcb a0).Pending,0,(zlK (zcb a0) a1),(zcb a0).Memory,t,(zcb a0).Outs,[],[],[],())) _ (fun _ k (t:List Guest) κ=>bif inb k (ln t) then (cond (inb k (ln t)) (κ (up t k (zm5 (ix t k zi) a1))) none) else none) (fun (t:lG)=>(cond (ieq (ln (zlK (zcb a0) a1)) 0) (cond (zjX (zcb a0).Pending a1) (some [(.agg (Ty.cells .bare (⟨(zcb a0).Memory,t,(zcb a0).Outs,(zgO (zcb a0).Pending a1)⟩:Bare))),(.one (.b true))]) none) (some [(.agg (Ty.cells .bare (⟨(zcb a0).Memory,t,(zcb a0).Outs,(zcb a0).Pending⟩:Bare))),(.one (.b true))]))) (fun i hi t rec=>?_) (fun t rec=>?_) _ ((zcb a0).Guests) (hNN hk)).trans ?_
 .simp only [zbo hi,zY hi,zbd hi,zW hi hk,cT];rfl
 .simp only [zbf,cF];rfl
 exact (zUs a1 _ _ 0 _ zMG).trans z1h
theorem ztJ:u3 220 zpK:=kF2 zUe zk zl zo zPW zO9
end
end Go.Proofs.YtdnmkiajccpnoaaGreat.E
namespace Go.Proofs
open Go Go.Shelf
def Tryz.laysMul_ren : Go.Shelf.Ren := ⟨fun | 212 => 294 | 263 => 319 | 264 => 320 | n => n, fun | 46 => 148 | 51 => 237 | 146 => 238 | 53 => 240 | 148 => 241 | n => n, fun | n => n⟩
theorem Tryz.laysMul : Go.Proofs.Lays.n212 Tryz.prog Tryz.laysMul_ren := {
  mixed := by kernel_rfl
  f212 := Tryz.func294.trans (congrArg some (by kernel_rfl))
  f263 := Tryz.func319.trans (congrArg some (by kernel_rfl))
  f264 := Tryz.func320.trans (congrArg some (by kernel_rfl))
  t46 := Tryz.underlying148
  a46 := Tryz.isAgg148
  z46 := Tryz.sizeOf148
  v46 := Tryz.zeroValue148
  t51 := Tryz.underlying237
  a51 := Tryz.isAgg237
  z51 := Tryz.sizeOf237
  v51 := Tryz.zeroValue237
  t53 := Tryz.underlying240
  a53 := Tryz.isAgg240
  z53 := Tryz.sizeOf240
  v53 := Tryz.zeroValue240
  t146 := Tryz.underlying238
  a146 := Tryz.isAgg238
  z146 := Tryz.sizeOf238
  v146 := Tryz.zeroValue238
  t148 := Tryz.underlying241
  a148 := Tryz.isAgg241
  z148 := Tryz.sizeOf241
  v148 := Tryz.zeroValue241 }
end Go.Proofs
namespace Go.Proofs.YtdnmkiajccpnoaaGreat.E
open Go
set_option linter.unusedVariables false
set_option maxRecDepth 100000
set_option linter.unusedSimpArgs false
set_option linter.unusedSectionVars false
noncomputable section
section
open Go Go.RowKit Go.Proofs
section
variable {P:Program}
end
end
def z1Y:zQ:=[(206,zr5),(209,zoy),(213,zm8),(214,zna),(215,zm9),(216,zr4),(221,zr3),(220,zpK)]++z7F
theorem zCk:zI z1Y:=zh zve (zh zsm (zh zrb (zh zre (zh zrd (zh zvd (zh zvc (zh ztJ zUe)))))))
theorem z4n {n:Int}(h:(ieq n 4||ieq n 8)=true):n=4\/n=8:=by
 rcases kD _ _ ▸ h with h|h
 .exact .inl (qD h)
 .exact .inr (qD h)
theorem z3r {n:Int}(h:(ieq n 8||ieq n 12)=true):n=8\/n=12:=by
 rcases kD _ _ ▸ h with h|h
 .exact .inl (qD h)
 .exact .inr (qD h)
@[simp] abbrev ziI (n:Int):Bool:=ieq n 4||ieq n 8
@[simp] abbrev zgG (n:Int):List Slot:=List.replicate n.toNat ⟨-1,0⟩
def zpN:Run:=rF1 dI fun b=>(ziI b,[aS .slot (zgG b)])
def zTL (N:Nat)(a0:Int):OA:=
 (oN (zqC a0 0 24) (iter (σ:=(Int×(lS×Unit))) N (fun r2 s3=>(cond (igt s3.1 0) (oN zcn (oN (few (ln (ap s3.2.1 [zbr]))) (r2 ((wsub .i64 s3.1 1),((ap s3.2.1 [zbr]),()))))) (some [(aS .slot s3.2.1)]))) ((zrp a0 0 24),([],()))))
def zP1:FuncId->Nat->Option Tmpl:=zq [(188,0,{ n:=17,tm:=[(3,.sl 0 []),(4,ti)],lo:=[],ro:=[(0,.slot,true)] })]
theorem zPm (a0:Int)(hc:ziI a0=true):∃N,zTL N a0=some [aS .slot (zgG a0)]:=by
 refine ⟨30,?_⟩;have h:a0=4\/a0=8:=z4n hc;rcases h with rfl|rfl<;>(change _=_;kernel_rfl)
theorem ztL:u3 188 zpN:=kF1 zCk zk zl zo zP1 zPm
@[simp] abbrev zoW (n:Int):Bool:=ieq n 8||ieq n 12
@[simp] abbrev zjg (n:Int):List (List Int):=List.replicate n.toNat [0,0,0,0]
def zuk:Run:=rF1 dI fun b=>(zoW b,[aS (.sl .int) (zjg b)])
def zZQ (N:Nat)(a0:Int):OA:=
 (oN (zqC a0 0 24) (iter (σ:=(Int×(lM×Unit))) N (fun r2 s3=>(cond (igt s3.1 0) (oN (cond (few 4) (ieq 4 4) false) (oN (few (ln (ap s3.2.1 [(rp 4 0)]))) (r2 ((wsub .i64 s3.1 1),((ap s3.2.1 [(rp 4 0)]),()))))) (some [(aS (.sl .int) s3.2.1)]))) ((zrp a0 0 24),([],()))))
def zW2:FuncId->Nat->Option Tmpl:=zq [(104,0,{ n:=17,tm:=[(3,.sl 0 []),(4,ti)],lo:=[],ro:=[(0,(.sl .int),true)] })]
theorem zVp (a0:Int)(hc:zoW a0=true):∃N,zZQ N a0=some [aS (.sl .int) (zjg a0)]:=by
 refine ⟨30,?_⟩;have h:a0=8\/a0=12:=z3r hc;rcases h with rfl|rfl<;>(change _=_;kernel_rfl)
theorem zxu:u3 104 zuk:=kF1 zCk zk zl zo zW2 zVp
def z1Z:zQ:=[(188,zpN),(104,zuk)]++z1Y
theorem zQF:zI z1Z:=zh ztL (zh zxu zCk)
def zkX:List Slot:=List.replicate 4 ⟨-1,0⟩
def zeK (p:List Ins):Guest:=⟨p,0,0,zkX,zkX,⟨0,0,false⟩,0,⟨0,0,false,0⟩,false,[]⟩
@[simp] abbrev zoN (p:List Ins):Bool:=pc (p.length<=1048576)
@[simp] abbrev zoM (p:List Ins):Guest:=zeK p
def zpL:Run:=rF1 (dS .ins) fun b=>(zoN b,[aT .guest (zoM b)])
def zBU (N:Nat)(a0:lI):OA:=
 (oN (few (ln (ap [] a0))) (oN (ziI 4) (oN (ziI 4) (some [(aT .guest (⟨(ap [] a0),0,0,(zgG 4),(zgG 4),⟨0,0,false⟩,0,⟨0,0,false,0⟩,false,[]⟩:Guest))]))))
theorem zPd (a0:List Ins)(hc:zoN a0=true):∃N,zBU N a0=some [aT .guest (zoM a0)]:=by
 have hs:=zD.1 hc;refine ⟨0,?_⟩;unfold zBU oN;refine mu (must rfl (must rfl ?_))
 first|rfl|(simp only [*,zoM,zeK,zkX,cT,cF]<;>rfl)|simp_all[Ty.cells,zoM,zeK,zkX]
theorem ztK:u3 189 zpL:=kF1 zQF zk zl zo (zq []) zPd
def z92:zQ:=[(189,zpL)]++z1Z
theorem zCl:zI z92:=zh ztK zQF
def zPD:List (List Int):=List.replicate 8 [0,0,0,0]
def z9L (ps:List (List Ins)):Prop:=ps.length<=1048576/\∀p∈ps,p.length<=1048576
theorem zQ7 {α β ρ:Type}(m:Nat)(f:α->β)(K:List β->Option ρ):∀(l:List α) (i:Nat) (acc:List β),acc.length+l.length<=2147483648 ->
 goL (fun (i:Nat) x acc k=>bif ilt (i:Int) (m:Int) then (cond (few (ln (ap acc [f x]))) (k (ap acc [f x])) none) else K acc) K l i acc=K (acc++(l.take (m-i)).map f)
 | [],i,acc,_=>by simp[goL]
 | x :: l,i,acc,hn=>by
  simp only[qV]at hn;have hf:few (ln (ap acc [f x]))=true:=zgw (by simp[ap];omega)
  by_cases h:i<m
  .have hi:ilt (i:Int) (m:Int)=true:=qJ (by omega)
   simp only[goL,hi,hf,cT];rw[zQ7 m f K l (i+1) (ap acc [f x]) (by simp[ap];omega)]
   rw[show m-i=m-(i+1)+1 by omega]
   simp[ap]
  .have hi:ilt (i:Int) (m:Int)=false:=qH (by omega)
   simp only[goL,hi,cF];rw[show m-i=0 by omega]
   simp
@[simp] abbrev zD0 (a:GAct):Bool:=true
@[simp] abbrev zyl (a:GAct):Bool:=win a.Kind 1 17
def zG6:Run:=rF1 (dT .act) fun b=>(zD0 b,[aB (zyl b)])
def zQk (N:Nat)(a0:GAct):OA:=
 (oN (zK a0.Kind 1 17) (some [(aB (zM a0.Kind 1 17))]))
theorem zXQ (a0:GAct)(hc:zD0 a0=true):∃N,zQk N a0=some [aB (zyl a0)]:=by
 refine ⟨0,?_⟩;unfold zQk oN;refine must rfl ?_
 first|rfl|(simp only [*,zyl,cT,cF]<;>rfl)|simp_all[Ty.cells,zyl]
theorem zRP:u3 106 zG6:=kF1 zCl zk zl zo (zq []) zXQ
@[simp] abbrev zwP (k:Int):Bool:=true
@[simp] abbrev zrr (k:Int):Bool:=win k 13 17
def zAO:Run:=rF1 dI fun b=>(zwP b,[aB (zrr b)])
def zGl (N:Nat)(a0:Int):OA:=
 (oN (zK a0 13 17) (some [(aB (zM a0 13 17))]))
theorem zSB (a0:Int)(hc:zwP a0=true):∃N,zGl N a0=some [aB (zrr a0)]:=by
 refine ⟨0,?_⟩;unfold zGl oN;refine must rfl ?_
 first|rfl|(simp only [*,zrr,cT,cF]<;>rfl)|simp_all[Ty.cells,zrr]
theorem zLs:u3 108 zAO:=kF1 zCl zk zl zo (zq []) zSB
@[simp] abbrev zD1 (a:GAct):Bool:=true
@[simp] abbrev zpQ (a:GAct):Ctl:=⟨a.X,a.Y,ieq a.Z 1⟩
def zG7:Run:=rF1 (dT .act) fun b=>(zD1 b,[.agg (zCj (zpQ b))])
def zQl (N:Nat)(a0:GAct):OA:=
 (some [(.agg [(.i .i64 a0.X),(.i .i64 a0.Y),(.b (ieq a0.Z 1))])])
theorem zXR (a0:GAct)(hc:zD1 a0=true):∃N,zQl N a0=some [.agg (zCj (zpQ a0))]:=by
 refine ⟨0,?_⟩;unfold zQl
 first|rfl|(simp only [*,zpQ,cT,cF]<;>rfl)|simp_all[Ty.cells,zpQ]
theorem zRQ:u3 117 zG7:=kF1 zCl zk zl zo (zq []) zXR
def zT8:zQ:=[(206,zr5),(209,zoy),(213,zm8),(214,zna),(215,zm9),(216,zr4),(221,zr3),(220,zpK),(104,zuk)]++z0g
theorem zCm:zI zT8:=zh zve (zh zsm (zh zrb (zh zre (zh zrd (zh zvd (zh zvc (zh ztJ (zh zxu zHT))))))))
def zcL (x:Mon):Bare:=⟨zPD,x.Guests,x.Outs,x.Pending⟩
def zuY (x:Mon)(b:Bare):Mon:={ x with Guests:=b.Guests,Pending:=b.Pending }
def zcW (h:Host)(m:Int)(b:Bare):Host:={ h with Mons:=up h.Mons m (zuY (ix h.Mons m mZ) b) }
@[simp] abbrev zeE (x:Mon):Bool:=pc (zfw x)
@[simp] abbrev zbA (x:Mon):Bare:=zcL x
def zA4:Run:=rF1 (dT .mon) fun b=>(zeE b,[aT .bare (zbA b)])
def zGA (N:Nat)(a0:Mon):OA:=
 (oN (zoW 8) (oN (zfu a0.Guests) (oN (few (ln (ap [] a0.Outs))) (some [(aT .bare (⟨(zjg 8),(zfY a0.Guests),(ap [] a0.Outs),a0.Pending⟩:Bare))]))))
theorem zSZ (a0:Mon)(hc:zeE a0=true):∃N,zGA N a0=some [aT .bare (zbA a0)]:=by
 have hs:=zD.1 hc;refine ⟨0,?_⟩;unfold zGA oN;exact must rfl (must (zbe ((zu4 _).2 hs.2.2.2.1)) (must (zno hs.2.2.2.2.1) rfl))
theorem zLQ:u3 207 zA4:=kF1 zCm zk zbQ zfp (zq []) zSZ
@[simp] abbrev zeD (h:Host)(m:Int)(b:Bare):Bool:=pc (hasB m (ln h.Mons)=true/\zmT b.Guests)
@[simp] abbrev zgS (h:Host)(m:Int)(b:Bare):Host:=zcW h m b
theorem zbaD {l:List Mon}{m:Int}(hm:hasB m (ln l)=true)(b:Bare):inb m (ln (up l m { ix l m mZ with Guests:=b.Guests }))=true /\
 up (up l m { ix l m mZ with Guests:=b.Guests }) m { ix (up l m { ix l m mZ with Guests:=b.Guests }) m mZ with Pending:=b.Pending }=up l m (zuY (ix l m mZ) b):=by
 obtain ⟨k,rfl,hk⟩:=zdJ (n:=l.length) hm;refine ⟨zx (by rw[ln,zgy];exact hm),?_⟩
 rw[zwi,zdO hk];rfl
def zsa:List AV->Option (Bool×List AV)
 | [.agg [.s (.sl .int) b,.s .mon c,.s .entry d,.s .entry e],.one (.i .i64 f),.agg [.s (.sl .int) g,.s .guest h,.s .int j,.i .i64 k]]=>some ((zeD (⟨b,c,d,e⟩:Host) f (⟨g,h,j,k⟩:Bare)),[aH (zgS (⟨b,c,d,e⟩:Host) f (⟨g,h,j,k⟩:Bare))])
 | _=>none
def zwl (N:Nat)(a0:Host)(a1:Int)(a2:Bare):OA:=
 (oN (zfu a2.Guests) (oN (inb a1 (ln a0.Mons)) (share (up a0.Mons a1 ({ (ix a0.Mons a1 zf) with Guests:=(zfY a2.Guests) }:Mon)) (fun x4=>(oN (inb a1 (ln x4)) (share (up x4 a1 ({ (ix x4 a1 zf) with Pending:=a2.Pending }:Mon)) (fun x5=>(some [(aH ({ a0 with Mons:=x5 }:Host))]))))))))
theorem zV4 (N:Nat)(a0:Host)(a1:Int)(a2:Bare):z0n (cQ zT8 zop z1g z6u) (zq []) N 12 208 [true,true,true,true,false,false,false,false,false] [aH a0,aI a1,aT .bare a2]=zwl N a0 a1 a2:=by kernel_rfl
theorem zSY (a0:Host)(a1:Int)(a2:Bare)(hb:zbD big [aH a0,aI a1,aT .bare a2])(hc:zeD a0 a1 a2=true):∃N,zwl N a0 a1 a2=some [aH (zgS a0 a1 a2)]:=by
 obtain ⟨hm,hg⟩:=zD.1 hc;obtain ⟨h1,h2⟩:=zbaD hm a2;refine ⟨0,?_⟩;unfold zwl oN;refine must (zbe ((zu4 _).2 hg)) (must (zx hm) (shr (must h1 (shr ?_))));have e:zfY a2.Guests=a2.Guests:=rfl;rw[e]
 show some [AV.agg (zba { a0 with Mons:=_ })]=some [AV.agg (zba { a0 with Mons:=_ })]
 rw[show zf=mZ from rfl,h2]
theorem zLP:zd6 Tryz.prog 208 [true,true,true,true,false,false,false,false,false] none zsa:=by
 refine zNJ (zcT zCm zk zbQ zfp) (zd2 (by kernel_rfl)) (by kernel_rfl) ?_
 intro avs rs hl hr h;have hb:=zij hr;unfold zsa at h;split at h
 .obtain ⟨hc,rfl⟩:=zdS h;obtain ⟨N,hN⟩:=zSY _ _ _ (by exact hb) hc
  exact ⟨_,N,12,(zV4 N _ _ _ ).trans hN⟩
 .cases h
def z19:zQ:=[(207,zA4)]++zT8
theorem ziO:zI z19:=zh zLQ zCm
def zba5:ze4:=[(208,([true,true,true,true,false,false,false,false,false],none,zsa))]++z6u
theorem zc7:zd7 zba5:=zp5 zfp (by
 intro x hx;simp only[qI,qU,or_false]at hx;rcases hx with rfl
 .exact zLP)
def z7Z (h:Host)(m:Int)(cB:Bool)(B:Bare)(o0 o1:Host->Ans):OA:=
 bif zbI h then (cond (zfj h m) (cond (cond (zfi h m) false true) (some (o0 h)) (cond (inb m (ln h.Mons)) (cond (zeE (ix h.Mons m mZ)) (cond cB (cond (zeD h m B) (some (o1 (zcW h m B))) none) none) none) none)) none) else none
theorem zcm {h:Host}{m:Int}:(zcx h m=true)↔zbX h=true/\hasB m (ln h.Mons)=true:=by
 unfold zcx;cases zbX h<;>simp
theorem znk {h:Host}{m:Int}{cB:Bool}{B:Bare}{o0 o1:Host->Ans}(hs:SmH h)(hc:zcx h m=true->cB=true)(hB:zcx h m=true->SmB B):z7Z h m cB B o0 o1=some (cond (zcx h m) (o1 (zcW h m B)) (o0 h)):=by
 unfold z7Z;refine must (zbe ((zJ h).2 hs)) (must rfl ?_);rw[show zfi h m=zcx h m from rfl]
 cases h0:zcx h m
 .rfl
 .have h2:=(zcm.1 h0).2;exact zcH rfl (must (zx h2) (must (zbe (hs.2.1.2 _ (zbv h2 _))) (must (hc h0) (must (zbe ⟨h2,(hB h0).2.1⟩) rfl))))
structure SameB (b c:Bare):Prop where
 g:b.Guests=c.Guests
 p:b.Pending=c.Pending
 o:zbC b=zbC c
theorem SameB.at {b c:Bare}(h:SameB b c)(g:Int):gAt b g=gAt c g:=by unfold gAt;rw[h.g]
theorem SameB.has {b c:Bare}(h:SameB b c)(g:Int):zb0 b g=zb0 c g:=by unfold zb0;rw[h.g,h.o]
theorem back_eq {h:Host}{m:Int}{b c:Bare}(hg:b.Guests=c.Guests)(hp:b.Pending=c.Pending):zcW h m b=zcW h m c:=by
 unfold zcW zuY;rw[hg,hp]
theorem zpj {b c:Bare}(hS:SameB b c)(h:Host)(m g:Int)(k:Bool)(x:Guest):zcW h m (chg b g k x)=zcW h m (chg c g k x):=by
 unfold chg;rw[hS.has];cases (cond (zb0 c g) k false)
 .exact back_eq hS.g hS.p
 .exact back_eq (by simp only[cT,zdC,hS.g]) hS.p
theorem zla {b c:Bare}(hS:SameB b c)(g:Int)(k:Bool):zbR b g k=zbR c g k:=by
 unfold zbR;rw[hS.has]
theorem ziV {h:Host}{m:Int}(h0:zcx h m=true)(hv:zbC (zcL (ix h.Mons m mZ))=true):SameB (zcL (ix h.Mons m mZ)) (zy h m):=by
 obtain ⟨h1,h2⟩:=zcm.1 h0;refine ⟨?_,?_,hv.trans (zwn h1 h2).symm⟩<;>unfold zy zcL<;>rw [h2]<;>rfl
theorem z9c:zhp zPD 8=true:=by decide
theorem znJ {h:Host}{m:Int}(h0:zcx h m=true):zbC (zcL (ix h.Mons m mZ))=true:=by
 obtain ⟨h1,h2⟩:=zcm.1 h0;have:=zwn h1 h2;unfold zy at this;rw[h2,cT] at this;unfold zbC at this ⊢;simp only[zcL,z9c] at *
 simp_all
theorem zeN {x:Mon}(h:zfw x):SmB (zcL x):=⟨show SmM zPD from ⟨by decide,by decide⟩,h.2.2.2.1,h.2.2.2.2.1⟩
def zeH (h:Host)(m:Int)(b:Bare):Host:=bif zcx h m then zcW h m b else h
def zd4 (h:Host)(m:Int)(ok:Bool):Bool:=bif zcx h m then ok else false
@[simp] abbrev zjR (b:Bare)(g p:Int)(s:Slot):Bare:=chg b g (zsh p s) (zzO (gAt b g) p s)
@[simp] abbrev zmn (b:Bare)(g p:Int)(s:Slot):Bool:=zbR b g (zsh p s)
@[simp] abbrev zg0 (b:Bare)(g v:Int):Bare:=chg b g (zrL (gAt b g) v) (zwm (gAt b g) v)
@[simp] abbrev ziy (b:Bare)(g v:Int):Bool:=zbR b g (zrL (gAt b g) v)
@[simp] abbrev zg2 (b:Bare)(g:Int):Bare:=chg b g (zwG (gAt b g)) (zwH (gAt b g))
@[simp] abbrev ziA (b:Bare)(g:Int):Bool:=zbR b g (zwG (gAt b g))
@[simp] abbrev zg1 (b:Bare)(g n:Int):Bare:=chg b g (zgd (gAt b g).Pending n) (zm5 (gAt b g) n)
@[simp] abbrev ziz (b:Bare)(g n:Int):Bool:=zbR b g (zgd (gAt b g).Pending n)
@[simp] abbrev zjQ (b:Bare)(g:Int)(c:Ctl):Bare:=chg b g (zhn c) (zHI (gAt b g) c)
@[simp] abbrev zmm (b:Bare)(g:Int)(c:Ctl):Bool:=zbR b g (zhn c)
@[simp] abbrev zml (b:Bare):Bare:=zlS b
@[simp] abbrev zqq (b:Bare):Int:=zrK b
@[simp] abbrev zqr (b:Bare):Bool:=zk8 b
@[simp] abbrev zkA (b:Bare)(n:Int):Bare:=zje b n
@[simp] abbrev zoo (b:Bare)(n:Int):Bool:=zeS b n
@[simp] abbrev zYc (h:Host)(m:Int)(g p:Int)(s:Slot):Host:=zeH h m (zjR (zy h m) g p s)
@[simp] abbrev zYd (h:Host)(m:Int)(g p:Int)(s:Slot):Bool:=zd4 h m (zmn (zy h m) g p s)
@[simp] abbrev zPw (h:Host)(m:Int)(g v:Int):Host:=zeH h m (zg0 (zy h m) g v)
@[simp] abbrev zPx (h:Host)(m:Int)(g v:Int):Bool:=zd4 h m (ziy (zy h m) g v)
@[simp] abbrev zPA (h:Host)(m:Int)(g:Int):Host:=zeH h m (zg2 (zy h m) g)
@[simp] abbrev zPB (h:Host)(m:Int)(g:Int):Bool:=zd4 h m (ziA (zy h m) g)
@[simp] abbrev zPy (h:Host)(m:Int)(g n:Int):Host:=zeH h m (zg1 (zy h m) g n)
@[simp] abbrev zPz (h:Host)(m:Int)(g n:Int):Bool:=zd4 h m (ziz (zy h m) g n)
@[simp] abbrev zYa (h:Host)(m:Int)(g:Int)(x:Ctl):Host:=zeH h m (zjQ (zy h m) g x)
@[simp] abbrev zYb (h:Host)(m:Int)(g:Int)(x:Ctl):Bool:=zd4 h m (zmm (zy h m) g x)
@[simp] abbrev zVR (h:Host)(m:Int)(n:Int):Host:=zeH h m (zkA (zy h m) n)
@[simp] abbrev zVS (h:Host)(m:Int)(n:Int):Bool:=zd4 h m (zoo (zy h m) n)
@[simp] abbrev zX7 (h:Host)(m:Int):Host:=zeH h m (zml (zy h m))
@[simp] abbrev zX8 (h:Host)(m:Int):Int:=bif zcx h m then zqq (zy h m) else -1
@[simp] abbrev zX9 (h:Host)(m:Int):Bool:=zd4 h m (zqr (zy h m))
@[simp] abbrev zS1 (h:Host)(m g p:Int):Bool:=zd4 h m (zbR (zy h m) g (hasB p 4))
theorem z3K {b c:Bare}(hS:SameB b c)(n:Int):(zje b n).Guests=(zje c n).Guests/\(zje b n).Pending=(zje c n).Pending/\zeS b n=zeS c n:=by
 have e:zeS b n=zeS c n:=by unfold zeS;rw[hS.o]
 unfold zje;rw[e];cases zeS c n
 .exact ⟨hS.g,hS.p,rfl⟩
 .unfold zEM;rw[hS.g];cases ieq (ln (zd9 c.Guests n)) 0
  .exact ⟨by simp only[cT,cF],by simp only[cT,cF,hS.p],rfl⟩
  .exact ⟨by simp only[cT,hS.g],by simp only[cT,hS.p],rfl⟩
theorem z4w {b c:Bare}(hS:SameB b c):(zlS b).Guests=(zlS c).Guests/\(zlS b).Pending=(zlS c).Pending/\zrK b=zrK c/\zk8 b=zk8 c:=by
 unfold zlS zrK zk8;rw[hS.o,hS.p];cases zbC c
 .exact ⟨hS.g,hS.p,rfl,rfl⟩
 .exact ⟨hS.g,rfl,rfl,rfl⟩
theorem z4f {b:Bare}{n:Int}(h:SmB b):SmB (zje b n):=by
 unfold zje;cases zeS b n
 .exact h
 .unfold zEM;cases ieq (ln (zd9 b.Guests n)) 0
  .exact ⟨h.1,(zEg _ zMG h.2.1).1,h.2.2⟩
  .exact h
theorem z6g {b:Bare}(h:SmB b):SmB (zlS b):=by
 unfold zlS;cases zbC b
 .exact h
 .exact h
theorem zs7 {H H':Host}{x y:Bool}(h1:H=H')(h2:x=y):some [AV.agg (zba H),AV.one (.b x)]=some [AV.agg (zba H'),AV.one (.b y)]:=by rw[h1,h2]
theorem z8r {H H':Host}{n k:Int}{x y:Bool}(h1:H=H')(h2:n=k)(h3:x=y):some [AV.agg (zba H),AV.one (.i .i64 n),AV.one (.b x)]=some [AV.agg (zba H'),AV.one (.i .i64 k),AV.one (.b y)]:=by rw[h1,h2,h3]
theorem zZw {b:Bare}(g p:Int)(s:Slot)(hb:SmB b):SmB (zjR b g p s):=zp2 hb (z6j _ _ (ziN _ hb))
theorem z6c {b c:Bare}(hS:SameB b c)(h:Host)(m:Int)(g p:Int)(s:Slot):zcW h m (zjR b g p s)=zcW h m (zjR c g p s)/\zmn b g p s=zmn c g p s:=by
 have e:=hS.at g;simp only[zjR,zmn,e];exact ⟨zpj hS _ _ _ _ _,zla hS _ _⟩
@[simp] abbrev zwO (h:Host)(m:Int)(g p:Int)(s:Slot):Bool:=pc (zcd h)
@[simp] abbrev zqM (h:Host)(m:Int)(g p:Int)(s:Slot):Host:=zeH h m (zjR (zy h m) g p s)
@[simp] abbrev zqN (h:Host)(m:Int)(g p:Int)(s:Slot):Bool:=zd4 h m (zmn (zy h m) g p s)
def zAN:Run:=rF5 dH dI dI dI (dT .slot) fun b c d e f=>(zwO b c d e f,[aH (zqM b c d e f),aB (zqN b c d e f)])
def zGk (N:Nat)(a0:Host)(a1 a2 a3:Int)(a4:Slot):OA:=
 let y1:=(zu a0);let y0:=(ix y1.Mons a1 zf); (oN (zbI a0) (oN (zfj y1 a1) (cond (nB (zfi y1 a1)) (some [(aH y1),(aB false)]) (oN (inb a1 (ln y1.Mons)) (oN (zeE y0) (oN (zqB (zbA y0) a2 a3 a4) (oN (zeD y1 a1 (zh8 (zbA y0) a2 a3 a4)) (some [(aH (zgS y1 a1 (zh8 (zbA y0) a2 a3 a4))),(aB (zjW (zbA y0) a2 a3 a4))]))))))))
theorem zSA (a0:Host)(a1 a2 a3:Int)(a4:Slot)(hc:zwO a0 a1 a2 a3 a4=true):∃N,zGk N a0 a1 a2 a3 a4=some [aH (zqM a0 a1 a2 a3 a4),aB (zqN a0 a1 a2 a3 a4)]:=by
 have hs:=(zJ a0).1 (zD.1 hc);refine ⟨0,?_⟩;have key:=znk (h:=a0) (m:=a1) (cB:=zqB (zcL (ix a0.Mons a1 mZ)) a2 a3 a4) (B:=zh8 (zcL (ix a0.Mons a1 mZ)) a2 a3 a4) (o0:=fun H=>[.agg (zba H),.one (.b false)]) (o1:=fun H=>[.agg (zba H),.one (.b (zjW (zcL (ix a0.Mons a1 mZ)) a2 a3 a4))]) hs
  (fun h0=>zbe (zeN (hs.2.1.2 _ (zbv (zcm.1 h0).2 _)))) (fun h0=>zZw _ _ _ (zeN (hs.2.1.2 _ (zbv (zcm.1 h0).2 _))))
 refine (show zGk 0 a0 a1 a2 a3 a4=_ from key).trans ?_
 unfold zqM zqN zeH zd4;cases h0:zcx a0 a1
 .rfl
 .obtain ⟨e1,e2⟩:=z6c (ziV h0 (znJ h0)) a0 a1 a2 a3 a4;simp only[cT];exact zs7 e1 e2
theorem zLr:u3 111 zAN:=kF5 ziO zk zbQ zc7 (zq []) zSA
theorem zMX {b:Bare}(g v:Int)(hb:SmB b):SmB (zg0 b g v):=zp2 hb (z6h _ (ziN _ hb))
theorem zYy {b c:Bare}(hS:SameB b c)(h:Host)(m:Int)(g v:Int):zcW h m (zg0 b g v)=zcW h m (zg0 c g v)/\ziy b g v=ziy c g v:=by
 have e:=hS.at g;simp only[zg0,ziy,e];exact ⟨zpj hS _ _ _ _ _,zla hS _ _⟩
@[simp] abbrev zpS (h:Host)(m:Int)(g v:Int):Bool:=pc (zcd h)
@[simp] abbrev zlD (h:Host)(m:Int)(g v:Int):Host:=zeH h m (zg0 (zy h m) g v)
@[simp] abbrev zlE (h:Host)(m:Int)(g v:Int):Bool:=zd4 h m (ziy (zy h m) g v)
def zuh:Run:=rF4 dH dI dI dI fun b c d e=>(zpS b c d e,[aH (zlD b c d e),aB (zlE b c d e)])
def zxg (N:Nat)(a0:Host)(a1 a2 a3:Int):OA:=
 let y1:=(zu a0);let y0:=(ix y1.Mons a1 zf); (oN (zbI a0) (oN (zfj y1 a1) (cond (nB (zfi y1 a1)) (some [(aH y1),(aB false)]) (oN (inb a1 (ln y1.Mons)) (oN (zeE y0) (oN (zlw (zbA y0) a2 a3) (oN (zeD y1 a1 (zfH (zbA y0) a2 a3)) (some [(aH (zgS y1 a1 (zfH (zbA y0) a2 a3))),(aB (zg3 (zbA y0) a2 a3))]))))))))
theorem zIZ (a0:Host)(a1 a2 a3:Int)(hc:zpS a0 a1 a2 a3=true):∃N,zxg N a0 a1 a2 a3=some [aH (zlD a0 a1 a2 a3),aB (zlE a0 a1 a2 a3)]:=by
 have hs:=(zJ a0).1 (zD.1 hc);refine ⟨0,?_⟩;have key:=znk (h:=a0) (m:=a1) (cB:=zlw (zcL (ix a0.Mons a1 mZ)) a2 a3) (B:=zfH (zcL (ix a0.Mons a1 mZ)) a2 a3) (o0:=fun H=>[.agg (zba H),.one (.b false)]) (o1:=fun H=>[.agg (zba H),.one (.b (zg3 (zcL (ix a0.Mons a1 mZ)) a2 a3))]) hs
  (fun h0=>zbe (zeN (hs.2.1.2 _ (zbv (zcm.1 h0).2 _)))) (fun h0=>zMX _ _ (zeN (hs.2.1.2 _ (zbv (zcm.1 h0).2 _))))
 refine (show zxg 0 a0 a1 a2 a3=_ from key).trans ?_
 unfold zlD zlE zeH zd4;cases h0:zcx a0 a1
 .rfl
 .obtain ⟨e1,e2⟩:=zYy (ziV h0 (znJ h0)) a0 a1 a2 a3;simp only[cT];exact zs7 e1 e2
theorem zCH:u3 113 zuh:=kF4 ziO zk zbQ zc7 (zq []) zIZ
theorem zMZ {b:Bare}(g:Int)(hb:SmB b):SmB (zg2 b g):=zp2 hb (z6i (ziN _ hb))
theorem zYA {b c:Bare}(hS:SameB b c)(h:Host)(m:Int)(g:Int):zcW h m (zg2 b g)=zcW h m (zg2 c g)/\ziA b g=ziA c g:=by
 have e:=hS.at g;simp only[zg2,ziA,e];exact ⟨zpj hS _ _ _ _ _,zla hS _ _⟩
@[simp] abbrev zpU (h:Host)(m:Int)(g:Int):Bool:=pc (zcd h)
@[simp] abbrev zlH (h:Host)(m:Int)(g:Int):Host:=zeH h m (zg2 (zy h m) g)
@[simp] abbrev zlI (h:Host)(m:Int)(g:Int):Bool:=zd4 h m (ziA (zy h m) g)
def zuj:Run:=rF3 dH dI dI fun b c d=>(zpU b c d,[aH (zlH b c d),aB (zlI b c d)])
def zxi (N:Nat)(a0:Host)(a1 a2:Int):OA:=
 let y1:=(zu a0);let y0:=(ix y1.Mons a1 zf); (oN (zbI a0) (oN (zfj y1 a1) (cond (nB (zfi y1 a1)) (some [(aH y1),(aB false)]) (oN (inb a1 (ln y1.Mons)) (oN (zeE y0) (oN (zly (zbA y0) a2) (oN (zeD y1 a1 (zfJ (zbA y0) a2)) (some [(aH (zgS y1 a1 (zfJ (zbA y0) a2))),(aB (zg5 (zbA y0) a2))]))))))))
theorem zI1 (a0:Host)(a1 a2:Int)(hc:zpU a0 a1 a2=true):∃N,zxi N a0 a1 a2=some [aH (zlH a0 a1 a2),aB (zlI a0 a1 a2)]:=by
 have hs:=(zJ a0).1 (zD.1 hc);refine ⟨0,?_⟩;have key:=znk (h:=a0) (m:=a1) (cB:=zly (zcL (ix a0.Mons a1 mZ)) a2) (B:=zfJ (zcL (ix a0.Mons a1 mZ)) a2) (o0:=fun H=>[.agg (zba H),.one (.b false)]) (o1:=fun H=>[.agg (zba H),.one (.b (zg5 (zcL (ix a0.Mons a1 mZ)) a2))]) hs
  (fun h0=>zbe (zeN (hs.2.1.2 _ (zbv (zcm.1 h0).2 _)))) (fun h0=>zMZ _ (zeN (hs.2.1.2 _ (zbv (zcm.1 h0).2 _))))
 refine (show zxi 0 a0 a1 a2=_ from key).trans ?_
 unfold zlH zlI zeH zd4;cases h0:zcx a0 a1
 .rfl
 .obtain ⟨e1,e2⟩:=zYA (ziV h0 (znJ h0)) a0 a1 a2;simp only[cT];exact zs7 e1 e2
theorem zCJ:u3 114 zuj:=kF3 ziO zk zbQ zc7 (zq []) zI1
theorem zMY {b:Bare}(g n:Int)(hb:SmB b):SmB (zg1 b g n):=zp2 hb (ziN (b:=b) _ hb)
theorem zYz {b c:Bare}(hS:SameB b c)(h:Host)(m:Int)(g n:Int):zcW h m (zg1 b g n)=zcW h m (zg1 c g n)/\ziz b g n=ziz c g n:=by
 have e:=hS.at g;simp only[zg1,ziz,e];exact ⟨zpj hS _ _ _ _ _,zla hS _ _⟩
@[simp] abbrev zpT (h:Host)(m:Int)(g n:Int):Bool:=pc (zcd h)
@[simp] abbrev zlF (h:Host)(m:Int)(g n:Int):Host:=zeH h m (zg1 (zy h m) g n)
@[simp] abbrev zlG (h:Host)(m:Int)(g n:Int):Bool:=zd4 h m (ziz (zy h m) g n)
def zui:Run:=rF4 dH dI dI dI fun b c d e=>(zpT b c d e,[aH (zlF b c d e),aB (zlG b c d e)])
def zxh (N:Nat)(a0:Host)(a1 a2 a3:Int):OA:=
 let y1:=(zu a0);let y0:=(ix y1.Mons a1 zf); (oN (zbI a0) (oN (zfj y1 a1) (cond (nB (zfi y1 a1)) (some [(aH y1),(aB false)]) (oN (inb a1 (ln y1.Mons)) (oN (zeE y0) (oN (zlx (zbA y0) a2 a3) (oN (zeD y1 a1 (zfI (zbA y0) a2 a3)) (some [(aH (zgS y1 a1 (zfI (zbA y0) a2 a3))),(aB (zg4 (zbA y0) a2 a3))]))))))))
theorem zI0 (a0:Host)(a1 a2 a3:Int)(hc:zpT a0 a1 a2 a3=true):∃N,zxh N a0 a1 a2 a3=some [aH (zlF a0 a1 a2 a3),aB (zlG a0 a1 a2 a3)]:=by
 have hs:=(zJ a0).1 (zD.1 hc);refine ⟨0,?_⟩;have key:=znk (h:=a0) (m:=a1) (cB:=zlx (zcL (ix a0.Mons a1 mZ)) a2 a3) (B:=zfI (zcL (ix a0.Mons a1 mZ)) a2 a3) (o0:=fun H=>[.agg (zba H),.one (.b false)]) (o1:=fun H=>[.agg (zba H),.one (.b (zg4 (zcL (ix a0.Mons a1 mZ)) a2 a3))]) hs
  (fun h0=>zbe (zeN (hs.2.1.2 _ (zbv (zcm.1 h0).2 _)))) (fun h0=>zMY _ _ (zeN (hs.2.1.2 _ (zbv (zcm.1 h0).2 _))))
 refine (show zxh 0 a0 a1 a2 a3=_ from key).trans ?_
 unfold zlF zlG zeH zd4;cases h0:zcx a0 a1
 .rfl
 .obtain ⟨e1,e2⟩:=zYz (ziV h0 (znJ h0)) a0 a1 a2 a3;simp only[cT];exact zs7 e1 e2
theorem zCI:u3 115 zui:=kF4 ziO zk zbQ zc7 (zq []) zI0
theorem zZv {b:Bare}(g:Int)(x:Ctl)(hb:SmB b):SmB (zjQ b g x):=zp2 hb (ziN (b:=b) _ hb)
theorem z6b {b c:Bare}(hS:SameB b c)(h:Host)(m:Int)(g:Int)(x:Ctl):zcW h m (zjQ b g x)=zcW h m (zjQ c g x)/\zmm b g x=zmm c g x:=by
 have e:=hS.at g;simp only[zjQ,zmm,e];exact ⟨zpj hS _ _ _ _ _,zla hS _ _⟩
@[simp] abbrev zwL (h:Host)(m:Int)(g:Int)(x:Ctl):Bool:=pc (zcd h)
@[simp] abbrev zqI (h:Host)(m:Int)(g:Int)(x:Ctl):Host:=zeH h m (zjQ (zy h m) g x)
@[simp] abbrev zqJ (h:Host)(m:Int)(g:Int)(x:Ctl):Bool:=zd4 h m (zmm (zy h m) g x)
def zAK:Run:=rF4 dH dI dI dC fun b c d e=>(zwL b c d e,[aH (zqI b c d e),aB (zqJ b c d e)])
def zGh (N:Nat)(a0:Host)(a1 a2:Int)(a3:Ctl):OA:=
 let y1:=(zu a0);let y0:=(ix y1.Mons a1 zf); (oN (zbI a0) (oN (zfj y1 a1) (cond (nB (zfi y1 a1)) (some [(aH y1),(aB false)]) (oN (inb a1 (ln y1.Mons)) (oN (zeE y0) (oN (zqA (zbA y0) a2 a3) (oN (zeD y1 a1 (zh7 (zbA y0) a2 a3)) (some [(aH (zgS y1 a1 (zh7 (zbA y0) a2 a3))),(aB (zjV (zbA y0) a2 a3))]))))))))
theorem zSx (a0:Host)(a1 a2:Int)(a3:Ctl)(hc:zwL a0 a1 a2 a3=true):∃N,zGh N a0 a1 a2 a3=some [aH (zqI a0 a1 a2 a3),aB (zqJ a0 a1 a2 a3)]:=by
 have hs:=(zJ a0).1 (zD.1 hc);refine ⟨0,?_⟩;have key:=znk (h:=a0) (m:=a1) (cB:=zqA (zcL (ix a0.Mons a1 mZ)) a2 a3) (B:=zh7 (zcL (ix a0.Mons a1 mZ)) a2 a3) (o0:=fun H=>[.agg (zba H),.one (.b false)]) (o1:=fun H=>[.agg (zba H),.one (.b (zjV (zcL (ix a0.Mons a1 mZ)) a2 a3))]) hs
  (fun h0=>zbe (zeN (hs.2.1.2 _ (zbv (zcm.1 h0).2 _)))) (fun h0=>zZv _ _ (zeN (hs.2.1.2 _ (zbv (zcm.1 h0).2 _))))
 refine (show zGh 0 a0 a1 a2 a3=_ from key).trans ?_
 unfold zqI zqJ zeH zd4;cases h0:zcx a0 a1
 .rfl
 .obtain ⟨e1,e2⟩:=z6b (ziV h0 (znJ h0)) a0 a1 a2 a3;simp only[cT];exact zs7 e1 e2
theorem zLo:u3 116 zAK:=kF4 ziO zk zbQ zc7 (zq []) zSx
theorem zWB {b:Bare}(n:Int)(hb:SmB b):SmB (zkA b n):=z4f hb
theorem z3X {b c:Bare}(hS:SameB b c)(h:Host)(m n:Int):zcW h m (zkA b n)=zcW h m (zkA c n)/\zoo b n=zoo c n:=by
 obtain ⟨e1,e2,e3⟩:=z3K hS n;exact ⟨back_eq e1 e2,e3⟩
@[simp] abbrev zut (h:Host)(m:Int)(n:Int):Bool:=pc (zcd h)
@[simp] abbrev zoQ (h:Host)(m:Int)(n:Int):Host:=zeH h m (zkA (zy h m) n)
@[simp] abbrev zoR (h:Host)(m:Int)(n:Int):Bool:=zd4 h m (zoo (zy h m) n)
def zx9:Run:=rF3 dH dI dI fun b c d=>(zut b c d,[aH (zoQ b c d),aB (zoR b c d)])
def zBX (N:Nat)(a0:Host)(a1 a2:Int):OA:=
 let y1:=(zu a0);let y0:=(ix y1.Mons a1 zf); (oN (zbI a0) (oN (zfj y1 a1) (cond (nB (zfi y1 a1)) (some [(aH y1),(aB false)]) (oN (inb a1 (ln y1.Mons)) (oN (zeE y0) (oN (zoI (zbA y0) a2) (oN (zeD y1 a1 (ziF (zbA y0) a2)) (some [(aH (zgS y1 a1 (ziF (zbA y0) a2))),(aB (zkI (zbA y0) a2))]))))))))
theorem zPg (a0:Host)(a1 a2:Int)(hc:zut a0 a1 a2=true):∃N,zBX N a0 a1 a2=some [aH (zoQ a0 a1 a2),aB (zoR a0 a1 a2)]:=by
 have hs:=(zJ a0).1 (zD.1 hc);refine ⟨0,?_⟩;have key:=znk (h:=a0) (m:=a1) (cB:=zoI (zcL (ix a0.Mons a1 mZ)) a2) (B:=ziF (zcL (ix a0.Mons a1 mZ)) a2) (o0:=fun H=>[.agg (zba H),.one (.b false)]) (o1:=fun H=>[.agg (zba H),.one (.b (zkI (zcL (ix a0.Mons a1 mZ)) a2))]) hs
  (fun h0=>zbe (zeN (hs.2.1.2 _ (zbv (zcm.1 h0).2 _)))) (fun h0=>zWB _ (zeN (hs.2.1.2 _ (zbv (zcm.1 h0).2 _))))
 refine (show zBX 0 a0 a1 a2=_ from key).trans ?_
 unfold zoQ zoR zeH zd4;cases h0:zcx a0 a1
 .rfl
 .obtain ⟨e1,e2⟩:=z3X (ziV h0 (znJ h0)) a0 a1 a2;simp only[cT];exact zs7 e1 e2
theorem zIs:u3 119 zx9:=kF3 ziO zk zbQ zc7 (zq []) zPg
theorem zZu {b:Bare}(hb:SmB b):SmB (zml b):=z6g hb
theorem z6a {b c:Bare}(hS:SameB b c)(h:Host)(m:Int):zcW h m (zml b)=zcW h m (zml c)/\zqq b=zqq c/\zqr b=zqr c:=by
 obtain ⟨e1,e2,e3,e4⟩:=z4w hS;exact ⟨back_eq e1 e2,e3,e4⟩
@[simp] abbrev zwK (h:Host)(m:Int):Bool:=pc (zcd h)
@[simp] abbrev zqE (h:Host)(m:Int):Host:=zeH h m (zml (zy h m))
@[simp] abbrev zqF (h:Host)(m:Int):Int:=bif zcx h m then zqq (zy h m) else -1
@[simp] abbrev zqG (h:Host)(m:Int):Bool:=zd4 h m (zqr (zy h m))
def zAI:Run:=rF2 dH dI fun b c=>(zwK b c,[aH (zqE b c),aI (zqF b c),aB (zqG b c)])
def zGf (N:Nat)(a0:Host)(a1:Int):OA:=
 let y1:=(zu a0);let y0:=(ix y1.Mons a1 zf); (oN (zbI a0) (oN (zfj y1 a1) (cond (nB (zfi y1 a1)) (some [(aH y1),(aI (-1)),(aB false)]) (oN (inb a1 (ln y1.Mons)) (oN (zeE y0) (oN (zqz (zbA y0)) (oN (zeD y1 a1 (zh6 (zbA y0))) (some [(aH (zgS y1 a1 (zh6 (zbA y0)))),(aI (zjT (zbA y0))),(aB (zjU (zbA y0)))]))))))))
theorem zSv (a0:Host)(a1:Int)(hc:zwK a0 a1=true):∃N,zGf N a0 a1=some [aH (zqE a0 a1),aI (zqF a0 a1),aB (zqG a0 a1)]:=by
 have hs:=(zJ a0).1 (zD.1 hc);refine ⟨0,?_⟩;have key:=znk (h:=a0) (m:=a1) (cB:=zqz (zcL (ix a0.Mons a1 mZ))) (B:=zh6 (zcL (ix a0.Mons a1 mZ))) (o0:=fun H=>[.agg (zba H),.one (.i .i64 (-1)),.one (.b false)]) (o1:=fun H=>[.agg (zba H),.one (.i .i64 (zjT (zcL (ix a0.Mons a1 mZ)))),.one (.b (zjU (zcL (ix a0.Mons a1 mZ))))]) hs
  (fun h0=>zbe (zeN (hs.2.1.2 _ (zbv (zcm.1 h0).2 _)))) (fun h0=>zZu (zeN (hs.2.1.2 _ (zbv (zcm.1 h0).2 _))))
 refine (show zGf 0 a0 a1=_ from key).trans ?_
 unfold zqE zqF zqG zeH zd4;cases h0:zcx a0 a1
 .rfl
 .obtain ⟨e1,e2,e3⟩:=z6a (ziV h0 (znJ h0)) a0 a1;simp only[cT];exact z8r e1 e2 e3
theorem zLm:u3 120 zAI:=kF2 ziO zk zbQ zc7 (zq []) zSv
def z2a:zQ:=[(111,zAN),(113,zuh),(114,zuj),(115,zui),(116,zAK),(119,zx9),(120,zAI)]++z19
theorem zu1:zI z2a:=zh zLr (zh zCH (zh zCJ (zh zCI (zh zLo (zh zIs (zh zLm ziO))))))
def zjk (h:Host)(m t:Int):Host:=bif zbX h then (cond (hasB m (ln h.Mons)) (cond (win t 0 3) { h with Mons:=up h.Mons m { ix h.Mons m mZ with Traps:=t } } h) h) else h
def zzN (h:Host)(m t:Int):Bool:=bif zbX h then (cond (hasB m (ln h.Mons)) (win t 0 3) false) else false
@[simp] abbrev zux (h:Host)(m t:Int):Bool:=pc (zcd h)
@[simp] abbrev zoZ (h:Host)(m t:Int):Host:=zjk h m t
@[simp] abbrev zo0 (h:Host)(m t:Int):Bool:=zzN h m t
def zye:Run:=rF3 dH dI dI fun b c d=>(zux b c d,[aH (zoZ b c d),aB (zo0 b c d)])
def zB1 (N:Nat)(a0:Host)(a1 a2:Int):OA:=
 let y0:=(zu a0); (oN (zbI a0) (oN (zfb y0) (cond (nB (zfa y0)) (some [(aH y0),(aB false)]) (oN (zK a1 0 (wsub .i64 (ln y0.Mons) 1)) (cond (nB (zM a1 0 (wsub .i64 (ln y0.Mons) 1))) (some [(aH y0),(aB false)]) (oN (zK a2 0 3) (cond (nB (zM a2 0 3)) (some [(aH y0),(aB false)]) (oN (inb a1 (ln y0.Mons)) (share (up y0.Mons a1 ({ (ix y0.Mons a1 zf) with Traps:=a2 }:Mon)) (fun x4=>(some [(aH ({ y0 with Mons:=x4 }:Host)),(aB true)])))))))))))
theorem zPl (a0:Host)(a1 a2:Int)(hc:zux a0 a1 a2=true):∃N,zB1 N a0 a1 a2=some [aH (zoZ a0 a1 a2),aB (zo0 a0 a1 a2)]:=by
 have hs:=(zJ a0).1 (zD.1 hc);refine ⟨0,?_⟩;unfold zB1 zoZ zo0 zjk zzN oN nB
 conv=>zeta
 refine must hc (must rfl ?_);rw[show zfa (zu a0)=zbX a0 from rfl]
 cases hh:zbX a0
 .rfl
 .refine zcH rfl (must rfl ?_);rw[show zM a1 0 (wsub .i64 (ln (zu a0).Mons) 1)=hasB a1 (ln a0.Mons) from zQa hh a1]
  cases hm:hasB a1 (ln a0.Mons)
  .rfl
  .refine zcH rfl (must rfl ?_);rw[show zM a2 0 3=win a2 0 3 from rfl]
   cases ht:win a2 0 3
   .rfl
   .exact zcH rfl (must (zx hm) rfl)
theorem zIy:u3 197 zye:=kF3 zu1 zk zbQ zc7 (zq []) zPl
theorem zjS {h:Host}{m p:Int}:(zcg h m p=true)↔zbX h=true/\hasB m (ln h.Mons)=true/\hasB p 8=true:=by
 unfold zcg;cases zbX h<;>cases hasB m (ln h.Mons)<;>simp
def zka (h:Host)(m p:Int):Bool:=ieq (ix (ix h.Mons m mZ).Outer p sZ).Page (-1)
def zpy (h:Host)(m p:Int):Host:=bif zcg h m p then (cond (zka h m p) h (zdl h m p)) else h
def zC3 (h:Host)(m p:Int):Bool:=bif zcg h m p then !zka h m p else false
def zt1 (h:Host)(m p:Int):Host:=bif zcg h m p then (cond (zka h m p) (fetched h m p) h) else h
def zI8 (h:Host)(m p:Int):Bool:=bif zcg h m p then zka h m p else false
@[simp] abbrev zwS (h:Host)(m p:Int):Bool:=pc (zcd h)
@[simp] abbrev zqP (h:Host)(m p:Int):Host:=zpy h m p
@[simp] abbrev zqQ (h:Host)(m p:Int):Bool:=zC3 h m p
@[simp] abbrev zzD (h:Host)(m p:Int):Bool:=pc (zcd h)
@[simp] abbrev zsP (h:Host)(m p:Int):Host:=zt1 h m p
@[simp] abbrev zsQ (h:Host)(m p:Int):Bool:=zI8 h m p
theorem zMv {h:Host}(hs:SmH h)(hh:zbX h=true){m p:Int}(hm:hasB m (ln h.Mons)=true)(hp:hasB p 8=true) :
 (cond (ieq (ix (ix h.Mons m mZ).Outer p sZ).Page (-1)) (ieq (ix (ix h.Mons m mZ).Outer p sZ).Rights 0) false)=zka h m p:=by
 have hf:=(zsI (zgJ hh _ (zbv hm mZ)) hp).no;unfold zcJ at hf;unfold zka;rw[<- hf];cases h1:ieq (ix (ix h.Mons m mZ).Outer p sZ).Page (-1)<;>simp [noSlot,h1]
theorem zRd {h:Host}(hs:SmH h)(hh:zbX h=true){m p:Int}(hm:hasB m (ln h.Mons)=true)(hp:hasB p 8=true):inb p (ln (ix h.Mons m mZ).Outer)=true :=
 zx (by rw[ln,((ze6 hs hh).1.2 _ (zbv hm mZ)).1];exact hp)
def zAS:Run:=rF3 dH dI dI fun b c d=>(zwS b c d,[aH (zqP b c d),aB (zqQ b c d)])
def zGo (N:Nat)(a0:Host)(a1 a2:Int):OA:=
 let y1:=(zu a0);let y0:=(ix y1.Mons a1 zf).Outer; (oN (zbI a0) (oN (znE y1 a1 a2) (cond (nB (zhB y1 a1 a2)) (some [(aH y1),(aB false)]) (oN (inb a1 (ln y1.Mons)) (oN (inb a2 (ln y0)) (oN zcn (cond (cond (ieq (ix y0 a2 zN).Page zbr.Page) (ieq (ix y0 a2 zN).Rights zbr.Rights) false) (some [(aH y1),(aB false)]) (oN (zsY y1 a1 a2) (some [(aH (zzK y1 a1 a2)),(aB true)])))))))))
theorem zSF (a0:Host)(a1 a2:Int)(hc:zwS a0 a1 a2=true):∃N,zGo N a0 a1 a2=some [aH (zqP a0 a1 a2),aB (zqQ a0 a1 a2)]:=by
 have hs:=(zJ a0).1 (zD.1 hc);refine ⟨0,?_⟩;unfold zGo zqP zqQ zpy zC3 oN nB
 conv=>zeta
 refine must hc (must rfl ?_);rw[show zhB (zu a0) a1 a2=zcg a0 a1 a2 from rfl]
 cases h0:zcg a0 a1 a2
 .rfl
 .obtain ⟨hh,hm,hp⟩:=zjS.1 h0;refine zcH rfl (must (zx hm) (must (zRd hs hh hm hp) (must rfl ?_)));rw[show (cond (ieq (ix (ix (zu a0).Mons a1 zf).Outer a2 zN).Page zbr.Page) (ieq (ix (ix (zu a0).Mons a1 zf).Outer a2 zN).Rights zbr.Rights) false)=zka a0 a1 a2 from zMv hs hh hm hp]
  cases h1:zka a0 a1 a2
  .exact zcH rfl (must (zbe ⟨(ze6 hs hh).1,hm,hp⟩) rfl)
  .rfl
theorem zLw:u3 194 zAS:=kF3 zu1 zk zbQ zc7 (zq []) zSF
def zDM:Run:=rF3 dH dI dI fun b c d=>(zzD b c d,[aH (zsP b c d),aB (zsQ b c d)])
def zKb (N:Nat)(a0:Host)(a1 a2:Int):OA:=
 let y1:=(zu a0);let y0:=(ix y1.Mons a1 zf).Outer; (oN (zbI a0) (oN (znE y1 a1 a2) (cond (nB (zhB y1 a1 a2)) (some [(aH y1),(aB false)]) (oN (inb a1 (ln y1.Mons)) (oN (inb a2 (ln y0)) (oN zcn (cond (nB (cond (ieq (ix y0 a2 zN).Page zbr.Page) (ieq (ix y0 a2 zN).Rights zbr.Rights) false)) (some [(aH y1),(aB false)]) (oN (zwc y1 a1 a2) (some [(aH (zyr y1 a1 a2)),(aB true)])))))))))
theorem zVu (a0:Host)(a1 a2:Int)(hc:zzD a0 a1 a2=true):∃N,zKb N a0 a1 a2=some [aH (zsP a0 a1 a2),aB (zsQ a0 a1 a2)]:=by
 have hs:=(zJ a0).1 (zD.1 hc);refine ⟨0,?_⟩;unfold zKb zsP zsQ zt1 zI8 oN nB
 conv=>zeta
 refine must hc (must rfl ?_);rw[show zhB (zu a0) a1 a2=zcg a0 a1 a2 from rfl]
 cases h0:zcg a0 a1 a2
 .rfl
 .obtain ⟨hh,hm,hp⟩:=zjS.1 h0;refine zcH rfl (must (zx hm) (must (zRd hs hh hm hp) (must rfl ?_)));rw[show (cond (ieq (ix (ix (zu a0).Mons a1 zf).Outer a2 zN).Page zbr.Page) (ieq (ix (ix (zu a0).Mons a1 zf).Outer a2 zN).Rights zbr.Rights) false)=zka a0 a1 a2 from zMv hs hh hm hp]
  cases h1:zka a0 a1 a2
  .rfl
  .exact zcH rfl (must (zbe ⟨ze6 hs hh,hm,hp⟩) rfl)
theorem zOp:u3 195 zDM:=kF3 zu1 zk zbQ zc7 (zq []) zVu
def z2c:zQ:=[(197,zye),(194,zAS),(195,zDM)]++z2a
theorem zQG:zI z2c:=zh zIy (zh zLw (zh zOp zu1))
theorem z1D {x:Mon}{b:Bare}(h:zfw x)(hb:zmT b.Guests):zfw (zuY x b):=⟨h.1,h.2.1,h.2.2.1,hb,h.2.2.2.2⟩
theorem zJm {h:Host}{m:Int}{b:Bare}(hs:SmH h)(hm:hasB m (ln h.Mons)=true)(hb:zmT b.Guests):SmH (zcW h m b) :=
 ⟨hs.1,ziW hs.2.1 (z1D (hs.2.1.2 _ (zbv hm _)) hb),hs.2.2⟩
theorem zTU {h:Host}{m:Int}(b:Bare)(hm:hasB m (ln h.Mons)=true):hasB m (ln (zcW h m b).Mons)=true:=by
 show hasB m (ln (up h.Mons m _))=true
 rw[ln,zgy];exact hm
theorem z8i {h:Host}{m:Int}(b:Bare)(hm:hasB m (ln h.Mons)=true):ix (zcW h m b).Mons m mZ=zuY (ix h.Mons m mZ) b:=by
 obtain ⟨k,rfl,hk⟩:=zdJ (n:=h.Mons.length) hm;exact zdO hk _ _
def zCt (h:Host)(m g p:Int):Host:=⟨h.Memory,up h.Mons m { ix h.Mons m mZ with Tables:=up (ix h.Mons m mZ).Tables g (zbL (ix (ix h.Mons m mZ).Tables g kZ) p) },zco h.Buffer (zdG m g) p,zco h.IoBuffer (zdG m g) p⟩
def z2L (H:Host)(m g p:Int)(o:Host->Ans):OA:=
 bif inb m (ln H.Mons) then (bif inb m (ln H.Mons) then (bif inb g (ln (ix H.Mons m mZ).Tables) then (bif zlB (ix (ix H.Mons m mZ).Tables g kZ) p then (bif inb g (ln (ix H.Mons m mZ).Tables) then (share (up H.Mons m { ix H.Mons m mZ with Tables:=up (ix H.Mons m mZ).Tables g (zbL (ix (ix H.Mons m mZ).Tables g kZ) p) }) fun x =>
  (cond (zkL m g) (cond (zgt H.Buffer (zdG m g) p) (cond (zkL m g) (cond (zgt H.IoBuffer (zdG m g) p) (some (o ⟨H.Memory,x,zco H.Buffer (zdG m g) p,zco H.IoBuffer (zdG m g) p⟩)) none) none) none) none)) else none) else none) else none) else none) else none
theorem z2M {H:Host}{m g p:Int}{o:Host->Ans}(hs:SmH H)(hm:hasB m (ln H.Mons)=true)(hg:hasB g (ln (ix H.Mons m mZ).Tables)=true):z2L H m g p o=some (o (zCt H m g p)):=by
 have hx:=hs.2.1.2 _ (zbv hm mZ);unfold z2L;exact must (zx hm) (must (zx hm) (must (zx hg) (must (zbe (hx.2.2.2.2.2.2 _ (zbv hg _))) (must (zx hg) (shr (must rfl (must (zbe hs.2.2.1) (must rfl (must (zbe hs.2.2.2) rfl)))))))))
def zko (h:Host)(m g p:Int):Host:=bif zcx h m then (cond (zbR (zy h m) g (hasB p 4)) (zCt (zcW h m (chg (zy h m) g (hasB p 4) (zdL (gAt (zy h m) g) p))) m g p) h) else h
@[simp] abbrev zse (h:Host)(m g p:Int):Bool:=pc (zcd h)
@[simp] abbrev zmQ (h:Host)(m g p:Int):Host:=zko h m g p
@[simp] abbrev zmR (h:Host)(m g p:Int):Bool:=zd4 h m (zbR (zy h m) g (hasB p 4))
theorem zYB {h:Host}{m:Int}(hm:hasB m (ln h.Mons)=true):(zy h m).Guests=(ix h.Mons m mZ).Guests:=by unfold zy;rw[hm];rfl
theorem zQV {h:Host}{m g:Int}{k:Bool}(hs:SmH h)(h0:zcx h m=true)(b:Bare)(hk:zbR (zy h m) g k=true):hasB g (ln (ix (zcW h m b).Mons m mZ).Tables)=true:=by
 obtain ⟨hh,hm⟩:=zcm.1 h0;rw[z8i b hm]
 show hasB g (ln (ix h.Mons m mZ).Tables)=true
 rw[ln,((ze6 hs hh).1.2 _ (zbv hm mZ)).2.2.2,<- zYB hm];unfold zbR at hk;cases hb:zb0 (zy h m) g
 .rw [hb]at hk;cases hk
 .exact (zdE.1 hb).2
def zvH:Run:=rF4 dH dI dI dI fun b c d e=>(zse b c d e,[aH (zmQ b c d e),aB (zmR b c d e)])
def zAk (N:Nat)(a0:Host)(a1 a2 a3:Int):OA:=
 let y5:=(ztn a1 a2);let y3:=(zu a0);let y2:=(ix y3.Mons a1 zf);let y0:=(zgS y3 a1 (zeI (zbA y2) a2 a3));let y1:=(ix y0.Mons a1 zf);let y4:=(ix y1.Tables a2 zd0); (oN (zbI a0) (oN (zfj y3 a1) (cond (nB (zfi y3 a1)) (some [(aH y3),(aB false)]) (oN (inb a1 (ln y3.Mons)) (oN (zeE y2) (oN (zsb (zbA y2) a2 a3) (cond (nB (zhz (zbA y2) a2 a3)) (some [(aH y3),(aB false)]) (oN (zeD y3 a1 (zeI (zbA y2) a2 a3)) (oN (inb a1 (ln y0.Mons)) (oN (inb a1 (ln y0.Mons)) (oN (inb a2 (ln y1.Tables)) (oN (zlB y4 a3) (oN (inb a2 (ln y1.Tables)) (share (up y0.Mons a1 ({ y1 with Tables:=(up y1.Tables a2 (zkJ y4 a3)) }:Mon)) (fun x5=>(oN (zkL a1 a2) (oN (zgt y0.Buffer y5 a3) (oN (zkL a1 a2) (oN (zgt y0.IoBuffer y5 a3) (some [(aH (⟨y0.Memory,x5,(zms y0.Buffer y5 a3),(zms y0.IoBuffer y5 a3)⟩:Host)),(aB true)]))))))))))))))))))))
theorem zMn (a0:Host)(a1 a2 a3:Int)(hb:zbD big [aH a0,aI a1,aI a2,aI a3])(hc:zse a0 a1 a2 a3=true):∃N,zAk N a0 a1 a2 a3=some [aH (zmQ a0 a1 a2 a3),aB (zmR a0 a1 a2 a3)]:=by
 have hs:=(zJ a0).1 (zD.1 hc);refine ⟨0,?_⟩;unfold zAk zmQ zmR zko zd4 oN nB
 conv=>zeta
 refine must hc (must rfl ?_);rw[show zfi (zu a0) a1=zcx a0 a1 from rfl]
 cases h0:zcx a0 a1
 .rfl
 .obtain ⟨hh,hm⟩:=zcm.1 h0;have hx:=hs.2.1.2 _ (zbv hm mZ);have hv:=zeN hx;have hS:=ziV h0 (znJ h0);have hk:zbR (zcL (ix a0.Mons a1 mZ)) a2 (hasB a3 4)=zbR (zy a0 a1) a2 (hasB a3 4):=zla hS _ _;have hB:zcW a0 a1 (zeI (zcL (ix a0.Mons a1 mZ)) a2 a3)=zcW a0 a1 (chg (zy a0 a1) a2 (hasB a3 4) (zdL (gAt (zy a0 a1) a2) a3)):=by
   rw[<- hS.at];exact zpj hS _ _ _ _ _
  refine zcH rfl (must (zx hm) (must (zbe hx) (must (zbe hv) ?_)));rw[show zhz (zbA (ix (zu a0).Mons a1 zf)) a2 a3=zbR (zy a0 a1) a2 (hasB a3 4) from hk]
  cases hf:zbR (zy a0 a1) a2 (hasB a3 4)
  .rfl
  .have hb:SmB (zeI (zcL (ix a0.Mons a1 mZ)) a2 a3):=zp2 hv (zM1 _ (ziN _ hv));refine zcH rfl (must (zbe ⟨hm,hb.2.1⟩) ?_);have key:=z2M (H:=zcW a0 a1 (zeI (zcL (ix a0.Mons a1 mZ)) a2 a3)) (m:=a1) (g:=a2) (p:=a3) (o:=fun H=>[.agg (zba H),.one (.b true)]) (zJm hs hm hb.2.1) (zTU _ hm) (zQV hs h0 _ hf);refine (show _=_ from key).trans ?_
   rw[hB];rfl
theorem zFi:u3 112 zvH:=hF4 zQG zk zbQ zc7 (zq []) zMn
def z2d:zQ:=[(112,zvH)]++z2c
theorem zQH:zI z2d:=zh zFi zQG
def zWl (h:Host)(m p c v:Int):Host:={ mended h m p 2 with Memory:=zbu (mended h m p 2).Memory (ix (ix (mended h m p 2).Mons m mZ).Outer p sZ).Page c v }
def ze7 (h:Host)(m p c v:Int):Bool:=bif zcg h m p then (cond (hasB c 4) (win v 0 99) false) else false
def zmY (h:Host)(m p c v:Int):Host:=bif ze7 h m p c v then zWl h m p c v else h
@[simp] abbrev zus (h:Host)(m p c v:Int):Bool:=pc (zcd h)
@[simp] abbrev zoO (h:Host)(m p c v:Int):Host:=zmY h m p c v
@[simp] abbrev zoP (h:Host)(m p c v:Int):Bool:=ze7 h m p c v
def z7T (H:Host)(m p c v:Int)(o:Host->Ans):OA:=
 bif zmD H m p 2 then (cond (inb m (ln (mended H m p 2).Mons)) (cond (inb p (ln (ix (mended H m p 2).Mons m mZ).Outer)) (cond (ziJ (mended H m p 2).Memory (ix (ix (mended H m p 2).Mons m mZ).Outer p sZ).Page c v) (some (o (zWl H m p c v))) none) none) none) else none
theorem z5S {h:Host}{m p c v:Int}{o:Host->Ans}(hs:SmH h)(h0:zcg h m p=true):z7T h m p c v o=some (o (zWl h m p c v)):=by
 obtain ⟨hh,hm,hp⟩:=zjS.1 h0;have hf:=ze6 hs hh;obtain ⟨h1,h2⟩:=zuD (n:=2) hf hm hp;unfold z7T;refine must (zbe ⟨hf,hm,hp,.inr rfl,zsI (zgJ hh _ (zbv hm mZ)) hp⟩) (must (zx h2) (must (zx ?_) (must (zbe h1.1.1) rfl)));rw[ln,(h1.2 _ (zbv h2 mZ)).1];exact hp
def zx8:Run:=rF5 dH dI dI dI dI fun b c d e f=>(zus b c d e f,[aH (zoO b c d e f),aB (zoP b c d e f)])
def zBW (N:Nat)(a0:Host)(a1 a2:Int)(a3 a4:Int):OA:=
 let y2:=(zu a0);let y0:=(znF y2 a1 a2 2);let y1:=(ix y0.Mons a1 zf).Outer;let y3:=(ix y1 a2 zN).Page; (oN (zbI a0) (oN (znE y2 a1 a2) (cond (nB (zhB y2 a1 a2)) (some [(aH y2),(aB false)]) (oN (zK a3 0 3) (cond (nB (zM a3 0 3)) (some [(aH y2),(aB false)]) (oN (zK a4 0 99) (cond (nB (zM a4 0 99)) (some [(aH y2),(aB false)]) (oN (zmD y2 a1 a2 2) (oN (inb a1 (ln y0.Mons)) (oN (inb a2 (ln y1)) (oN (ziJ y0.Memory y3 a3 a4) (some [(aH ({ y0 with Memory:=(zji y0.Memory y3 a3 a4) }:Host)),(aB true)]))))))))))))
theorem zPf (a0:Host)(a1 a2:Int)(a3 a4:Int)(hc:zus a0 a1 a2 a3 a4=true):∃N,zBW N a0 a1 a2 a3 a4=some [aH (zoO a0 a1 a2 a3 a4),aB (zoP a0 a1 a2 a3 a4)]:=by
 have hs:=(zJ a0).1 (zD.1 hc);refine ⟨0,?_⟩;unfold zBW zoO zoP zmY ze7 oN nB
 conv=>zeta
 refine must hc (must rfl ?_);rw[show zhB (zu a0) a1 a2=zcg a0 a1 a2 from rfl]
 cases h0:zcg a0 a1 a2
 .rfl
 .refine zcH rfl (must rfl ?_);rw[show zM a3 0 3=hasB a3 4 from zbaE a3]
  cases h1:hasB a3 4
  .rfl
  .refine zcH rfl (must rfl ?_);rw[show zM a4 0 99=win a4 0 99 from rfl]
   cases h2:win a4 0 99
   .rfl
   .have key:=z5S (c:=a3) (v:=a4) (o:=fun H=>[.agg (zba H),.one (.b true)]) hs h0;exact zcH rfl (show _=_ from key)
theorem zIr:u3 118 zx8:=kF5 zQH zk zbQ zc7 (zq []) zPf
def z2e:zQ:=[(118,zx8)]++z2d
theorem z2f:zI z2e:=zh zIr zQH
def z2g:zQ:=z2e
theorem zCn:zI z2g:=z2f
theorem z3o (h:Host)(b:List Entry)(m g page need:Int)(io:Bool):(lookOf h b m g page need io).2.2=zbM h m g page need:=by
 cases hl:zbM h m g page need
 .rw [zgZ hl]
 .rw [zI5 hl];unfold zfT zel;generalize zhs b m g page need=x;cases x
  .generalize zeb _ m g page need=y;cases y<;>rfl
  .rfl
theorem z88 {h:Host}{m g page need:Int}(b:List Entry)(io:Bool)(hs:SmH h)(hl:zbM h m g page need=true):SmM (lookOf h b m g page need io).1.Memory:=by
 have hg:zbF h m g=true:=by
  unfold zbM at hl;cases h1:zbF h m g
  .rw [h1]at hl;cases hl
  .rfl
 exact (ztf hs hg).shape.1.1
def zCS (h:Host)(m g a n:Int):Host×Int×Bool:=lookOf h h.IoBuffer m g (zX a) n true
def zgI (h:Host)(m g a v:Int):Bool:=bif win a 0 15 then (cond (win v 0 99) (zbM h m g (zX a) 2) false) else false
def zpq (h:Host)(m g a v:Int):Host:=bif zgI h m g a v then { (zCS h m g a 2).1 with Memory:=zbu (zCS h m g a 2).1.Memory (zCS h m g a 2).2.1 (zcG a) v } else h
def zfO (h:Host)(m g a:Int):Bool:=bif win a 0 15 then zbM h m g (zX a) 1 else false
def zmZ (h:Host)(m g a:Int):Host:=bif zfO h m g a then (zCS h m g a 1).1 else h
def zrf (h:Host)(m g a:Int):Int:=bif zfO h m g a then cellAt (zCS h m g a 1).1.Memory (zCS h m g a 1).2.1 (zcG a) else 0
@[simp] abbrev zwM (h:Host)(m g a v:Int):Bool:=pc (zcd h)
@[simp] abbrev zqK (h:Host)(m g a v:Int):Host:=zpq h m g a v
@[simp] abbrev zqL (h:Host)(m g a v:Int):Bool:=zgI h m g a v
@[simp] abbrev zuu (h:Host)(m g a:Int):Bool:=pc (zcd h)
@[simp] abbrev zoS (h:Host)(m g a:Int):Host:=zmZ h m g a
@[simp] abbrev zoT (h:Host)(m g a:Int):Int:=zrf h m g a
@[simp] abbrev zoU (h:Host)(m g a:Int):Bool:=zfO h m g a
def zAL:Run:=rF5 dH dI dI dI dI fun b c d e f=>(zwM b c d e f,[aH (zqK b c d e f),aB (zqL b c d e f)])
def zGi (N:Nat)(a0:Host)(a1 a2:Int)(a3 a4:Int):OA:=
 let y1:=(zu a0);let y2:=(zj2 y1 y1.IoBuffer a1 a2 (zcC a3) 2 true);let y0:=(ze2 y1 y1.IoBuffer a1 a2 (zcC a3) 2 true); (oN (zbI a0) (oN (zK a3 0 15) (cond (nB (zM a3 0 15)) (some [(aH y1),(aB false)]) (oN (zK a4 0 99) (cond (nB (zM a4 0 99)) (some [(aH y1),(aB false)]) (oN (zgf a3) (oN (zj3 y1 y1.IoBuffer a1 a2 (zcC a3) 2 true) (cond (nB (zgQ y1 y1.IoBuffer a1 a2 (zcC a3) 2 true)) (some [(aH y0),(aB false)]) (oN (ziE a3) (oN (ziJ y0.Memory y2 (zem a3) a4) (some [(aH ({ y0 with Memory:=(zji y0.Memory y2 (zem a3) a4) }:Host)),(aB true)])))))))))))
theorem zSy (a0:Host)(a1 a2:Int)(a3 a4:Int)(hc:zwM a0 a1 a2 a3 a4=true):∃N,zGi N a0 a1 a2 a3 a4=some [aH (zqK a0 a1 a2 a3 a4),aB (zqL a0 a1 a2 a3 a4)]:=by
 have hs:=(zJ a0).1 (zD.1 hc);refine ⟨0,?_⟩;unfold zGi zqK zqL zpq zgI oN nB
 conv=>zeta
 refine must hc (must rfl ?_);rw[show zM a3 0 15=win a3 0 15 from rfl]
 cases h1:win a3 0 15
 .rfl
 .refine zcH rfl (must rfl ?_);rw[show zM a4 0 99=win a4 0 99 from rfl]
  cases h2:win a4 0 99
  .rfl
  .refine zcH rfl (must rfl (must hc ?_));rw[show zgQ (zu a0) (zu a0).IoBuffer a1 a2 (zcC a3) 2 true=zbM a0 a1 a2 (zX a3) 2 from z3o _ _ _ _ _ _ _]
   cases h3:zbM a0 a1 a2 (zX a3) 2
   .rw [show ze2 (zu a0) (zu a0).IoBuffer a1 a2 (zcC a3) 2 true=a0 from congrArg Prod.fst (zgZ h3)]
    rfl
   .exact zcH rfl (must rfl (must (zbe (z88 a0.IoBuffer true hs h3)) rfl))
theorem zLp:u3 121 zAL:=kF5 zCn zk zbQ zc7 (zq []) zSy
def zya:Run:=rF4 dH dI dI dI fun b c d e=>(zuu b c d e,[aH (zoS b c d e),aI (zoT b c d e),aB (zoU b c d e)])
def zBY (N:Nat)(a0:Host)(a1 a2 a3:Int):OA:=
 let y1:=(zu a0);let y2:=(zj2 y1 y1.IoBuffer a1 a2 (zcC a3) 1 true);let y0:=(ze2 y1 y1.IoBuffer a1 a2 (zcC a3) 1 true); (oN (zbI a0) (oN (zK a3 0 15) (cond (nB (zM a3 0 15)) (some [(aH y1),(aI 0),(aB false)]) (oN (zgf a3) (oN (zj3 y1 y1.IoBuffer a1 a2 (zcC a3) 1 true) (cond (nB (zgQ y1 y1.IoBuffer a1 a2 (zcC a3) 1 true)) (some [(aH y0),(aI 0),(aB false)]) (oN (ziE a3) (oN (zsM y0.Memory y2 (zem a3)) (some [(aH y0),(aI (znb y0.Memory y2 (zem a3))),(aB true)])))))))))
theorem zPh (a0:Host)(a1 a2 a3:Int)(hc:zuu a0 a1 a2 a3=true):∃N,zBY N a0 a1 a2 a3=some [aH (zoS a0 a1 a2 a3),aI (zoT a0 a1 a2 a3),aB (zoU a0 a1 a2 a3)]:=by
 have hs:=(zJ a0).1 (zD.1 hc);refine ⟨0,?_⟩;unfold zBY zoS zoT zoU zmZ zrf zfO oN nB
 conv=>zeta
 refine must hc (must rfl ?_);rw[show zM a3 0 15=win a3 0 15 from rfl]
 cases h1:win a3 0 15
 .rfl
 .refine zcH rfl (must rfl (must hc ?_));rw[show zgQ (zu a0) (zu a0).IoBuffer a1 a2 (zcC a3) 1 true=zbM a0 a1 a2 (zX a3) 1 from z3o _ _ _ _ _ _ _]
  cases h3:zbM a0 a1 a2 (zX a3) 1
  .rw [show ze2 (zu a0) (zu a0).IoBuffer a1 a2 (zcC a3) 1 true=a0 from congrArg Prod.fst (zgZ h3)]
   rfl
  .exact zcH rfl (must rfl (must rfl rfl))
theorem zIt:u3 122 zya:=kF4 zCn zk zbQ zc7 (zq []) zPh
def z2h:zQ:=[(121,zAL),(122,zya)]++z2g
theorem z2i:zI z2h:=zh zLp (zh zIt zCn)
def z2j:zQ:=[(188,zpN),(189,zpL)]++z2h
theorem zQI:zI z2j:=zh ztL (zh ztK z2i)
def zjP:Kept:=⟨rp 4 false,zkX⟩
@[simp] abbrev zwQ (n:Int):Bool:=ieq n 4
@[simp] abbrev zwa (n:Int):Kept:=zjP
def zAP:Run:=rF1 dI fun b=>(zwQ b,[aT .kept (zwa b)])
def zXl (N:Nat)(a0:Int):OA:=
 let y0:=(ln (zgG a0)); (oN (ziI a0) (oN (cond (few y0) (ieq y0 y0) false) (some [(aT .kept (⟨(rp y0 false),(zgG a0)⟩:Kept))])))
theorem zSC (a0:Int)(hc:zwQ a0=true):∃N,zXl N a0=some [aT .kept (zwa a0)]:=by
 refine ⟨0,?_⟩;have h:a0=4:=qD hc;subst h
 change _=_
 kernel_rfl
theorem zLt:u3 190 zAP:=kF1 zQI zk zbQ zc7 (zq []) zSC
def z2k:zQ:=[(190,zAP)]++z2j
theorem zQJ:zI z2k:=zh zLt zQI
def zuF:List Slot:=List.replicate 8 ⟨-1,0⟩
def zgx (ps:List (List Ins)):Mon:=⟨zuF,zPD,rp 8 false,(ps.take 2).map zeK,[],0,0,(ps.take 2).map (fun _=>zjP),0⟩
theorem zMq {α β γ ρ:Type}(m:Nat)(f:α->β)(g:α->γ)(K:List β×List γ->Option ρ):∀(l:List α) (i:Nat) (u:List β×List γ),u.1.length+l.length<=2147483648->u.2.length+l.length<=2147483648 ->
 goL (fun (i:Nat) x (u:List β×List γ) k=>bif ilt (i:Int) (m:Int) then (cond (few (ln (ap u.1 [f x]))) (cond (few (ln (ap u.2 [g x]))) (k (ap u.1 [f x],ap u.2 [g x])) none) none) else K u) K l i u=K (u.1++(l.take (m-i)).map f,u.2++(l.take (m-i)).map g)
 | [],i,u,_,_=>by simp[goL]
 | x :: l,i,u,h1,h2=>by
  simp only[qV]at h1 h2;have e1:few (ln (ap u.1 [f x]))=true:=zgw (by simp[ap];omega)
  have e2:few (ln (ap u.2 [g x]))=true:=zgw (by simp[ap];omega)
  by_cases h:i<m
  .have hi:ilt (i:Int) (m:Int)=true:=qJ (by omega)
   simp only[goL,hi,e1,e2,cT];rw[zMq m f g K l (i+1) _ (by simp[ap];omega) (by simp[ap];omega)]
   rw[show m-i=m-(i+1)+1 by omega]
   simp[ap]
  .have hi:ilt (i:Int) (m:Int)=false:=qH (by omega)
   simp only[goL,hi,cF];rw[show m-i=0 by omega]
   simp
def z3v (u:List Guest×List Kept):OA:=some [AV.agg (Ty.cells .mon (⟨zuF,zPD,rp 8 false,u.1,[],0,0,u.2,0⟩:Mon))]
@[simp] abbrev zsN (ps:List (List Ins)):Bool:=pc (z9L ps)
@[simp] abbrev zJf (ps:List (List Ins)):Mon:=zgx ps
def zDI:Run:=rF1 (dS (.sl .ins)) fun b=>(zsN b,[aT .mon (zJf b)])
def zJ8 (N:Nat)(a0:lP):OA:=
 (oN (ziI 8) (oN (zoW 8) (oN (cond (few 8) (ieq 8 8) false) (iter (σ:=(Int×(Int×(Int×(Int×(Int×(Int×(Int×(lP×(lS×(lM×(lB×(lG×((List Int)×(lK×(lS×(lM×(lB×(lG×((List Int)×(lK×Unit))))))))))))))))))))) N (fun r2 s3=>let y8:=s3.2.2.2.2.2.2.2.2.2.2.2.2.2.2.1;let y7:=s3.2.2.2.2.2.2.2.2.2.2.2.2.2.2.2.1;let y6:=s3.2.2.2.2.2.2.2.2.2.2.2.2.2.2.2.2.1;let y5:=s3.2.2.2.2.2.2.2.2.2.2.2.2.2.2.2.2.2.1;let y4:=s3.2.2.2.2.2.2.2.2.2.2.2.2.2.2.2.2.2.2.1;let y3:=s3.2.2.2.2.2.2.2.1;let y2:=s3.2.2.2.2.2.2.2.2.2.2.2.2.2.2.2.2.2.2.2.1;let y1:=(ap y5 [(zoM (ix y3 s3.1 []))]);let y0:=(aT .mon (⟨y8,y7,y6,y5,y4,s3.2.2.2.2.1,s3.2.2.2.2.2.1,y2,s3.2.2.2.2.2.2.1⟩:Mon)); (cond (ilt s3.1 (ln y3)) (cond (ilt s3.1 2) (oN (inb s3.1 (ln y3)) (oN (zoN (ix y3 s3.1 [])) (oN (few (ln y1)) (oN (zwQ 4) (oN (few (ln (ap y2 [(zwa 4)]))) (r2 ((zG .i64 s3.1 1),(s3.2.1,(s3.2.2.1,(s3.2.2.2.1,(s3.2.2.2.2.1,(s3.2.2.2.2.2.1,(s3.2.2.2.2.2.2.1,(y3,(s3.2.2.2.2.2.2.2.2.1,(s3.2.2.2.2.2.2.2.2.2.1,(s3.2.2.2.2.2.2.2.2.2.2.1,(s3.2.2.2.2.2.2.2.2.2.2.2.1,(s3.2.2.2.2.2.2.2.2.2.2.2.2.1,(s3.2.2.2.2.2.2.2.2.2.2.2.2.2.1,(y8,(y7,(y6,(y1,(y4,((ap y2 [(zwa 4)]),())))))))))))))))))))))))))) (some [y0])) (some [y0]))) (0,(0,(0,(0,(0,(0,(0,(a0,([],([],([],([],([],([],((zgG 8),((zjg 8),((rp 8 false),([],([],([],()))))))))))))))))))))))))
def zW3:FuncId->Nat->Option Tmpl:=zq [(105,0,{ n:=36,tm:=[(0,.sl 0 []),(2,.lp 0 0),(3,.lp 1 0),(4,ti)],lo:=[(0,[.sl 1 [],.sl 2 [],.sl 3 [],.sl 4 [],.sl 5 [],ti,ti,.sl 6 [],ti]),(1,[.sl 7 [],.sl 8 [],.sl 9 [],.sl 10 [],.sl 11 [],ti,ti,.sl 12 [],ti])],ro:=[(0,(.sl .ins),false),(1,.slot,true),(2,(.sl .int),true),(3,.bool,true),(4,.guest,true),(5,.int,true),(6,.kept,true),(7,.slot,true),(8,(.sl .int),true),(9,.bool,true),(10,.guest,true),(11,.int,true),(12,.kept,true)] })]
theorem zVq (a0:List lI)(hc:zsN a0=true):∃N,zJ8 N a0=some [aT .mon (zJf a0)]:=by
 have hs:=zD.1 hc;have hl:=zcK hs.1;refine zb8 fun N hNN=>?_;unfold zJ8 oN
 conv=>zeta
 refine must rfl (must rfl (must rfl ?_));refine (zbc a0 (fun i (t:lG×lK)=>((i:Int),0,0,0,0,0,0,a0,[],[],[],[],[],[],(zgG 8),(zjg 8),(rp 8 false),t.1,[],t.2,())) _ (fun i (x:List Ins) (u:List Guest×List Kept) κ=>bif ilt (i:Int) ((2:Nat):Int) then (cond (few (ln (ap u.1 [zeK x]))) (cond (few (ln (ap u.2 [zjP]))) (κ (ap u.1 [zeK x],ap u.2 [zjP])) none) none) else z3v u) (fun (t:lG×lK)=>(some [(.agg (Ty.cells .mon (⟨(zgG 8),(zjg 8),(rp 8 false),t.1,[],0,0,t.2,0⟩:Mon)))])) (fun i hi t rec=>?_) (fun t rec=>?_) _ ([],[]) (hNN hl.1)).trans ?_
 .simp only [zbo hi,zY hi,zbd hi,zW hi hl.1,cT];have hx:zoN a0[i]=true:=zbe (hs.2 _ (jF hi));simp only[hx,cT];rfl
 .simp only [zbf,cF]
 exact zMq 2 zeK (fun _=>zjP) z3v a0 0 ([],[]) (by simpa using hl.2) (by simpa using hl.2)
theorem zOl:u3 105 zDI:=kF1 zQJ zk zbQ zc7 zW3 zVq
def z2l:zQ:=[(105,zDI)]++z2k
theorem zQK:zI z2l:=zh zOl zQJ
def z0T:List (List Int):=List.replicate 12 [0,0,0,0]
def zfm (ps:List (List (List Ins))):Host:=⟨z0T,(ps.take 3).map zgx,[],[]⟩
def zKq (ps:List (List (List Ins))):Prop:=ps.length<=1048576/\∀p∈ps,z9L p
@[simp] abbrev zwN (ps:List (List (List Ins))):Bool:=pc (zKq ps)
@[simp] abbrev zgN (ps:List (List (List Ins))):Host:=zfm ps
def zZa (t:List Mon):OA:=some [AV.agg (zba ⟨z0T,t,[],[]⟩)]
def zAM:Run:=rF1 (dS (.sl (.sl .ins))) fun b=>(zwN b,[aH (zgN b)])
def zGj (N:Nat)(a0:lQ):OA:=
 (oN (zoW 12) (iter (σ:=(Int×(lQ×(lM×(lN×(lE×(lE×(lM×(lN×(lE×(lE×Unit))))))))))) N (fun r2 s3=>let y1:=(ap s3.2.2.2.2.2.2.2.1 [(zJf (ix s3.2.1 s3.1 []))]);let y0:=(aH (⟨s3.2.2.2.2.2.2.1,s3.2.2.2.2.2.2.2.1,s3.2.2.2.2.2.2.2.2.1,s3.2.2.2.2.2.2.2.2.2.1⟩:Host)); (cond (ilt s3.1 (ln s3.2.1)) (cond (ilt s3.1 3) (oN (inb s3.1 (ln s3.2.1)) (oN (zsN (ix s3.2.1 s3.1 [])) (oN (few (ln y1)) (r2 ((zG .i64 s3.1 1),(s3.2.1,(s3.2.2.1,(s3.2.2.2.1,(s3.2.2.2.2.1,(s3.2.2.2.2.2.1,(s3.2.2.2.2.2.2.1,(y1,(s3.2.2.2.2.2.2.2.2.1,(s3.2.2.2.2.2.2.2.2.2.1,())))))))))))))) (some [y0])) (some [y0]))) (0,(a0,([],([],([],([],((zjg 12),([],([],([],()))))))))))))
def zTc:FuncId->Nat->Option Tmpl:=zq [(39,0,{ n:=28,tm:=[(0,.sl 0 []),(2,.lp 0 0),(3,.lp 1 0),(4,ti)],lo:=[(0,[.sl 1 [],.sl 2 [],.sl 3 [],.sl 4 []]),(1,[.sl 5 [],.sl 6 [],.sl 7 [],.sl 8 []])],ro:=[(0,(.sl (.sl .ins)),false),(1,(.sl .int),true),(2,.mon,true),(3,.entry,true),(4,.entry,true),(5,(.sl .int),true),(6,.mon,true),(7,.entry,true),(8,.entry,true)] })]
theorem zSz (a0:List lP)(hc:zwN a0=true):∃N,zGj N a0=some [aH (zgN a0)]:=by
 have hs:=zD.1 hc;have hl:=zcK hs.1;refine zb8 fun N hNN=>?_;unfold zGj oN
 conv=>zeta
 refine must rfl ?_;refine (zbc a0 (fun i (t:lN)=>((i:Int),a0,[],[],[],[],(zjg 12),t,[],[],())) _ (fun i (x:List lI) (t:List Mon) κ=>bif ilt (i:Int) ((3:Nat):Int) then (cond (few (ln (ap t [zgx x]))) (κ (ap t [zgx x])) none) else zZa t) (fun (t:lN)=>(some [(.agg (zba (⟨(zjg 12),t,[],[]⟩:Host)))])) (fun i hi t rec=>?_) (fun t rec=>?_) _ ([]) (hNN hl.1)).trans ?_
 .simp only [zbo hi,zY hi,zbd hi,zW hi hl.1,cT];have hx:zsN a0[i]=true:=zbe (hs.2 _ (jF hi));simp only[hx,cT];rfl
 .simp only [zbf,cF]
 exact zQ7 3 zgx zZa a0 0 [] (by simpa using hl.2)
theorem zLq:u3 39 zAM:=kF1 zQK zk zbQ zc7 zTc zSz
def z2m:zQ:=[(39,zAM)]++z2l
theorem zQL:zI z2m:=zh zLq zQK
def zin:Nat->Nat->Kept->Kept
 | 0,_,k=>k
 | n+1,i,k=>zin n (i+1) (zbL k (i:Int))
def ziZ (k:Kept):Kept:=zin k.Known.length 0 k
theorem z0u (k:Kept)(p:Int):(zbL k p).Known.length=k.Known.length:=by
 unfold zbL;cases zc9 k p
 .rfl
 .exact zgy _ _ _
theorem zwY:∀(n i:Nat) (k:Kept),SmK k->SmK (zin n i k)
 | 0,_,_,h=>h
 | n+1,i,k,h=>zwY n (i+1) _ (zpc h)
@[simp] abbrev zsd (k:Kept):Bool:=pc (SmK k)
@[simp] abbrev zwJ (k:Kept):Kept:=ziZ k
def zvG:Run:=rF1 (dT .kept) fun b=>(zsd b,[aT .kept (zwJ b)])
def zAj (N:Nat)(a0:Kept):OA:=
 (oN (zfW a0) (iter (σ:=(Int×(lB×(lS×(lB×(lS×Unit)))))) N (fun r2 s3=>let y0:=(⟨s3.2.1,s3.2.2.1⟩:Kept); (cond (ilt s3.1 (ln s3.2.1)) (oN (zlB y0 s3.1) (r2 ((zG .i64 s3.1 1),((zkJ y0 s3.1).Known,((zkJ y0 s3.1).Slots,(s3.2.2.2.1,(s3.2.2.2.2.1,()))))))) (some [(aT .kept y0)]))) (0,((zdr a0).Known,((zdr a0).Slots,([],([],())))))))
def zNq:FuncId->Nat->Option Tmpl:=zq [(257,0,{ n:=17,tm:=[(1,.lp 0 0),(2,.lp 1 0),(3,ti)],lo:=[(0,[.sl 0 [],.sl 1 []]),(1,[.sl 2 [],.sl 3 []])],ro:=[(0,.bool,true),(1,.slot,true),(2,.bool,true),(3,.slot,true)] })]
theorem zMm (a0:Kept)(hc:zsd a0=true):∃N,zAj N a0=some [aT .kept (zwJ a0)]:=by
 have hs:=zD.1 hc;have hl:=zcK hs.1;refine zb8 fun N hNN=>?_;unfold zAj oN
 conv=>zeta
 refine must (zbb ((zxj _).2 hs)) ?_;refine (zpw a0.Known.length (fun i (k:Kept)=>((i:Int),(k.Known,(k.Slots,([],([],())))))) _ (fun i k=>SmK k/\k.Known.length=a0.Known.length) (fun i k=>some [AV.agg (Ty.cells .kept (zin (a0.Known.length-i) i k))]) (fun i k rec hi hI hr=>?_) (fun k rec hI=>?_) N 0 a0 ⟨hs,rfl⟩ (jQ _) (hNN hl.1)).trans rfl
 .refine must (zbo (by rw[hI.2];exact hi)) (must (zbe hI.1) ?_)
  have q:=hr (zbL k (i:Int)) ⟨zpc hI.1,by rw[z0u];exact hI.2⟩
  rw[show a0.Known.length-i=a0.Known.length-(i+1)+1 by omega]
  rw[zW hi hl.1];exact q
 .refine zcH (by show ilt (a0.Known.length:Int) (ln k.Known)=false;rw[ln,hI.2];exact qH (by omega)) ?_
  rw[kN];rfl
theorem zFh:u3 257 zvG:=kF1 zQL zk zbQ zc7 zNq zMm
def z2o:zQ:=[(257,zvG)]++z2m
theorem zQM:zI z2o:=zh zFh zQL
def zuZ:Nat->Nat->List Kept->List Kept
 | 0,_,l=>l
 | n+1,j,l=>zuZ n (j+1) (up l (j:Int) (ziZ (ix l (j:Int) kZ)))
def zu0 (x:Mon)(n j:Nat):Mon:={ x with Tables:=zuZ n j x.Tables }
def znW:Nat->Nat->List Mon->List Mon
 | 0,_,t=>t
 | n+1,i,t=>znW n (i+1) (up t (i:Int) (zu0 (ix t (i:Int) mZ) (ix t (i:Int) mZ).Tables.length 0))
def cold (h:Host):Host:=⟨h.Memory,znW h.Mons.length 0 h.Mons,[],[]⟩
theorem zM3:∀(n j:Nat) (l:List Kept),j+n<=l.length->zB9 l->zB9 (zuZ n j l)
 | 0,_,_,_,h=>h
 | n+1,j,l,hn,h=>by
  have hj:j<l.length:=by omega
  refine zM3 n (j+1) _ (by rw[zgy];omega) (zyt h (zwY _ _ _ ?_))
  rw[zbd hj];exact h.2 _ (jF hj)
theorem zM5 {x:Mon}(h:zfw x){n j:Nat}(hn:j+n<=x.Tables.length):zfw (zu0 x n j):=⟨h.1,h.2.1,h.2.2.1,h.2.2.2.1,h.2.2.2.2.1,zM3 n j _ hn h.2.2.2.2.2⟩
@[simp] abbrev zJd (h:Host):Bool:=pc (zcd h)
@[simp] abbrev zWq (h:Host):Host:=cold h
def zMP:Run:=rF1 dH fun b=>(zJd b,[aH (zWq b)])
def zTH (N:Nat)(a0:Host):OA:=
 (oN (zbI a0) (iter (σ:=(Int×(lM×(lN×(lE×(lE×(lM×(lN×(lE×(lE×Unit)))))))))) N (fun r2 s3=>(cond (ilt s3.1 (ln s3.2.2.1)) (iter (σ:=(Int×(Int×(lM×(lN×(lE×(lE×(lM×(lN×(lE×(lE×Unit))))))))))) N (fun r4 s5=>let y1:=(inb s5.1 (ln s5.2.2.2.1));let y0:=(ix s5.2.2.2.1 s5.1 zf);let y2:=(ix y0.Tables s5.2.1 zd0); (oN y1 (cond (ilt s5.2.1 (ln y0.Tables)) (oN y1 (oN y1 (oN (inb s5.2.1 (ln y0.Tables)) (oN (zsd y2) (oN (inb s5.2.1 (ln y0.Tables)) (share (up s5.2.2.2.1 s5.1 ({ y0 with Tables:=(up y0.Tables s5.2.1 (zwJ y2)) }:Mon)) (fun x6=>(r4 (s5.1,((zG .i64 s5.2.1 1),(s5.2.2.1,(x6,(s5.2.2.2.2.1,(s5.2.2.2.2.2.1,(s5.2.2.2.2.2.2.1,(s5.2.2.2.2.2.2.2.1,(s5.2.2.2.2.2.2.2.2.1,(s5.2.2.2.2.2.2.2.2.2.1,())))))))))))))))))) (r2 ((zG .i64 s5.1 1),(s5.2.2.1,(s5.2.2.2.1,(s5.2.2.2.2.1,(s5.2.2.2.2.2.1,(s5.2.2.2.2.2.2.1,(s5.2.2.2.2.2.2.2.1,(s5.2.2.2.2.2.2.2.2.1,(s5.2.2.2.2.2.2.2.2.2.1,()))))))))))))) (s3.1,(0,(s3.2.1,(s3.2.2.1,(s3.2.2.2.1,(s3.2.2.2.2.1,(s3.2.2.2.2.2.1,(s3.2.2.2.2.2.2.1,(s3.2.2.2.2.2.2.2.1,(s3.2.2.2.2.2.2.2.2.1,()))))))))))) (some [(aH (⟨s3.2.1,s3.2.2.1,[],[]⟩:Host))]))) (0,((zu a0).Memory,((zu a0).Mons,((zu a0).Buffer,((zu a0).IoBuffer,([],([],([],([],())))))))))))
def z1J:FuncId->Nat->Option Tmpl:=zq [(198,0,{ n:=48,tm:=[(1,.lp 0 0),(2,.lp 1 0),(3,ti)],lo:=[(0,[.sl 0 [],.sl 1 [],.sl 2 [],.sl 3 []]),(1,[.sl 4 [],.sl 5 [],.sl 6 [],.sl 7 []])],ro:=[(0,(.sl .int),true),(1,.mon,true),(2,.entry,true),(3,.entry,true),(4,(.sl .int),true),(5,.mon,true),(6,.entry,true),(7,.entry,true)] }),(198,2,{ n:=48,tm:=[(1,.lp 0 0),(2,.lp 1 0),(3,ti),(4,ti)],lo:=[(0,[.sl 0 [],.sl 1 [],.sl 2 [],.sl 3 []]),(1,[.sl 4 [],.sl 5 [],.sl 6 [],.sl 7 []])],ro:=[(0,(.sl .int),true),(1,.mon,true),(2,.entry,true),(3,.entry,true),(4,(.sl .int),true),(5,.mon,true),(6,.entry,true),(7,.entry,true)] })]
theorem z0Q (a0:Host)(hc:zJd a0=true):∃N,zTH N a0=some [aH (zWq a0)]:=by
 have hs:=(zJ a0).1 (zD.1 hc);have hl:=zcK hs.2.1.1;refine zb8 fun N hNN=>?_;unfold zTH oN
 conv=>zeta
 refine must hc ?_;refine (zpw a0.Mons.length (fun i (t:List Mon)=>((i:Int),(a0.Memory,(t,(a0.Buffer,(a0.IoBuffer,([],([],([],([],())))))))))) _ (fun i t=>zq1 t/\t.length=a0.Mons.length) (fun i t=>some [AV.agg (zba ⟨a0.Memory,znW (a0.Mons.length-i) i t,[],[]⟩)]) (fun i t rec hi hI hr=>?_) (fun t rec hI=>?_) N 0 a0.Mons ⟨hs.2.1,rfl⟩ (jQ _) (hNN hl.1)).trans rfl
 .have hit:i<t.length:=by rw[hI.2];exact hi
  have hx:zfw (ix t (i:Int) mZ):=by rw[zbd hit];exact hI.1.2 _ (jF hit)
  have hk:=zcK hx.2.2.2.2.2.1;refine must (zbo hit) ?_;refine (zpw (ix t (i:Int) mZ).Tables.length (fun j (u:List Mon)=>((i:Int),((j:Int),(a0.Memory,(u,(a0.Buffer,(a0.IoBuffer,([],([],([],([],())))))))))))
   _ (fun j u=>u.length=t.length/\zfw (ix u (i:Int) mZ)/\(ix u (i:Int) mZ).Tables.length=(ix t (i:Int) mZ).Tables.length)
   (fun j u=>rec (((i+1:Nat):Int),(a0.Memory,(up u (i:Int) (zu0 (ix u (i:Int) mZ) ((ix t (i:Int) mZ).Tables.length-j) j),(a0.Buffer,(a0.IoBuffer,([],([],([],([],()))))))))))
   (fun j u rec1 hj hJ hr1=>?_) (fun u rec1 hJ=>?_) N 0 t ⟨rfl,hx,rfl⟩ (jQ _) (hNN hk.1)).trans ?_
  .have hiu:i<u.length:=by rw[hJ.1];exact hit
   have hju:j<(ix u (i:Int) mZ).Tables.length:=by rw[hJ.2.2];exact hj
   have hkj:SmK (ix (ix u (i:Int) mZ).Tables (j:Int) kZ):=by rw[zbd hju];exact hJ.2.1.2.2.2.2.2.2 _ (jF hju)
   refine must (zY hiu) (must (zbo hju) (must (zY hiu) (must (zY hiu) (must (zY hju) (must (zbe hkj) (must (zY hju) (shr ?_)))))));have hn:zfw { ix u (i:Int) mZ with Tables:=up (ix u (i:Int) mZ).Tables (j:Int) (ziZ (ix (ix u (i:Int) mZ).Tables (j:Int) kZ)) } :=
    ⟨hJ.2.1.1,hJ.2.1.2.1,hJ.2.1.2.2.1,hJ.2.1.2.2.2.1,hJ.2.1.2.2.2.2.1,zyt hJ.2.1.2.2.2.2.2 (zwY _ _ _ hkj)⟩
   have q:=hr1 (up u (i:Int) { ix u (i:Int) mZ with Tables:=up (ix u (i:Int) mZ).Tables (j:Int) (ziZ (ix (ix u (i:Int) mZ).Tables (j:Int) kZ)) }) ⟨by rw[zgy];exact hJ.1,by rw[zdO hiu];exact hn,by rw[zdO hiu];simp only[zgy];exact hJ.2.2⟩
   rw[zW hj hk.1];refine q.trans ?_;rw[zdO hiu,zwi,show (ix t (i:Int) mZ).Tables.length-j=(ix t (i:Int) mZ).Tables.length-(j+1)+1 by omega]
   rfl
  .have hiu:i<u.length:=by rw[hJ.1];exact hit
   refine must (zY hiu) (zcH (by show ilt ((ix t (i:Int) mZ).Tables.length:Int) (ln (ix u (i:Int) mZ).Tables)=false;rw[ln,hJ.2.2];exact qH (by omega)) ?_)
   rw[zW hi hl.1,kN]
   show rec (_,(a0.Memory,(u,_)))=rec (_,(a0.Memory,(up u (i:Int) (ix u (i:Int) mZ),_)))
   rw[zP5 hiu]
  .have q:=hr (up t (i:Int) (zu0 (ix t (i:Int) mZ) (ix t (i:Int) mZ).Tables.length 0)) ⟨ziW hI.1 (zM5 hx (by omega)),by rw[zgy];exact hI.2⟩
   refine q.trans ?_;rw[show a0.Mons.length-i=a0.Mons.length-(i+1)+1 by omega]
   rfl
 .refine zcH (by show ilt (a0.Mons.length:Int) (ln t)=false;rw[ln,hI.2];exact qH (by omega)) ?_
  rw[kN];rfl
theorem zUB:u3 198 zMP:=kF1 zQM zk zbQ zc7 z1J z0Q
def z2p:zQ:=[(198,zMP)]++z2o
theorem z2q:zI z2p:=zh zUB zQM
def z2r:zQ:=z2p
theorem zQN:zI z2r:=z2q
theorem zBd:∀(n i:Nat) (t:List Mon),i+n<=t.length->zq1 t->zq1 (znW n i t)
 | 0,_,_,_,h=>h
 | n+1,i,t,hn,h=>by
  have hi:i<t.length:=by omega
  refine zBd n (i+1) _ (by rw[zgy];omega) (ziW h (zM5 ?_ (by omega)))
  rw[zbd hi];exact h.2 _ (jF hi)
theorem z6k {h:Host}(hs:SmH h):SmH (cold h):=⟨hs.1,zBd _ _ _ (by omega) hs.2.1,by simp[cold],by simp[cold]⟩
theorem zni {h:Host}{m:Int}{b:Bare}(hs:SmH h)(hb:zcx h m=true->SmB b):SmH (zeH h m b):=by
 unfold zeH;cases h0:zcx h m
 .exact hs
 .exact zJm hs (zcm.1 h0).2 (hb h0).2.1
theorem z4g {h:Host}{m g p:Int}(hs:SmH h):SmH (zko h m g p):=by
 unfold zko;cases h0:zcx h m
 .exact hs
 .cases hk:zbR (zy h m) g (hasB p 4)
  .exact hs
  .have hm:=(zcm.1 h0).2;have hv:=zJl hs hm;have hb:SmB (chg (zy h m) g (hasB p 4) (zdL (gAt (zy h m) g) p)):=zp2 hv (zM1 _ (ziN _ hv));have h1:=zJm hs hm hb.2.1;have h2:=zTU (chg (zy h m) g (hasB p 4) (zdL (gAt (zy h m) g) p)) hm;have h3:=zQV hs h0 (chg (zy h m) g (hasB p 4) (zdL (gAt (zy h m) g) p)) hk;have hx:=h1.2.1.2 _ (zbv h2 mZ);simp only[cT];exact ⟨h1.1,ziW h1.2.1 ⟨hx.1,hx.2.1,hx.2.2.1,hx.2.2.2.1,hx.2.2.2.2.1,zyt hx.2.2.2.2.2 (zpc (hx.2.2.2.2.2.2 _ (zbv h3 _)))⟩,jB (zyO _ _ _) h1.2.2.1,jB (zyO _ _ _) h1.2.2.2⟩
theorem z6l {h:Host}{m p c v:Int}(hs:SmH h):SmH (zmY h m p c v):=by
 unfold zmY;cases hf:ze7 h m p c v
 .exact hs
 .have h0:zcg h m p=true:=by
   unfold ze7 at hf;cases hp:zcg h m p
   .rw [hp]at hf;cases hf
   .rfl
  obtain ⟨hh,hm,hp⟩:=zjS.1 h0;have h1:=(zuD (n:=2) (ze6 hs hh) hm hp).1.1;exact ⟨zzR h1.1,h1.2⟩
theorem zVQ {h:Host}{m g page need:Int}(b:List Entry)(io:Bool)(hs:SmH h)(hl:zbM h m g page need=true):SmH (lookOf h b m g page need io).1:=by
 have hg:zbF h m g=true:=by
  unfold zbM at hl;cases h1:zbF h m g
  .rw [h1]at hl;cases hl
  .rfl
 exact (ztf hs hg).shape.1
theorem z9C {h:Host}{m g a v:Int}(hs:SmH h):SmH (zpq h m g a v):=by
 unfold zpq;cases hf:zgI h m g a v
 .exact hs
 .have hl:zbM h m g (zX a) 2=true:=by
   unfold zgI at hf;cases h1:win a 0 15
   .rw [h1]at hf;cases hf
   .cases h2:win v 0 99
    .rw [h1,h2]at hf;cases hf
    .rw [h1,h2]at hf;exact hf
  have h1:=zVQ h.IoBuffer true hs hl;exact ⟨zzR h1.1,h1.2⟩
theorem z6m {h:Host}{m g a:Int}(hs:SmH h):SmH (zmZ h m g a):=by
 unfold zmZ;cases hf:zfO h m g a
 .exact hs
 .have hl:zbM h m g (zX a) 1=true:=by
   unfold zfO at hf;cases h1:win a 0 15
   .rw [h1]at hf;cases hf
   .rw [h1]at hf;exact hf
  exact zVQ h.IoBuffer true hs hl
theorem z9D {h:Host}{m p:Int}(hs:SmH h):SmH (zpy h m p):=by
 unfold zpy;cases h0:zcg h m p
 .exact hs
 .obtain ⟨hh,hm,hp⟩:=zjS.1 h0;cases zka h m p
  .exact (zMW (ze6 hs hh).1 hm).1
  .exact hs
theorem zbaz {h:Host}{m p:Int}(hs:SmH h):SmH (zt1 h m p):=by
 unfold zt1;cases h0:zcg h m p
 .exact hs
 .obtain ⟨hh,hm,hp⟩:=zjS.1 h0;cases zka h m p
  .exact hs
  .exact (zjF (ze6 hs hh) hm hp).1.1
theorem z4k {h:Host}{m t:Int}(hs:SmH h):SmH (zjk h m t):=by
 unfold zjk;cases zbX h
 .exact hs
 .cases hm:hasB m (ln h.Mons)
  .exact hs
  .cases win t 0 3
   .exact hs
   .have hx:zfw (ix h.Mons m mZ):=hs.2.1.2 _ (zbv hm mZ);exact ⟨hs.1,ziW hs.2.1 ⟨hx.1,hx.2.1,hx.2.2.1,hx.2.2.2.1,hx.2.2.2.2.1,hx.2.2.2.2.2⟩,hs.2.2⟩
def ztX (h:Host)(a:GAct):Host:=bif ieq a.Kind 1 then (zbh h a.M a.G).1 else (cond (ieq a.Kind 2) (zYc h a.M a.G a.X ⟨a.Y,a.Z⟩) (cond (ieq a.Kind 3) (zko h a.M a.G a.X) (cond (ieq a.Kind 4) (zPw h a.M a.G a.X) (cond (ieq a.Kind 5) (zPA h a.M a.G) (cond (ieq a.Kind 6) (zPy h a.M a.G a.X) (cond (ieq a.Kind 7) (zYa h a.M a.G ⟨a.X,a.Y,ieq a.Z 1⟩) (cond (ieq a.Kind 8) (zmY h a.M a.X a.Y a.Z) (cond (ieq a.Kind 9) (zVR h a.M a.X) (cond (ieq a.Kind 10) (zX7 h a.M) (cond (ieq a.Kind 11) (zpq h a.M a.G a.X a.Y) (zmZ h a.M a.G a.X)))))))))))
def zCQ (h:Host)(a:GAct):Told:=bif ieq a.Kind 1 then ⟨(zbh h a.M a.G).2,0⟩ else (cond (ieq a.Kind 2) ⟨zYd h a.M a.G a.X ⟨a.Y,a.Z⟩,0⟩ (cond (ieq a.Kind 3) ⟨zS1 h a.M a.G a.X,0⟩ (cond (ieq a.Kind 4) ⟨zPx h a.M a.G a.X,0⟩ (cond (ieq a.Kind 5) ⟨zPB h a.M a.G,0⟩ (cond (ieq a.Kind 6) ⟨zPz h a.M a.G a.X,0⟩ (cond (ieq a.Kind 7) ⟨zYb h a.M a.G ⟨a.X,a.Y,ieq a.Z 1⟩,0⟩ (cond (ieq a.Kind 8) ⟨ze7 h a.M a.X a.Y a.Z,0⟩ (cond (ieq a.Kind 9) ⟨zVS h a.M a.X,0⟩ (cond (ieq a.Kind 10) ⟨zX9 h a.M,zX8 h a.M⟩ (cond (ieq a.Kind 11) ⟨zgI h a.M a.G a.X a.Y,0⟩ (⟨zfO h a.M a.G a.X,zrf h a.M a.G a.X⟩)))))))))))
def zmp (h:Host)(a:GAct):Host:=bif ieq a.Kind 13 then zpy h a.M a.X else (cond (ieq a.Kind 14) (zt1 h a.M a.X) (cond (ieq a.Kind 15) (ztG h a.M a.X) (cond (ieq a.Kind 16) (zjk h a.M a.X) (cold h))))
def zMz (h:Host)(a:GAct):Told:=bif ieq a.Kind 13 then ⟨zC3 h a.M a.X,0⟩ else (cond (ieq a.Kind 14) ⟨zI8 h a.M a.X,0⟩ (cond (ieq a.Kind 15) ⟨zcg h a.M a.X,0⟩ (cond (ieq a.Kind 16) ⟨zzN h a.M a.X,0⟩ (⟨true,0⟩))))
def zeu (h:Host)(a:GAct):Host:=bif win a.Kind 1 17 then (cond (win a.Kind 13 17) (zmp h a) (ztX h a)) else h
def zi2 (h:Host)(a:GAct):Told:=bif win a.Kind 1 17 then (cond (win a.Kind 13 17) (zMz h a) (zCQ h a)) else ⟨false,0⟩
theorem z4j {h:Host}{a:GAct}(hs:SmH h):SmH (zmp h a):=by
 unfold zmp;cases ieq a.Kind 13
 .cases ieq a.Kind 14
  .cases ieq a.Kind 15
   .cases ieq a.Kind 16
    .exact z6k hs
    .exact z4k hs
   .exact z4h hs
  .exact zbaz hs
 .exact z9D hs
theorem z4i {h:Host}{a:GAct}(hs:SmH h):SmH (ztX h a):=by
 have hv:zcx h a.M=true->SmB (zy h a.M):=fun h0=>zJl hs (zcm.1 h0).2;unfold ztX;cases ieq a.Kind 1
 .cases ieq a.Kind 2
  .cases ieq a.Kind 3
   .cases ieq a.Kind 4
    .cases ieq a.Kind 5
     .cases ieq a.Kind 6
      .cases ieq a.Kind 7
       .cases ieq a.Kind 8
        .cases ieq a.Kind 9
         .cases ieq a.Kind 10
          .cases ieq a.Kind 11
           .exact z6m hs
           .exact z9C hs
          .exact zni hs (fun h0=>zZu (hv h0))
         .exact zni hs (fun h0=>zWB _ (hv h0))
        .exact z6l hs
       .exact zni hs (fun h0=>zZv _ _ (hv h0))
      .exact zni hs (fun h0=>zMY _ _ (hv h0))
     .exact zni hs (fun h0=>zMZ _ (hv h0))
    .exact zni hs (fun h0=>zMX _ _ (hv h0))
   .exact z4g hs
  .exact zni hs (fun h0=>zZw _ _ _ (hv h0))
 .exact (zRs a.M a.G hs).sm
theorem zZz {h:Host}{a:GAct}(hs:SmH h):SmH (zeu h a):=by
 unfold zeu;cases win a.Kind 1 17
 .exact hs
 .cases win a.Kind 13 17
  .exact z4i hs
  .exact z4j hs
@[simp] abbrev zuB (h:Host)(a:GAct):Bool:=pc (zcd h)
@[simp] abbrev zkV (h:Host)(a:GAct):Host:=zmp h a
@[simp] abbrev ziM (h:Host)(a:GAct):Told:=zMz h a
def zyk:Run:=rF2 dH (dT .act) fun b c=>(zuB b c,[aH (zkV b c),aT .told (ziM b c)])
def zB8 (N:Nat)(a0:Host)(a1:GAct):OA:=
 (cond (ieq a1.Kind 13) (oN (zwS a0 a1.M a1.X) (some [(aH (zqP a0 a1.M a1.X)),(.agg [(.b (zqQ a0 a1.M a1.X)),(.i .i64 0)])])) (cond (ieq a1.Kind 14) (oN (zzD a0 a1.M a1.X) (some [(aH (zsP a0 a1.M a1.X)),(.agg [(.b (zsQ a0 a1.M a1.X)),(.i .i64 0)])])) (cond (ieq a1.Kind 15) (oN (zD4 a0 a1.M a1.X) (some [(aH (zvK a0 a1.M a1.X)),(.agg [(.b (zvL a0 a1.M a1.X)),(.i .i64 0)])])) (cond (ieq a1.Kind 16) (oN (zux a0 a1.M a1.X) (some [(aH (zoZ a0 a1.M a1.X)),(.agg [(.b (zo0 a0 a1.M a1.X)),(.i .i64 0)])])) (oN (zJd a0) (some [(aH (zWq a0)),(.agg [(.b true),(.i .i64 0)])]))))))
theorem zPu (a0:Host)(a1:GAct)(hc:zuB a0 a1=true):∃N,zB8 N a0 a1=some [aH (zkV a0 a1),aT .told (ziM a0 a1)]:=by
 have hs:=zD.1 hc;refine ⟨0,?_⟩;unfold zB8 oN;refine br (fun _=>mu ?_) (fun _=>br (fun _=>mu ?_) (fun _=>br (fun _=>mu ?_) (fun _=>br (fun _=>mu ?_) (fun _=>mu ?_))))
 all_goals first|rfl|(simp only [*,zkV,ziM,zmp,zMz,cT,cF]<;>rfl)|simp_all[Ty.cells,zkV,ziM,zmp,zMz]
theorem zIG:u3 109 zyk:=kF2 zQN zk zbQ zc7 (zq []) zPu
def z2s:zQ:=[(109,zyk),(106,zG6),(108,zAO),(117,zG7)]++z2r
theorem zQO:zI z2s:=zh zIG (zh zRP (zh zLs (zh zRQ zQN)))
@[simp] abbrev zqH (h:Host)(a:GAct):Bool:=pc (zcd h)
@[simp] abbrev zmu (h:Host)(a:GAct):Host:=zeu h a
@[simp] abbrev zmv (h:Host)(a:GAct):Told:=zi2 h a
def zAJ:Run:=rF2 dH (dT .act) fun b c=>(zqH b c,[aH (zmu b c),aT .told (zmv b c)])
def zGg (N:Nat)(a0:Host)(a1:GAct):OA:=
 let y0:=(⟨a1.Y,a1.Z⟩:Slot); (oN (zD0 a1) (cond (nB (zyl a1)) (oN (zbI a0) (some [(aH (zu a0)),(.agg [(.b false),(.i .i64 0)])])) (oN (zwP a1.Kind) (cond (zrr a1.Kind) (oN (zuB a0 a1) (some [(aH (zkV a0 a1)),(.agg [(.b (ziM a0 a1).Ok),(.i .i64 (ziM a0 a1).N)])])) (cond (ieq a1.Kind 1) (oN (zez a0 a1.M a1.G) (some [(aH (zD6 a0 a1.M a1.G)),(.agg [(.b (zD7 a0 a1.M a1.G)),(.i .i64 0)])])) (cond (ieq a1.Kind 2) (oN (zwO a0 a1.M a1.G a1.X y0) (some [(aH (zqM a0 a1.M a1.G a1.X y0)),(.agg [(.b (zqN a0 a1.M a1.G a1.X y0)),(.i .i64 0)])])) (cond (ieq a1.Kind 3) (oN (zse a0 a1.M a1.G a1.X) (some [(aH (zmQ a0 a1.M a1.G a1.X)),(.agg [(.b (zmR a0 a1.M a1.G a1.X)),(.i .i64 0)])])) (cond (ieq a1.Kind 4) (oN (zpS a0 a1.M a1.G a1.X) (some [(aH (zlD a0 a1.M a1.G a1.X)),(.agg [(.b (zlE a0 a1.M a1.G a1.X)),(.i .i64 0)])])) (cond (ieq a1.Kind 5) (oN (zpU a0 a1.M a1.G) (some [(aH (zlH a0 a1.M a1.G)),(.agg [(.b (zlI a0 a1.M a1.G)),(.i .i64 0)])])) (cond (ieq a1.Kind 6) (oN (zpT a0 a1.M a1.G a1.X) (some [(aH (zlF a0 a1.M a1.G a1.X)),(.agg [(.b (zlG a0 a1.M a1.G a1.X)),(.i .i64 0)])])) (cond (ieq a1.Kind 7) (oN (zD1 a1) (oN (zwL a0 a1.M a1.G (zpQ a1)) (some [(aH (zqI a0 a1.M a1.G (zpQ a1))),(.agg [(.b (zqJ a0 a1.M a1.G (zpQ a1))),(.i .i64 0)])]))) (cond (ieq a1.Kind 8) (oN (zus a0 a1.M a1.X a1.Y a1.Z) (some [(aH (zoO a0 a1.M a1.X a1.Y a1.Z)),(.agg [(.b (zoP a0 a1.M a1.X a1.Y a1.Z)),(.i .i64 0)])])) (cond (ieq a1.Kind 9) (oN (zut a0 a1.M a1.X) (some [(aH (zoQ a0 a1.M a1.X)),(.agg [(.b (zoR a0 a1.M a1.X)),(.i .i64 0)])])) (cond (ieq a1.Kind 10) (oN (zwK a0 a1.M) (some [(aH (zqE a0 a1.M)),(.agg [(.b (zqG a0 a1.M)),(.i .i64 (zqF a0 a1.M))])])) (cond (ieq a1.Kind 11) (oN (zwM a0 a1.M a1.G a1.X a1.Y) (some [(aH (zqK a0 a1.M a1.G a1.X a1.Y)),(.agg [(.b (zqL a0 a1.M a1.G a1.X a1.Y)),(.i .i64 0)])])) (oN (zuu a0 a1.M a1.G a1.X) (some [(aH (zoS a0 a1.M a1.G a1.X)),(.agg [(.b (zoU a0 a1.M a1.G a1.X)),(.i .i64 (zoT a0 a1.M a1.G a1.X))])])))))))))))))))))
theorem zSw (a0:Host)(a1:GAct)(hc:zqH a0 a1=true):∃N,zGg N a0 a1=some [aH (zmu a0 a1),aT .told (zmv a0 a1)]:=by
 have hs:=zD.1 hc;refine ⟨0,?_⟩;unfold zGg oN nB
 conv=>zeta
 refine must rfl (brN (fun _=>mu ?_) (fun _=>must rfl (br (fun _=>mu ?_) (fun _=>br (fun _=>mu ?_) (fun _=>br (fun _=>mu ?_) (fun _=>br (fun _=>mu ?_) (fun _=>br (fun _=>mu ?_) (fun _=>br (fun _=>mu ?_) (fun _=>br (fun _=>mu ?_) (fun _=>br (fun _=>must rfl (mu ?_)) (fun _=>br (fun _=>mu ?_) (fun _=>br (fun _=>mu ?_) (fun _=>br (fun _=>mu ?_) (fun _=>br (fun _=>mu ?_) (fun _=>mu ?_)))))))))))))))
 all_goals first|rfl|(simp only [*,zmu,zmv,zeu,zi2,ztX,zCQ,cT,cF]<;>rfl)|simp_all[Ty.cells,zmu,zmv,zeu,zi2,ztX,zCQ]
theorem zLn:u3 40 zAJ:=kF2 zQO zk zbQ zc7 (zq []) zSw
def z2t:zQ:=[(40,zAJ)]++z2s
theorem zQP:zI z2t:=zh zLn zQO
def zC6:List GAct->Host×List Told->Host×List Told
 | [],u=>u
 | a :: l,u=>zC6 l (zeu u.1 a,ap u.2 [zi2 u.1 a])
def zy0 (ps:List (List (List Ins)))(l:List GAct):Host×List Told:=zC6 (l.take 80) (zfm ps,[])
abbrev HSt:Type:=(List Told)×(List (List Int))×(List Mon)×(List Entry)×(List Entry)
def hOf (t:HSt):Host:=⟨t.2.1,t.2.2.1,t.2.2.2.1,t.2.2.2.2⟩
def tOf (u:Host×List Told):HSt:=(u.2,u.1.Memory,u.1.Mons,u.1.Buffer,u.1.IoBuffer)
def zzp (t:HSt):OA:=some [AV.agg (zba (hOf t)),AV.one (.s .told t.1)]
theorem zZA {ps:List (List (List Ins))}(h:zKq ps):SmH (zfm ps):=by
 refine ⟨show SmM z0T from ⟨by decide,by decide⟩,⟨?_,?_⟩,by simp[zfm],by simp[zfm]⟩
 .simp only [zfm,uD,u2];omega
 .intro x hx;simp only[zfm,q0]at hx;obtain ⟨p,hp,rfl⟩:=hx;have hps:=h.2 p (jZ hp);refine ⟨show zuF.length<=1048576 by decide,show SmM zPD from ⟨by decide,by decide⟩,show (rp 8 false).length<=1048576 by decide,⟨?_,?_⟩,by simp[zgx],⟨?_,?_⟩⟩
  .simp only [zgx,uD,u2];omega
  .intro y hy;simp only[zgx,q0]at hy;obtain ⟨q,hq,rfl⟩:=hy;exact ⟨hps.2 q (jZ hq),show zkX.length<=1048576 by decide,show zkX.length<=1048576 by decide,by simp[zeK]⟩
  .simp only [zgx,uD,u2];omega
  .intro y hy;simp only[zgx,q0]at hy;obtain ⟨q,hq,rfl⟩:=hy;exact ⟨show (rp 4 false).length<=1048576 by decide,show zkX.length<=1048576 by decide⟩
theorem zGO {c:Host->GAct->Bool}(hc:∀h a,SmH h->c h a=true)(m:Nat):∀(l:List GAct) (i:Nat) (u:Host×List Told),SmH u.1->u.2.length+l.length<=2147483648 ->
 goL (fun (i:Nat) x (t:HSt) κ=>bif ilt (i:Int) (m:Int) then (cond (c (hOf t) x) (cond (few (ln (ap t.1 [zi2 (hOf t) x]))) (κ (ap t.1 [zi2 (hOf t) x],(zeu (hOf t) x).Memory,(zeu (hOf t) x).Mons,(zeu (hOf t) x).Buffer,(zeu (hOf t) x).IoBuffer)) none) none) else zzp t) zzp l i (tOf u)=zzp (tOf (zC6 (l.take (m-i)) u))
 | [],i,u,_,_=>by simp[goL,zC6]
 | a :: l,i,u,hs,hn=>by
  simp only[qV]at hn;have hf:few (ln (ap u.2 [zi2 u.1 a]))=true:=zgw (by simp[ap];omega)
  have hh:hOf (tOf u)=u.1:=rfl;have h2:(tOf u).1=u.2:=rfl
  by_cases h:i<m
  .have hi:ilt (i:Int) (m:Int)=true:=qJ (by omega)
   simp only[goL,hi,hh,h2,hf,hc _ _ hs,cT];refine (zGO hc m l (i+1) (zeu u.1 a,ap u.2 [zi2 u.1 a]) (zZz hs) (by simp[ap];omega)).trans ?_
   rw[show m-i=m-(i+1)+1 by omega]
   rfl
  .have hi:ilt (i:Int) (m:Int)=false:=qH (by omega)
   simp only[goL,hi,cF];rw[show m-i=0 by omega]
   rfl
@[simp] abbrev zur (ps:List (List (List Ins)))(l:List GAct):Bool:=pc (zKq ps/\l.length<=1048576)
@[simp] abbrev zuq (ps:List (List (List Ins)))(l:List GAct):Host:=(zy0 ps l).1
@[simp] abbrev zD5 (ps:List (List (List Ins)))(l:List GAct):List Told:=(zy0 ps l).2
def zx7:Run:=rF2 (dS (.sl (.sl .ins))) (dS .act) fun b c=>(zur b c,[aH (zuq b c),aS .told (zD5 b c)])
def zBV (N:Nat)(a0:lQ)(a1:lA):OA:=
 (oN (zwN a0) (iter (σ:=(Int×(lA×(lT×(lM×(lN×(lE×(lE×(lM×(lN×(lE×(lE×Unit)))))))))))) N (fun r3 s4=>let y1:=(ix s4.2.1 s4.1 zba9);let y0:=(⟨s4.2.2.2.2.2.2.2.1,s4.2.2.2.2.2.2.2.2.1,s4.2.2.2.2.2.2.2.2.2.1,s4.2.2.2.2.2.2.2.2.2.2.1⟩:Host);let y3:=(ap s4.2.2.1 [(zmv y0 y1)]);let y2:=(zmu y0 y1); (cond (ilt s4.1 (ln s4.2.1)) (cond (ilt s4.1 80) (oN (inb s4.1 (ln s4.2.1)) (oN (zqH y0 y1) (oN (few (ln y3)) (r3 ((zG .i64 s4.1 1),(s4.2.1,(y3,(s4.2.2.2.1,(s4.2.2.2.2.1,(s4.2.2.2.2.2.1,(s4.2.2.2.2.2.2.1,(y2.Memory,(y2.Mons,(y2.Buffer,(y2.IoBuffer,()))))))))))))))) (some [(aH y0),(aS .told s4.2.2.1)])) (some [(aH y0),(aS .told s4.2.2.1)]))) (0,(a1,([],([],([],([],([],((zgN a0).Memory,((zgN a0).Mons,((zgN a0).Buffer,((zgN a0).IoBuffer,())))))))))))))
def zPZ:FuncId->Nat->Option Tmpl:=zq [(10,0,{ n:=39,tm:=[(1,.sl 0 []),(4,.lp 0 0),(6,.lp 1 0),(7,.sl 1 []),(8,ti)],lo:=[(0,[.sl 2 [],.sl 3 [],.sl 4 [],.sl 5 []]),(1,[.sl 6 [],.sl 7 [],.sl 8 [],.sl 9 []])],ro:=[(0,.act,false),(1,.told,true),(2,(.sl .int),true),(3,.mon,true),(4,.entry,true),(5,.entry,true),(6,(.sl .int),true),(7,.mon,true),(8,.entry,true),(9,.entry,true)] })]
theorem zPe (a0:List lP)(a1:List GAct)(hc:zur a0 a1=true):∃N,zBV N a0 a1=some [aH (zuq a0 a1),aS .told (zD5 a0 a1)]:=by
 obtain ⟨hs,hl1⟩:=zD.1 hc;have hl:=zcK hl1;refine zb8 fun N hNN=>?_;unfold zBV oN
 conv=>zeta
 refine must (zbe hs) ?_;refine (zbc a1 (fun i (t:lT×lM×lN×lE×lE)=>((i:Int),a1,t.1,[],[],[],[],t.2.1,t.2.2.1,t.2.2.2.1,t.2.2.2.2,())) _ (fun i (x:GAct) (t:HSt) κ=>bif ilt (i:Int) ((80:Nat):Int) then (cond (zqH (hOf t) x) (cond (few (ln (ap t.1 [zi2 (hOf t) x]))) (κ (ap t.1 [zi2 (hOf t) x],(zeu (hOf t) x).Memory,(zeu (hOf t) x).Mons,(zeu (hOf t) x).Buffer,(zeu (hOf t) x).IoBuffer)) none) none) else zzp t) (fun (t:lT×lM×lN×lE×lE)=>(some [(.agg (zba (⟨t.2.1,t.2.2.1,t.2.2.2.1,t.2.2.2.2⟩:Host))),(.one (.s .told t.1))])) (fun i hi t rec=>?_) (fun t rec=>?_) _ ([],(zgN a0).Memory,(zgN a0).Mons,(zgN a0).Buffer,(zgN a0).IoBuffer) (hNN hl.1)).trans ?_
 .simp only [zbo hi,zY hi,zbd hi,zW hi hl.1,cT];rfl
 .simp only [zbf,cF]
 exact zGO (fun h a hh=>zbe ((zJ h).2 hh)) 80 a1 0 (zfm a0,[]) (zZA hs) (by simpa using hl.2)
theorem zIq:u3 10 zx7:=kF2 zQP zk zbQ zc7 zPZ zPe
def zHM:zQ:=[(10,zx7)]++z2t
theorem zwr:zI zHM:=zh zIq zQP
def zEq (h:Host):Prop:=∃ps l,zKq ps/\(1<=ps.length/\∀p∈ps,1<=p.length/\∀x∈p,zc4 x=true)/\h=(zy0 ps l).1
theorem z5U {p:List Ins}(h:zc4 p=true):p.length<=12:=by
 unfold zc4 at h;cases hc:p.all zdN with
 | false=>rw[hc]at h;cases h
 | true =>
  rw[hc,cT]at h;have h2:=(zfl.1 h).2;unfold ln at h2;omega
def zl2 (N:Nat)(c:Cur)  : OA :=
 let y0:=({ (zfZ c) with b:=c.b }:Cur); (oN (zhV c) (oN (zgT y0 20) (oN (zur (zpZ c) (znG y0 20)) (some [(.agg [(.s .u8 c.b),(.i .i64 (zf0 y0 20).i),(.i .i64 (zf0 y0 20).h)]),(aH (zuq (zpZ c) (znG y0 20)))]))))
theorem zV1 (N:Nat)(c:Cur)  : zfN (cQ zHM zkB z1e zjm) (zq []) N 12 44 [false,true,true] (zbx c) []=zl2 N c:=by kernel_rfl
def zkS (c:Cur)(s:Cur)(v0:Host):Prop:=(∃N,zl2 N c=some (AV.agg (zbx s) :: [aH v0]))/\(s.b=c.b/\0<=s.i)/\(zEq v0)
def zeC (c:Cur)  : Bool:=pc (∃s v0,zkS c s v0)
def zqV (c:Cur)  : Cur×Host:=Classical.epsilon fun r=>zkS c r.1 r.2
def zqW (c:Cur)  : Cur:=bif zeC c then (zqV c).1 else ⟨[],0,0⟩
def ziU (c:Cur)  : Host:=(zqV c).2
theorem zHm {c:Cur}(h:zeC c=true):zkS c (zqW c) (ziU c):=by
 obtain ⟨s,v0,h2⟩:=zD.1 h;have h3:zkS c (zqV c).1 (zqV c).2:=Classical.epsilon_spec (p:=fun r=>zkS c r.1 r.2) ⟨(s,v0),h2⟩;unfold zqW;rw[h,cT];exact h3
theorem zYt (c:Cur)(h:∃N,Ends (fun a=>∃s v0,a=(AV.agg (zbx s) :: [aH v0])/\(s.b=c.b/\0<=s.i)/\(zEq v0)) (zl2 N c)):zeC c=true:=by
 obtain ⟨N,a,e,s,v0,rfl,h⟩:=h;exact zbe ⟨s,v0,⟨N,e⟩,h⟩
def zpE:List CV->List AV->Option (Bool×List CV×List AV)
 | [.s .u8 b,.i .i64 c,.i .i64 d],[]=>some ((zeC (⟨b,c,d⟩:Cur)),zbx (zqW (⟨b,c,d⟩:Cur)),[aH (ziU (⟨b,c,d⟩:Cur))])
 | _,_=>none
theorem zSU (c:Cur)(hb:zbD big (.agg (zbx c) :: []))(hc:zeC c=true):∃N,zl2 N c=some (.agg (zbx (zqW c)) :: [aH (ziU c)]):=by
 exact (zHm hc).1
theorem zLL:zdx Tryz.prog 44 [false,true,true] zpE:=by
 refine zbT (zcT zwr zbg zWf zo) (zd2 (by kernel_rfl)) ?_
 intro cs avs cs' rs hl hr h;have hb:=zce hr;unfold zpE at h;split at h
 .obtain ⟨hc,rfl,rfl⟩:=zct h;obtain ⟨N,hN⟩:=zSU _ (by exact hb) hc
  exact ⟨rfl,_,N,12,(zV1 N _ ).trans hN⟩
 .cases h
theorem z2Y {c:Cur}(h:zdK c):zeC c=true:=by
 refine zYt c ⟨0,?_⟩;have h1:zdK { zfZ c with b:=c.b }:=zfy h (z1p _);have g1:=(zzJ (z6B h)).2.2;have g2:=(zwV (z1P h1 (m:=20) (by omega) (by omega))).2.2
 unfold zl2 oN
 conv=>zeta
 have g3:(znG { zfZ c with b:=c.b } 20).length<=65:=by
  unfold ln at g2;omega
 have S:zKq (zpZ c):=⟨by omega,fun p hp=>by
  have g:=g1.2.2 p hp;exact ⟨by omega,fun x hx=>by have:=z5U (g.2.2 x hx);omega⟩⟩
 exact zbK (z6B h) (zbK (z1P h1 (by omega) (by omega)) (zbK (zbe ⟨S,jB g3 (by decide)⟩) (zld aH (zYv _ _) ⟨_,_,S,⟨g1.1,fun p hp=>⟨(g1.2.2 p hp).1,(g1.2.2 p hp).2.2⟩⟩,rfl⟩)))
def zTs:zdy:=[(44,([false,true,true],zpE))]++z1e
theorem zt3:zcv zTs:=zdV zWf (by
 intro x hx;simp only[qI,qU,or_false]at hx;rcases hx with rfl
 .exact zLL)
theorem zUq {α τ ρ:Type}{G:ρ->Prop}{body:Nat->α->τ->(τ->Option ρ)->Option ρ}{K:τ->Option ρ}(hb:∀i x t κ,(∀t,Ends G (κ t))->Ends G (body i x t κ))(hK:∀t,Ends G (K t)):∀(l:List α) (i:Nat) (t:τ),Ends G (goL body K l i t)
 | [],i,t=>hK t
 | x :: l,i,t=>hb i x t _ (fun t=>zUq hb hK l (i+1) t)
def znO (N:Nat)(a0:List Int):OA:=
 (iter (σ:=(Int×(Int×((List Int)×(lM×(lN×(lE×(lE×Unit)))))))) N (fun r2 s3=>let y0:=(⟨s3.2.2.1,0,s3.1⟩:Cur); (cond (ilt s3.2.1 (ln s3.2.2.1)) (cond (ilt s3.2.1 4000) (oN (inb s3.2.1 (ln s3.2.2.1)) (r2 ((wand .i64 (zG .i64 (zG .i64 (zlX .i64 s3.1 131) (wcv .i64 (ix s3.2.2.1 s3.2.1 0))) 7) 1073741823),((zG .i64 s3.2.1 1),(s3.2.2.1,(s3.2.2.2.1,(s3.2.2.2.2.1,(s3.2.2.2.2.2.1,(s3.2.2.2.2.2.2.1,()))))))))) (oN (zeC y0) (some [(aH (ziU y0))]))) (oN (zeC y0) (some [(aH (ziU y0))])))) ((zG .i64 94701 (ln a0)),(0,(a0,([],([],([],([],()))))))))
def zPY:FuncId->Nat->Option Tmpl:=zq [(16,0,{ n:=32,tm:=[(0,.sl 0 []),(3,ti),(4,ti)],lo:=[(0,[.sl 1 [],.sl 2 [],.sl 3 [],.sl 4 []])],ro:=[(0,.u8,false),(1,(.sl .int),true),(2,.mon,true),(3,.entry,true),(4,.entry,true)],sk:=[(0,2,0,.lp 0 0)] })]
def zjx (a0:List Int)(v0:Host):Prop:=(∃N,znO N a0=some [aH v0])/\(zEq v0)
def ziG (a0:List Int):Bool:=pc (∃v0,zjx a0 v0)
def zD3 (a0:List Int):Host:=Classical.epsilon fun r=>zjx a0 r
def zoL (a0:List Int):Host:=(zD3 a0)
theorem zD2 {a0:List Int}(h:ziG a0=true):zjx a0 (zoL a0):=by
 obtain ⟨v0,h2⟩:=zD.1 h;have h3:zjx a0 (zD3 a0):=Classical.epsilon_spec (p:=fun r=>zjx a0 r) ⟨v0,h2⟩;exact h3
theorem zWr (a0:List Int)(h:∃N,Ends (fun a=>∃v0,a=[aH v0]/\(zEq v0)) (znO N a0)):ziG a0=true:=by
 obtain ⟨N,a,e,v0,rfl,h⟩:=h;exact zbe ⟨v0,⟨N,e⟩,h⟩
def zx6:Run:=rF1 (dS .u8) fun b=>(ziG b,[aH (zoL b)])
theorem zPc (a0:List Int)(hc:ziG a0=true):∃N,znO N a0=some [aH (zoL a0)]:=by
 exact (zD2 hc).1
theorem zIp:u3 13 zx6:=kF1 zwr zbg zt3 zo zPY zPc
theorem zKJ {a0:List Int}(h:a0.length<=big):ziG a0=true:=by
 refine zWr a0 (zb8 fun N hNN=>?_);unfold znO oN
 conv=>zeta
 have fin:∀t,Ends (fun a=>∃v0,a=[aH v0]/\zEq v0) (cond (zeC ⟨a0,0,t⟩) (some [aH (ziU ⟨a0,0,t⟩)]) none):=fun t =>
  have hc:zdK ⟨a0,0,t⟩:=⟨jX 0,h⟩
  zbK (z2Y hc) ⟨_,rfl,_,rfl,(zHm (z2Y hc)).2.2⟩
 refine (congrArg (Ends _) (zbc a0 (fun i (t:Int)=>(t,(i:Int),a0,[],[],[],[],())) _ (fun i x (t:Int) κ=>bif ilt (i:Int) 4000 then κ (wand .i64 (zG .i64 (zG .i64 (zlX .i64 t 131) (wcv .i64 x)) 7) 1073741823) else (cond (zeC ⟨a0,0,t⟩) (some [aH (ziU ⟨a0,0,t⟩)]) none)) (fun (t:Int)=>(cond (zeC ⟨a0,0,t⟩) (some [aH (ziU ⟨a0,0,t⟩)]) none)) (fun i hi t rec=>?_) (fun t rec=>?_) N (zG .i64 94701 (ln a0)) (hNN h))).mpr ?_
 .simp only [zbo hi,zY hi,zbd hi,zW hi h,cT]
 .simp only [zbf,cF]
 exact zUq (fun i x t κ hk=>zdo (fun _=>hk _) (fun _=>fin t)) fin _ _ _
def z16:zQ:=[(13,zx6)]++zHM
theorem z18:zI z16:=zh zIp zwr
def zKs (b:Bare)(a:GAct):Bare:=bif ieq a.Kind 1 then zeq b a.G else (cond (ieq a.Kind 2) (chg b a.G (zsh a.X ⟨a.Y,a.Z⟩) (zzO (gAt b a.G) a.X ⟨a.Y,a.Z⟩)) (cond (ieq a.Kind 3) (chg b a.G (hasB a.X 4) (zdL (gAt b a.G) a.X)) (cond (ieq a.Kind 4) (chg b a.G (zrL (gAt b a.G) a.X) (zwm (gAt b a.G) a.X)) (cond (ieq a.Kind 5) (chg b a.G (zwG (gAt b a.G)) (zwH (gAt b a.G))) (cond (ieq a.Kind 6) (chg b a.G (zgd (gAt b a.G).Pending a.X) (zm5 (gAt b a.G) a.X)) (cond (ieq a.Kind 7) (chg b a.G (zhn ⟨a.X,a.Y,ieq a.Z 1⟩) (zHI (gAt b a.G) ⟨a.X,a.Y,ieq a.Z 1⟩)) (cond (ieq a.Kind 8) (zTt b a.X a.Y a.Z) (cond (ieq a.Kind 9) (zje b a.X) (cond (ieq a.Kind 10) (zlS b) (cond (ieq a.Kind 11) (z0l b a.G a.X a.Y) (b)))))))))))
def zKt (b:Bare)(a:GAct):Told:=bif ieq a.Kind 1 then ⟨zgh b a.G,0⟩ else (cond (ieq a.Kind 2) ⟨zbR b a.G (zsh a.X ⟨a.Y,a.Z⟩),0⟩ (cond (ieq a.Kind 3) ⟨zbR b a.G (hasB a.X 4),0⟩ (cond (ieq a.Kind 4) ⟨zbR b a.G (zrL (gAt b a.G) a.X),0⟩ (cond (ieq a.Kind 5) ⟨zbR b a.G (zwG (gAt b a.G)),0⟩ (cond (ieq a.Kind 6) ⟨zbR b a.G (zgd (gAt b a.G).Pending a.X),0⟩ (cond (ieq a.Kind 7) ⟨zbR b a.G (zhn ⟨a.X,a.Y,ieq a.Z 1⟩),0⟩ (cond (ieq a.Kind 8) ⟨zxF b a.X a.Y a.Z,0⟩ (cond (ieq a.Kind 9) ⟨zeS b a.X,0⟩ (cond (ieq a.Kind 10) ⟨zk8 b,zrK b⟩ (cond (ieq a.Kind 11) ⟨zyN b a.G a.X a.Y,0⟩ (⟨zn0 b a.G a.X 1,zTx b a.G a.X⟩)))))))))))
def zKu (l:List Bare)(a:GAct):List Bare:=bif win a.Kind 1 17 then (cond (win a.Kind 13 17) l (cond (hasB a.M (ln l)) (up l a.M (zKs (ix l a.M zXi) a)) l)) else l
def zZW (l:List Bare)(a:GAct):Told:=bif win a.Kind 1 17 then (cond (win a.Kind 13 17) ⟨false,0⟩ (cond (hasB a.M (ln l)) (zKt (ix l a.M zXi) a) (cond (ieq a.Kind 10) ⟨false,-1⟩ ⟨false,0⟩))) else ⟨false,0⟩
theorem zB {i n:Int}:hasB i n=true↔0<=i/\i<n:=by unfold hasB;exact decide_eq_true_iff
theorem zcu {x a b:Int}:win x a b=true↔a<=x/\x<=b:=by simp[win,ige,ile]
theorem zbl {x y:Int}:ieq x y=true↔x=y:=by simp[ieq]
theorem zEH {x y:Int}:ine x y=true↔x≠y:=by simp[ine]
theorem zbN {x y:Int}:ieq x y=false↔x≠y:=by simp[ieq]
theorem zbZ {a b:Bool}:(cond a b false)=true↔a=true/\b=true:=by cases a<;>simp
theorem zbB {α:Type}(l:List α)(i:Int)(x:α):(up l i x).length=l.length:=by simp[up]
theorem zdH {α:Type}(l:List α)(i:Int)(x:α):ln (up l i x)=ln l:=by simp[up,ln]
theorem zzl {α:Type}{l:List α}{i:Int}(h:hasB i (ln l)=true)(d:α):∃k:Nat,∃hk:k<l.length,i=(k:Int)/\ix l i d=l[k]:=by
 rw[zB]at h;unfold ln at h;refine ⟨i.toNat,by omega,by omega,?_⟩
 simp[ix,List.getD,qB (show i.toNat<l.length by omega)]
theorem zmh {α:Type}{l:List α}{k:Nat}(h:k<l.length)(d:α):ix l (k:Int) d=l[k]:=by
 simp[ix,List.getD,qB h]
theorem zlo {α:Type}{l:List α}{i:Int}(h:hasB i (ln l)=true)(d:α):ix l i d∈l:=by
 obtain ⟨k,hk,_,e⟩:=zzl h d;rw[e];exact jF hk
theorem zVU {α:Type}{l:List α}{x:α}(h:x∈l)(d:α):∃i,hasB i (ln l)=true/\ix l i d=x:=by
 obtain ⟨k,hk,e⟩:=List.mem_iff_getElem.1 h;exact ⟨(k:Int),zB.2 (by unfold ln;omega),(zmh hk d).trans e⟩
theorem zZ {α:Type}{l:List α}{i:Int}(h:hasB i (ln l)=true)(x d:α):ix (up l i x) i d=x:=by
 rw[zB]at h;unfold ln at h;simp[ix,up,List.getD,show i.toNat<l.length by omega]
theorem zbm {α:Type}{l:List α}{i j:Int}(hi:0<=i)(hj:0<=j)(h:i≠j)(x d:α):ix (up l i x) j d=ix l j d:=by
 have:i.toNat≠j.toNat:=by omega
 simp[ix,up,List.getD,jC,this]
theorem z4r {α:Type}(l:List α)(i:Int)(x y:α):up (up l i x) i y=up l i y:=by simp[up]
theorem zPv {α:Type}{l m:List α}(d:α)(h:l.length=m.length)(e:∀i,hasB i (ln l)=true->ix l i d=ix m i d):l=m:=by
 refine List.ext_getElem h fun k h1 h2=>?_;have:=e (k:Int) (zB.2 (by unfold ln;omega))
 rwa [zmh h1,zmh h2] at this
theorem zJv {α:Type}{l:List α}{i:Int}(h:hasB i (ln l)=true)(d:α):up l i (ix l i d)=l:=by
 obtain ⟨k,hk,rfl,e⟩:=zzl h d;rw[e];simp[up]
def cPg (x:Mon)(q:Int):Nat:=x.Outer.countP fun s=>ieq s.Page q
def zeW (l:List Mon)(q:Int):Nat:=(l.map fun x=>cPg x q).sum
theorem zQE {α:Type}(P:α->Bool){l:List α}{i:Int}(h:hasB i (ln l)=true)(x d:α):(up l i x).countP P+(if P (ix l i d) then 1 else 0)=l.countP P+(if P x then 1 else 0):=by
 obtain ⟨k,hk,rfl,e⟩:=zzl h d;rw[e];simp only[up,kV,List.countP_set hk];have:(if P l[k]=true then 1 else 0)<=l.countP P:=by
  split
  .rename_i hp;exact List.countP_pos_iff.2 ⟨l[k],jF hk,hp⟩
  .omega
 omega
theorem zyv {l:List Mon}{m:Int}(h:hasB m (ln l)=true)(x:Mon)(q:Int):zeW (up l m x) q+cPg (ix l m mZ) q=zeW l q+cPg x q:=by
 obtain ⟨k,hk,rfl,e⟩:=zzl h mZ;rw[e]
 clear h e
 unfold up;simp only[kV]
 induction l generalizing k with
 | nil=>simp at hk
 | cons y l ih =>
  cases k with
  | zero=>simp[zeW];omega
  | succ k =>
   have:=ih k (by simpa using hk)
   simp[zeW] at this ⊢;omega
theorem zHE {l:List Mon}{m p:Int}(hm:hasB m (ln l)=true)(hp:hasB p (ln (ix l m mZ).Outer)=true):1<=zeW l (ix (ix l m mZ).Outer p sZ).Page:=by
 have h1:1<=cPg (ix l m mZ) (ix (ix l m mZ).Outer p sZ).Page:=List.countP_pos_iff.2 ⟨_,zlo hp sZ,by simp[ieq]⟩
 have:=zyv hm (⟨[],[],[],[],[],0,0,[],0⟩:Mon) (ix (ix l m mZ).Outer p sZ).Page;have e0:cPg (⟨[],[],[],[],[],0,0,[],0⟩:Mon) (ix (ix l m mZ).Outer p sZ).Page=0:=rfl;omega
theorem z4C {l:List Mon}{m p n k:Int}{q:Int}(hm:hasB m (ln l)=true)(hp:hasB p (ln (ix l m mZ).Outer)=true)(hn:hasB n (ln l)=true)(hk:hasB k (ln (ix l n mZ).Outer)=true)(e1:(ix (ix l m mZ).Outer p sZ).Page=q)(e2:(ix (ix l n mZ).Outer k sZ).Page=q)(h:zeW l q<=1):m=n/\p=k:=by
 have hm':=zB.1 hm;have hn':=zB.1 hn;have hp':=zB.1 hp;have hk':=zB.1 hk;have hne:¬ ieq q (q+1)=true:=by simp[ieq];omega
 obtain ⟨y,hy⟩:∃y:Mon,y.Outer=up (ix l m mZ).Outer p ⟨q+1,0⟩:=⟨{ ix l m mZ with Outer:=up (ix l m mZ).Outer p ⟨q+1,0⟩ },rfl⟩;have c1:=zQE (fun s=>ieq s.Page q) hp (⟨q+1,0⟩:Slot) sZ;simp only[e1,show ieq q q=true by simp[ieq],show ieq (q+1) q=false by simp[ieq];omega,if_true,j9,if_false] at c1
 have s1:=zyv hm y q;simp only[cPg,hy] at s1;have hz:zeW (up l m y) q=0:=by omega
 apply Classical.byContradiction;intro hc;have hpos:1<=zeW (up l m y) q:=by
  by_cases hmn:m=n
  .subst hmn;have hpk:p≠k:=fun e=>hc ⟨rfl,e⟩;have:=zHE (l:=up l m y) (m:=m) (p:=k) (by rw[zdH];exact hm) (by rw[zZ hm,hy,zdH];exact hk)
   rw[zZ hm,hy,zbm hp'.1 hk'.1 hpk,e2] at this;exact this
  .have:=zHE (l:=up l m y) (m:=n) (p:=k) (by rw[zdH];exact hn) (by rw[zbm hm'.1 hn'.1 hmn];exact hk)
   rw[zbm hm'.1 hn'.1 hmn,e2] at this;exact this
 omega
theorem ztt {a b c:Bool}:(cond a b c)=true↔(a=true/\b=true)\/(a=false/\c=true):=by cases a<;>simp
def SOk (s:Slot):Prop:=s=noSlot\/(0<=s.Page/\s.Page<=11/\1<=s.Rights/\s.Rights<=3)
theorem zWA {a b:Slot}(h1:a.Page=b.Page)(h2:a.Rights=b.Rights):a=b:=by
 cases a;cases b;simp_all
theorem zpa {a b:Slot}:zcJ a b=true↔a=b:=by
 simp only[zcJ,qE,zbl];exact ⟨fun h=>zWA h.1 h.2,fun h=>by rw[h];exact ⟨rfl,rfl⟩⟩
theorem zry {a b:Slot}:zcJ a b=false↔a≠b:=by
 rw[<- Bool.not_eq_true,zpa]
theorem zZs {s:Slot}:zdD s 12=true↔SOk s:=by
 unfold zdD SOk;rw[ztt,zpa,zry];have:wsub .i64 12 1=11:=by decide
 simp only[this,ztt,zcu];simp[igt];constructor
 .rintro (h|⟨h,⟨h1,h2⟩,h3⟩)
  .exact .inl h
  .exact .inr ⟨h1,h2,h3⟩
 .intro h
  by_cases hs:s=noSlot
  .exact .inl hs
  .rcases h with h|⟨h1,h2,h3⟩
   .exact .inl h
   .exact .inr ⟨hs,⟨h1,h2⟩,h3⟩
theorem SOk.none {s:Slot}(h:SOk s)(hp:s.Page = -1):s=noSlot:=by
 rcases h with h|h
 .exact h
 .omega
theorem SOk.pos {s:Slot}(h:SOk s)(hp:s.Page≠-1):0<=s.Page/\s.Page<=11/\1<=s.Rights/\s.Rights<=3:=by
 rcases h with h|h
 .rw [h]at hp;exact absurd rfl hp
 .exact h
structure MOk (x:Mon):Prop where
 g1:1<=x.Guests.length
 g2:x.Guests.length<=2
 gt:x.Tables.length=x.Guests.length
 o8:x.Outer.length=8
 sl:∀s∈x.Outer,SOk s
 u8:x.Out.length=8
 d8:x.Dirty.length=8
 outs:x.Outs.length<=40
 pend:zcQ x.Pending=true
 tr:win x.Traps 0 3=true
 own:win x.Own 0 1000000000=true
 gs:∀g∈x.Guests,zcU g=true
 fit:∀p,hasB p 8=true->zlt (ix x.Outer p sZ) (ix x.Out p [])=true
theorem zTQ {P:Nat->Bool}:∀{n i:Nat},znT P n i=true↔∀j,i<=j->j<i+n->P j=true
 | 0,i=>by simp[znT];intro j h1 h2;omega
 | n+1,i=>by
  rw[znT,qE,zTQ];constructor
  .rintro ⟨h1,h2⟩ j hj1 hj2
   by_cases e:j=i
   .rw [e];exact h1
   .exact h2 j (by omega) (by omega)
  .intro h;exact ⟨h i (by omega) (by omega),fun j h1 h2=>h j (by omega) (by omega)⟩
theorem zqZ {t:List Slot}{n p:Int}:zcF t n p=true↔(∀s∈t,zdD s p=true)/\ln t=n:=by
 unfold zcF;rw[zbZ,qO,zbl]
theorem z9a {x:Mon}:zd3 x=true↔MOk x:=by
 unfold zd3;simp only[zbZ,zcu,zbl,zqZ,zTQ,qO,ile,qX];constructor
 .rintro ⟨⟨h1,h2⟩,h3,⟨h4,h5⟩,h6,h7,h8,h9,h10,h11,h12,h13⟩
  unfold ln at *;refine ⟨by omega,by omega,by omega,by omega,fun s hs=>zZs.1 (h4 s hs),by omega,by omega,by omega,h9,zcu.2 h10,zcu.2 h11,h12,fun p hp=>?_⟩
  have hp':=zB.1 hp;have:=h13 p.toNat (by omega) (by omega)
  unfold fits at this
  rwa [show ((p.toNat:Nat):Int)=p by omega] at this
 .intro h;obtain ⟨h1,h2,h3,h4,h5,h6,h7,h8,h9,h10,h11,h12,h13⟩:=h;unfold ln;exact ⟨⟨by omega,by omega⟩,by omega,⟨fun s hs=>zZs.2 (h5 s hs),by omega⟩,by omega,by omega,by omega,h9,zcu.1 h10,zcu.1 h11,h12,fun j h1 h2=>h13 (j:Int) (zB.2 (by omega))⟩
theorem zyG (o:List Slot)(s:Slot)(q:Int):(s :: o).countP (fun s=>ieq s.Page q)=o.countP (fun s=>ieq s.Page q)+if s.Page=q then 1 else 0:=by
 rw[uY];simp[ieq]
theorem zzU:∀{o:List Slot} {u:List Bool},(∀s∈o,s.Page<u.length) ->
 (∀u',zgz o u=some u'↔(∀q,0<=q->o.countP (fun s=>ieq s.Page q)+(if ix u q false then 1 else 0)<=1) /\
  u'=(o.foldl (fun u s=>bif ilt s.Page 0 then u else up u s.Page true) u))
 | [],u,h,u'=>by
  simp[zgz];exact ⟨fun h=>⟨fun q _=>by split<;>omega,h.symm⟩,fun h=>h.2.symm⟩
 | s :: o,u,h,u'=>by
  unfold zgz
  by_cases hs:s.Page<0
  .have hl:ilt s.Page 0=true:=qJ hs;rw[hl,cond_true,zzU (fun y hy=>h y (jA _ hy))];simp only[uC,hl,cond_true];refine and_congr (forall_congr' fun q=>forall_congr' fun hq=>?_) Iff.rfl;have e:(if s.Page=q then 1 else 0)=0:=if_neg (by omega)
   rw[zyG,e,kE]
  .have hl:ilt s.Page 0=false:=qH hs;have hlt:=h s jS;have hb:hasB s.Page (ln u)=true:=zB.2 ⟨by omega,by unfold ln;omega⟩
   rw[hl,cond_false];cases hu:ix u s.Page false with
   | true =>
    rw[cond_true];constructor
    .intro h;cases h
    .rintro ⟨h,_⟩
     have:=h s.Page (by omega)
     rw[zyG,if_pos rfl,hu] at this;simp at this
   | false =>
    rw[cond_false,zzU (fun y hy=>by rw[zbB];exact h y (jA _ hy))]
    simp only[uC,hl,cond_false];refine and_congr (forall_congr' fun q=>forall_congr' fun hq=>?_) Iff.rfl;rw[zyG]
    by_cases hq2:s.Page=q
    .subst hq2;rw[zZ hb,hu];simp
    .rw [zbm (by omega) hq hq2,if_neg hq2,kE]
theorem zJw:∀(o:List Slot) (u:List Bool),(o.foldl (fun u s=>bif ilt s.Page 0 then u else up u s.Page true) u).length=u.length
 | [],u=>rfl
 | s :: o,u=>by
  rw[uC,zJw];cases ilt s.Page 0<;>simp [zbB]
theorem zP6:∀(o:List Slot) (u:List Bool) (q:Int),0<=q->(∀s∈o,s.Page<u.length)->(ix (o.foldl (fun u s=>bif ilt s.Page 0 then u else up u s.Page true) u) q false=true↔ix u q false=true\/1<=o.countP (fun s=>ieq s.Page q))
 | [],u,q,hq,h=>by simp
 | s :: o,u,q,hq,h=>by
  rw[uC,zP6 _ _ q hq (fun y hy=>by have:=h y (jA _ hy);cases ilt s.Page 0<;>simpa [zbB] using this),zyG]
  by_cases hs:s.Page<0
  .rw [show ilt s.Page 0=true from qJ hs,cond_true,if_neg (by omega),kE]
  .rw [show ilt s.Page 0=false from qH hs,cond_false]
   have hlt:=h s jS;have hb:hasB s.Page (ln u)=true:=zB.2 ⟨by omega,by unfold ln;omega⟩
   by_cases hq2:s.Page=q
   .subst hq2;rw[zZ hb];simp
   .rw [zbm (by omega) hq hq2,if_neg hq2,kE]
theorem zyZ:∀{l:List Mon} {u:List Bool},u.length=12->(zio l u=true↔(∀x∈l,MOk x)/\∀q,0<=q->zeW l q+(if l≠[]/\ix u q false then 1 else 0)<=1)
 | [],u,hu=>by simp[zio,zeW]
 | x :: l,u,hu=>by
  unfold zio;rw[zbZ,z9a];constructor
  .rintro ⟨h1,h2⟩
   have hp:∀s∈x.Outer,s.Page<u.length:=fun s hs=>by
    rcases h1.sl s hs with h|h
    .rw [h,hu];decide
    .rw [hu];omega
   split at h2
   .rename_i u' hu';obtain ⟨h3,rfl⟩:=(zzU hp u').1 hu';rw[zyZ (by rw[zJw,hu])]at h2
    obtain ⟨h4,h5⟩:=h2;refine ⟨by simpa using ⟨h1,h4⟩,fun q hq=>?_⟩
    have h6:=h3 q hq;have h7:=h5 q hq;have h8:=zP6 x.Outer u q hq hp;simp only[zeW,q9,uA]at h7 ⊢;unfold cPg at h7 ⊢;simp only[ne_eq,reduceCtorEq,not_false_eq_true,true_and]
    by_cases hl:l=[]
    .subst hl;simpa using h6
    .simp only [hl,ne_eq,not_false_eq_true,true_and]at h7
     by_cases hc:ix (x.Outer.foldl (fun u s=>bif ilt s.Page 0 then u else up u s.Page true) u) q false=true
     .rw [if_pos hc]at h7;omega
     .rw [if_neg hc]at h7;have h9:¬ (ix u q false=true\/1<=x.Outer.countP (fun s=>ieq s.Page q)):=fun e=>hc (h8.2 e);rw[not_or]at h9;rw[if_neg h9.1];omega
   .cases h2
  .rintro ⟨h1,h2⟩
   have hx:MOk x:=h1 x jS;refine ⟨hx,?_⟩;have hp:∀s∈x.Outer,s.Page<u.length:=fun s hs=>by
    rcases hx.sl s hs with h|h
    .rw [h,hu];decide
    .rw [hu];omega
   have hu':=(zzU hp _).2 ⟨fun q hq=>by
    have:=h2 q hq;simp only[zeW,q9,uA,ne_eq,reduceCtorEq,not_false_eq_true,true_and] at this;unfold cPg at this;omega,rfl⟩
   rw[hu'];simp only;rw[zyZ (by rw[zJw,hu])]
   refine ⟨fun y hy=>h1 y (jA _ hy),fun q hq=>?_⟩;have h3:=h2 q hq;have h8:=zP6 x.Outer u q hq hp;simp only[zeW,q9,uA,ne_eq,reduceCtorEq,not_false_eq_true,true_and]at h3 ⊢;unfold cPg at h3 ⊢;split
   .rename_i hc;rcases h8.1 hc.2 with h|h
    .rw [if_pos h]at h3;omega
    .omega
   .omega
structure HOk (h:Host):Prop where
 m12:h.Memory.length=12
 pgs:∀c∈h.Memory,zb6 c=true
 n1:1<=h.Mons.length
 n3:h.Mons.length<=3
 b1:zeU h.Buffer=true
 b2:zeU h.IoBuffer=true
 mons:∀x∈h.Mons,MOk x
 uq:∀q,0<=q->zeW h.Mons q<=1
theorem zjL {h:Host}:zbX h=true↔HOk h:=by
 unfold zbX zhp;simp only[zbZ,zcu,zbl,qO];rw[zyZ (by simp[rp])]
 have h0:∀q,ix (rp 12 false) q false=false:=fun q=>by
  unfold ix rp;rw[j7,kA];split<;>rfl
 simp only[h0,j9,and_false,if_false,kE];unfold ln;constructor
 .rintro ⟨⟨h1,h2⟩,⟨h3,h4⟩,h5,h6,h7,h8⟩
  exact ⟨by omega,h1,by omega,by omega,h5,h6,h7,h8⟩
 .rintro ⟨h1,h2,h3,h4,h5,h6,h7,h8⟩
  exact ⟨⟨h2,by omega⟩,⟨by omega,by omega⟩,h5,h6,h7,h8⟩
theorem HOk.mon {h:Host}(H:HOk h){m:Int}(hm:hasB m (ln h.Mons)=true):MOk (ix h.Mons m mZ):=H.mons _ (zlo hm _)
theorem MOk.hasO {x:Mon}(H:MOk x){p:Int}(hp:hasB p 8=true):hasB p (ln x.Outer)=true:=by rw[ln,H.o8];exact hp
theorem MOk.hasU {x:Mon}(H:MOk x){p:Int}(hp:hasB p 8=true):hasB p (ln x.Out)=true:=by rw[ln,H.u8];exact hp
theorem MOk.hasD {x:Mon}(H:MOk x){p:Int}(hp:hasB p 8=true):hasB p (ln x.Dirty)=true:=by rw[ln,H.d8];exact hp
theorem MOk.slot {x:Mon}(H:MOk x){p:Int}(hp:hasB p 8=true):SOk (ix x.Outer p sZ):=H.sl _ (zlo (H.hasO hp) _)
theorem HOk.uniq {h:Host}(H:HOk h){m p n k q:Int}(hm:hasB m (ln h.Mons)=true)(hp:hasB p 8=true)(hn:hasB n (ln h.Mons)=true)(hk:hasB k 8=true)(e1:(ix (ix h.Mons m mZ).Outer p sZ).Page=q)(e2:(ix (ix h.Mons n mZ).Outer k sZ).Page=q)(hq:0<=q):m=n/\p=k :=
 z4C hm ((H.mon hm).hasO hp) hn ((H.mon hn).hasO hk) e1 e2 (H.uq q hq)
theorem HOk.up {h:Host}(H:HOk h){m:Int}(hm:hasB m (ln h.Mons)=true){x:Mon}(hx:MOk x){h':Host}(e:h'.Mons=up h.Mons m x)(m12:h'.Memory.length=12)(pgs:∀c∈h'.Memory,zb6 c=true)(b1:zeU h'.Buffer=true)(b2:zeU h'.IoBuffer=true)(uq:∀q,0<=q->cPg x q<=cPg (ix h.Mons m mZ) q\/zeW h.Mons q=0/\cPg x q<=1):HOk h':=by
 refine ⟨m12,pgs,by rw[e,zbB];exact H.n1,by rw[e,zbB];exact H.n3,b1,b2,fun y hy=>?_,fun q hq=>?_⟩
 .rw [e]at hy;unfold E.up at hy;rcases qY hy with h|h
  .exact H.mons y h
  .rw [h];exact hx
 .rw [e];have h1:=zyv hm x q;have h2:=H.uq q hq;have h3:=uq q hq;omega
structure KOk (k:Kept) (inner outer:List Slot):Prop where
 l1:k.Known.length=inner.length
 l2:k.Slots.length=inner.length
 at':∀i,hasB i (ln inner)=true->ix k.Slots i sZ=bif ix k.Known i false then zbi (ix inner i sZ) outer else noSlot
def TOk (x:Mon):Prop:=∀g,hasB g (ln x.Guests)=true->KOk (ix x.Tables g kZ) (ix x.Guests g gZ).Live x.Outer
structure Rt (h:Host):Prop where
 t:∀m,hasB m (ln h.Mons)=true->TOk (ix h.Mons m mZ)
 e1:∀e∈h.Buffer,zcN h e=true
 e2:∀e∈h.IoBuffer,zcN h e=true
structure Safe (h:Host):Prop where
 ok:HOk h
 rt:Rt h
theorem zq3 {a b:Slot}:below' a b=true↔a=noSlot\/(a.Page=b.Page/\enough b.Rights a.Rights=true):=by
 unfold below';rw[ztt,zpa,zry,zbZ,zbl]
 by_cases h:a=noSlot<;>simp [h]
theorem z4s (x:Int):wand .i64 0 x=0:=by
 unfold wand;have:(BitVec.ofInt 64 0 &&& BitVec.ofInt 64 x)=0#64:=by
  rw[show BitVec.ofInt 64 0=0#64 from rfl,BitVec.zero_and]
 show IntKind.wrap .i64 ((BitVec.ofInt 64 0 &&& BitVec.ofInt 64 x).toNat:Int)=0
 rw[this];rfl
theorem z4B {a:Slot}(h:below' a noSlot=true):a=noSlot:=by
 rcases zq3.1 h with h|⟨h1,h2⟩
 .exact h
 .refine zWA h1 ?_;unfold enough at h2;rw[show noSlot.Rights=0 from rfl,z4s]at h2
  simp only[zbZ,zbl]at h2;exact h2.2.2.symm
theorem zfq {h:Host}{e:Entry}:zcN h e=true↔hasB (zdn e.Tag) (ln h.Mons)=true/\hasB (zec e.Tag) (ln (ix h.Mons (zdn e.Tag) mZ).Guests)=true /\
 below' ⟨e.Host,e.Rights⟩ (zbi (zbn (ix (ix h.Mons (zdn e.Tag) mZ).Guests (zec e.Tag) gZ).Live e.Page) (ix h.Mons (zdn e.Tag) mZ).Outer)=true:=by
 unfold zcN;rw[zbZ,zbZ]
theorem zRu {o:List Slot}{p q:Int}{s:Slot}(hp:0<=p)(h:q≠p):zbn (up o p s) q=zbn o q:=by
 unfold zbn;rw[zdH];cases hq:hasB q (ln o) with
 | false=>rfl
 | true=>rw[cond_true,cond_true,zbm hp (zB.1 hq).1 (Ne.symm h)]
theorem zKD {s:Slot}{o:List Slot}{p:Int}{t:Slot}(hp:0<=p)(h:s.Page≠p):zbi s (up o p t)=zbi s o:=by
 unfold zbi;rw[zRu hp h]
theorem zZ1 {s:Slot}{o:List Slot}:zbi s o=noSlot\/(zbi s o).Page=(zbn o s.Page).Page:=by
 unfold zbi;cases ieq s.Page (-1)<;>cases ieq (zbn o s.Page).Page (-1)<;>cases ieq (zdb s.Rights (zbn o s.Page).Rights) 0<;>simp
theorem zkm (k:Kept)(q:Int):(zbL k q).Known.length=k.Known.length/\(zbL k q).Slots.length=k.Slots.length:=by
 unfold zbL;cases zc9 k q<;>simp [zbB]
theorem zAo:∀(l:List Int) (k:Kept),(zet k l).Known.length=k.Known.length/\(zet k l).Slots.length=k.Slots.length
 | [],k=>⟨rfl,rfl⟩
 | q :: l,k=>by
  have h1:=zAo l (zbL k q);have h2:=zkm k q;exact ⟨h1.1.trans h2.1,h1.2.trans h2.2⟩
theorem zwt {k:Kept}{q i:Int}(hl:k.Known.length=k.Slots.length)(hi:hasB i (ln k.Known)=true) :
 ix (zbL k q).Known i false=(cond (ieq q i) false (ix k.Known i false))/\ix (zbL k q).Slots i sZ=(cond (ieq q i) noSlot (ix k.Slots i sZ)):=by
 have hi':hasB i (ln k.Slots)=true:=by unfold ln at hi ⊢;rwa [<- hl]
 unfold zbL zc9
 by_cases e:q=i
 .subst e;simp only[hi,hi',cond_true,ieq,beq_self_eq_true];exact ⟨zZ hi _ _,zZ hi' _ _⟩
 .rw [show ieq q i=false from zbN.2 e]
  by_cases hq:hasB q (ln k.Known)=true
  .have hq':hasB q (ln k.Slots)=true:=by unfold ln at hq ⊢;rwa [<- hl]
   simp only[hq,hq',cond_true,cond_false];exact ⟨zbm (zB.1 hq).1 (zB.1 hi).1 e _ _,zbm (zB.1 hq).1 (zB.1 hi).1 e _ _⟩
  .rw [Bool.not_eq_true]at hq;simp[hq]
theorem zCv:∀(l:List Int) {k:Kept} {i:Int},k.Known.length=k.Slots.length->hasB i (ln k.Known)=true ->
 (i∈l->ix (zet k l).Known i false=false/\ix (zet k l).Slots i sZ=noSlot) /\
 (i∉l->ix (zet k l).Known i false=ix k.Known i false/\ix (zet k l).Slots i sZ=ix k.Slots i sZ)
 | [],k,i,hl,hi=>⟨fun h=>by simp at h,fun _=>⟨rfl,rfl⟩⟩
 | q :: l,k,i,hl,hi=>by
  have h2:=zkm k q;have h3:=zwt (q:=q) hl hi;have ih:=zCv l (k:=zbL k q) (i:=i) (by rw[h2.1,h2.2,hl]) (by unfold ln at hi ⊢;rwa [h2.1])
  show (_->ix (zet (zbL k q) l).Known i false=_/\ix (zet (zbL k q) l).Slots i sZ=_)/\(_->ix (zet (zbL k q) l).Known i false=_/\ix (zet (zbL k q) l).Slots i sZ=_)
  by_cases hm:i∈l
  .refine ⟨fun _=>ih.1 hm,fun h=>absurd (jA _ hm) h⟩
  .rw [(ih.2 hm).1,(ih.2 hm).2,h3.1,h3.2]
   by_cases e:q=i
   .subst e;simp[ieq]
   .rw [zbN.2 e];simp[hm,Ne.symm e]
theorem zIM {α:Type}{P:α->Bool}{d:α}:∀{l:List α} {n:Nat} {i:Int},i∈idxs P l n↔∃k:Nat,∃h:k<l.length,i=((n+k:Nat):Int)/\P l[k]=true
 | [],n,i=>by simp[idxs]
 | x :: l,n,i=>by
  have ih:=@zIM α P d l (n+1) i;unfold idxs;constructor
  .intro h;cases hx:P x with
   | true =>
    rw[hx,cond_true,qI]at h;rcases h with h|h
    .exact ⟨0,by simp,by simpa using h,hx⟩
    .obtain ⟨k,h1,h2,h3⟩:=ih.1 h;exact ⟨k+1,by simpa using h1,by rw[h2];congr 1;omega,by simpa using h3⟩
   | false =>
    rw[hx,cond_false]at h;obtain ⟨k,h1,h2,h3⟩:=ih.1 h;exact ⟨k+1,by simpa using h1,by rw[h2];congr 1;omega,by simpa using h3⟩
  .rintro ⟨k,h1,h2,h3⟩
   cases k with
   | zero =>
    simp only[List.getElem_cons_zero]at h3;rw[h3,cond_true,h2];exact jS
   | succ k =>
    have:=ih.2 ⟨k,by simpa using h1,by rw[h2];congr 1;omega,by simpa using h3⟩
    cases P x
    .exact this
    .exact jA _ this
theorem zXg {l:List Slot}{p i:Int}:i∈zEo l p↔hasB i (ln l)=true/\(ix l i sZ).Page=p:=by
 unfold zEo;rw[zIM (d:=sZ)];constructor
 .rintro ⟨k,h1,rfl,h3⟩
  rw[jV,zmh h1];exact ⟨zB.2 (by unfold ln;omega),zbl.1 h3⟩
 .rintro ⟨h1,h2⟩
  obtain ⟨k,hk,rfl,e⟩:=zzl h1 sZ;exact ⟨k,hk,by simp,by rw[e]at h2;exact zbl.2 h2⟩
theorem z0H {k:Kept}{inner outer:List Slot}(h:KOk k inner outer){p:Int}(hp:0<=p)(s:Slot):KOk (zhI k inner p) inner (up outer p s):=by
 have hl:=zAo (zEo inner p) k;refine ⟨hl.1.trans h.l1,hl.2.trans h.l2,fun i hi=>?_⟩;have hi':hasB i (ln k.Known)=true:=by unfold ln at hi ⊢;rwa [h.l1]
 have ha:=zCv (zEo inner p) (by rw[h.l1,h.l2]) hi'
 unfold zhI
 by_cases hc:(ix inner i sZ).Page=p
 .have:=ha.1 (zXg.2 ⟨hi,hc⟩);rw[this.1,this.2];rfl
 .have:=ha.2 (fun h=>hc (zXg.1 h).2);rw[this.1,this.2,h.at' i hi,zKD hp hc]
theorem zEi (gs:List Guest)(p:Int):∀(n:Nat) (ts:List Kept),(zkZ gs p n ts).length=ts.length
 | 0,ts=>rfl
 | n+1,ts=>by rw[zkZ,zbB,zEi gs p n]
theorem zPP (gs:List Guest)(p:Int):∀(n:Nat) (ts:List Kept),n<=ts.length->∀i,0<=i->ix (zkZ gs p n ts) i kZ=if i<n then zhI (ix ts i kZ) (ix gs i gZ).Live p else ix ts i kZ
 | 0,ts,_,i,hi=>by rw[if_neg (by omega)];rfl
 | n+1,ts,hn,i,hi=>by
  rw[zkZ]
  by_cases e:i=n
  .subst e;rw[zZ (by rw[ln,zEi];exact zB.2 (by omega)),if_pos (by omega),zPP gs p n ts (by omega) _ hi,if_neg (by omega)]
  .rw [zbm (by omega) hi (Ne.symm e),zPP gs p n ts (by omega) i hi]
   by_cases h:i<n
   .rw [if_pos h,if_pos (by omega)]
   .rw [if_neg h,if_neg (by omega)]
def zjl (x:Mon)(p:Int)(s:Slot):Mon:={ zj6 x p x.Tables.length with Outer:=up x.Outer p s }
theorem z4e {x:Mon}(h:TOk x)(ht:x.Tables.length=x.Guests.length){p:Int}(hp:0<=p)(s:Slot):TOk (zjl x p s):=by
 intro g hg;have hg':hasB g (ln x.Guests)=true:=hg
 show KOk (ix (zkZ x.Guests p x.Tables.length x.Tables) g kZ) (ix x.Guests g gZ).Live (up x.Outer p s)
 rw[zPP _ _ _ _ (qW _) _ (zB.1 hg').1,if_pos (by have:=zB.1 hg';unfold ln at this;omega)]
 exact z0H (h g hg') hp s
theorem zsk (h:Host)(m p:Int)(s:Slot):(zb7 h m p s).Mons=up h.Mons m (zjl (ix h.Mons m mZ) p s):=by
 unfold zb7;cases ine (ix (ix h.Mons m zf).Outer p zN).Page (-1)<;>rfl
theorem zwX (h:Host)(m p:Int)(s:Slot):(zb7 h m p s).Memory=h.Memory:=by
 unfold zb7;cases ine (ix (ix h.Mons m zf).Outer p zN).Page (-1)<;>rfl
theorem zRw (h:Host)(m p:Int)(s:Slot):(zb7 h m p s).Buffer=(cond (ieq (ix (ix h.Mons m mZ).Outer p sZ).Page (-1)) h.Buffer (flushed h.Buffer (ix (ix h.Mons m mZ).Outer p sZ).Page)) /\
 (zb7 h m p s).IoBuffer=(cond (ieq (ix (ix h.Mons m mZ).Outer p sZ).Page (-1)) h.IoBuffer (flushed h.IoBuffer (ix (ix h.Mons m mZ).Outer p sZ).Page)):=by
 unfold zb7
 by_cases e:(ix (ix h.Mons m zf).Outer p zN).Page = -1
 .rw [show ine (ix (ix h.Mons m zf).Outer p zN).Page (-1)=false by simp[ine,e],show ieq (ix (ix h.Mons m mZ).Outer p sZ).Page (-1)=true from zbl.2 e]
  exact ⟨rfl,rfl⟩
 .rw [show ine (ix (ix h.Mons m zf).Outer p zN).Page (-1)=true from zEH.2 e,show ieq (ix (ix h.Mons m mZ).Outer p sZ).Page (-1)=false from zbN.2 e]
  exact ⟨rfl,rfl⟩
theorem zKM {h h':Host}{m p:Int}{s:Slot}(hm:hasB m (ln h.Mons)=true)(hp:hasB p (ln (ix h.Mons m mZ).Outer)=true){x:Mon}(hM:h'.Mons=up h.Mons m x)(hG:x.Guests=(ix h.Mons m mZ).Guests)(hO:x.Outer=up (ix h.Mons m mZ).Outer p s){e:Entry}(he:zcN h e=true)(hn:(ix (ix h.Mons m mZ).Outer p sZ).Page = -1\/e.Host≠(ix (ix h.Mons m mZ).Outer p sZ).Page):zcN h' e=true:=by
 obtain ⟨h1,h2,h3⟩:=zfq.1 he;rw[zfq,hM,zdH];refine ⟨h1,?_⟩
 by_cases hc:m=zdn e.Tag
 .rw [<- hc]at h1 h2 h3 ⊢;rw[zZ hm,hG,hO];refine ⟨h2,?_⟩
  by_cases hq:(zbn (ix (ix h.Mons m mZ).Guests (zec e.Tag) gZ).Live e.Page).Page=p
  .have key:zbi (zbn (ix (ix h.Mons m mZ).Guests (zec e.Tag) gZ).Live e.Page) (ix h.Mons m mZ).Outer=noSlot\/e.Host≠(zbi (zbn (ix (ix h.Mons m mZ).Guests (zec e.Tag) gZ).Live e.Page) (ix h.Mons m mZ).Outer).Page:=by
    rcases zZ1 (s:=zbn (ix (ix h.Mons m mZ).Guests (zec e.Tag) gZ).Live e.Page) (o:=(ix h.Mons m mZ).Outer) with hz|hz
    .exact .inl hz
    .rw [hq]at hz;have hs:zbn (ix h.Mons m mZ).Outer p=ix (ix h.Mons m mZ).Outer p sZ:=by unfold zbn;rw[hp];rfl
     rw[hs]at hz;rcases hn with hn|hn
     .left
      unfold zbi;rw[hq,hs,hn,show ieq (-1) (-1)=true from rfl]
      cases ieq p (-1)<;>rfl
     .exact .inr (by rw[hz];exact hn)
   have hno:(⟨e.Host,e.Rights⟩:Slot)=noSlot:=by
    rcases key with key|key
    .rw [key]at h3;exact z4B h3
    .rcases zq3.1 h3 with h|h
     .exact h
     .exact absurd h.1 key
   rw[hno];exact zq3.2 (.inl rfl)
  .rw [zKD (zB.1 hp).1 hq];exact h3
 .rw [zbm (zB.1 hm).1 (zB.1 h1).1 hc];exact ⟨h2,h3⟩
theorem zzw {h:Host}(H:Rt h){m p:Int}(hm:hasB m (ln h.Mons)=true)(hp:hasB p (ln (ix h.Mons m mZ).Outer)=true)(ht:(ix h.Mons m mZ).Tables.length=(ix h.Mons m mZ).Guests.length)(s:Slot):Rt (zb7 h m p s):=by
 have hb:=zRw h m p s;have hM:=zsk h m p s;have key:∀(b:List Entry),(∀e∈b,zcN h e=true)->∀e∈(cond (ieq (ix (ix h.Mons m mZ).Outer p sZ).Page (-1)) b (flushed b (ix (ix h.Mons m mZ).Outer p sZ).Page)),zcN (zb7 h m p s) e=true:=by
  intro b hb e he
  by_cases ho:(ix (ix h.Mons m mZ).Outer p sZ).Page = -1
  .rw [zbl.2 ho,cond_true]at he;exact zKM hm hp hM rfl rfl (hb e he) (.inl ho)
  .rw [zbN.2 ho,cond_false]at he;obtain ⟨he1,he2⟩:=List.mem_filter.1 he;exact zKM hm hp hM rfl rfl (hb e he1) (.inr (by simpa [ieq] using he2))
 refine ⟨fun k hk=>?_,fun e he=>key _ H.e1 e (by rwa [hb.1]at he),fun e he=>key _ H.e2 e (by rwa [hb.2]at he)⟩
 rw[hM]at hk ⊢;rw[zdH]at hk
 by_cases hc:m=k
 .subst hc;rw[zZ hm];exact z4e (H.t m hm) ht (zB.1 hp).1 s
 .rw [zbm (zB.1 hm).1 (zB.1 hk).1 hc];exact H.t k hk
theorem zQA:∀(l pre:List Entry),allI (alone (pre++l)) l pre.length=true↔(∀x∈l,∀y∈pre,sameKey x y=false)/\l.Pairwise (fun y x=>sameKey x y=false)
 | [],pre=>by simp[allI]
 | x :: l,pre=>by
  have ih:=zQA l (pre++[x]);rw[kB,List.singleton_append,kO,uR] at ih;rw[allI,qE,ih,List.pairwise_cons];have h1:alone (pre++x :: l) pre.length x=true↔∀y∈pre,sameKey x y=false:=by
   unfold alone;rw[kR rfl,qO];simp
  rw[h1];constructor
  .rintro ⟨h2,h3,h4⟩
   refine ⟨fun z hz y hy=>?_,fun z hz=>h3 z hz x (by simp),h4⟩
   rcases qI.1 hz with rfl|hz
   .exact h2 y hy
   .exact h3 z hz y (by simp[hy])
  .rintro ⟨h2,h3,h4⟩
   refine ⟨fun y hy=>h2 x (by simp) y hy,fun z hz y hy=>?_,h4⟩
   rcases jI.1 hy with hy|hy
   .exact h2 z (by simp[hz]) y hy
   .rw [qF.1 hy];exact h3 z hz
theorem zEs {l:List Entry}:zeU l=true↔l.Pairwise (fun y x=>sameKey x y=false)/\l.length<=6:=by
 unfold zeU;have:=zQA l [];simp only[jN,List.length_nil] at this;have h0:ile (ln l) 6=true↔l.length<=6:=by
  rw[ile,qX,ln];omega
 rw[zbZ,this,h0];simp
theorem zyF {l:List Entry}(h:zeU l=true)(P:Entry->Bool):zeU (l.filter P)=true:=by
 rw[zEs]at h ⊢;exact ⟨h.1.sublist List.filter_sublist,jB (kY _ _) h.2⟩
theorem zGC {l:List Entry}(h:zeU l=true)(p:Int):zeU (flushed l p)=true:=zyF h _
theorem zTW {x x':Mon}{p:Int}(hp:hasB p (ln x.Outer)=true){s:Slot}(h:x'.Outer=up x.Outer p s)(q:Int):cPg x' q+(if (ix x.Outer p sZ).Page=q then 1 else 0)=cPg x q+(if s.Page=q then 1 else 0):=by
 have:=zQE (fun s=>ieq s.Page q) hp s sZ;simp only[zbl] at this;unfold cPg;rw[h];exact this
theorem zpo {s:Slot}(hs:SOk s){c:List Int}:zlt s c=true↔(s.Page = -1->zb6 c=true)/\(s.Page≠-1->enough s.Rights 1=true/\c=[]):=by
 unfold zlt
 by_cases e:s=noSlot
 .rw [zpa.2 e,cond_true,e];simp[noSlot]
 .rw [zry.2 e,cond_false,zbZ];have:s.Page≠-1:=fun h=>e (hs.none h);have h0:ile (ln c) 0=true↔c=[]:=by
   rw[ile,qX,ln,<- List.length_eq_zero_iff];omega
  rw[h0];exact ⟨fun h=>⟨fun h'=>absurd h' this,fun _=>h⟩,fun h=>h.2 this⟩
structure Chg (x x':Mon) (p:Int) (s:Slot) (c:List Int):Prop where
 o:x'.Outer=up x.Outer p s
 u:x'.Out=up x.Out p c
 g:x'.Guests=x.Guests
 t:x'.Tables.length=x.Tables.length
 d:x'.Dirty.length=x.Dirty.length
 a1:x'.Outs=x.Outs
 a2:x'.Pending=x.Pending
 a3:x'.Traps=x.Traps
 a4:x'.Own=x.Own
theorem MOk.chg {x x':Mon}(H:MOk x){p:Int}(hp:hasB p 8=true){s:Slot}{c:List Int}(k:Chg x x' p s c)(hs:SOk s)(hf:zlt s c=true):MOk x':=by
 refine ⟨by rw[k.g];exact H.g1,by rw[k.g];exact H.g2,by rw[k.t,k.g];exact H.gt,by rw[k.o,zbB];exact H.o8,fun y hy=>?_,by rw[k.u,zbB];exact H.u8,by rw[k.d];exact H.d8,by rw[k.a1];exact H.outs,by rw[k.a2];exact H.pend,by rw[k.a3];exact H.tr,by rw[k.a4];exact H.own,by rw[k.g];exact H.gs,fun q hq=>?_⟩
 .rw [k.o]at hy;rcases qY hy with h|h
  .exact H.sl y h
  .rw [h];exact hs
 .rw [k.o,k.u]
  by_cases e:p=q
  .subst e;rw[zZ (H.hasO hp),zZ (H.hasU hp)];exact hf
  .rw [zbm (zB.1 hp).1 (zB.1 hq).1 e,zbm (zB.1 hp).1 (zB.1 hq).1 e];exact H.fit q hq
structure Like (h r:Host):Prop where
 len:r.Mons.length=h.Mons.length
 g:∀i,hasB i (ln h.Mons)=true->(ix r.Mons i mZ).Guests=(ix h.Mons i mZ).Guests
 o:∀i,hasB i (ln h.Mons)=true->(ix r.Mons i mZ).Outs=(ix h.Mons i mZ).Outs
 p:∀i,hasB i (ln h.Mons)=true->(ix r.Mons i mZ).Pending=(ix h.Mons i mZ).Pending
 tr:∀i,hasB i (ln h.Mons)=true->(ix r.Mons i mZ).Traps=(ix h.Mons i mZ).Traps
 ow:∀i,hasB i (ln h.Mons)=true->(ix r.Mons i mZ).Own=(ix h.Mons i mZ).Own
 pg:∀i k,hasB i (ln h.Mons)=true->hasB k 8=true->zcp r i k=zcp h i k
theorem Like.refl (h:Host):Like h h:=⟨rfl,fun _ _=>rfl,fun _ _=>rfl,fun _ _=>rfl,fun _ _=>rfl,fun _ _=>rfl,fun _ _ _ _=>rfl⟩
theorem Like.trans {a b c:Host}(x:Like a b)(y:Like b c):Like a c:=by
 have k:∀i,hasB i (ln a.Mons)=true->hasB i (ln b.Mons)=true:=fun i hi=>by unfold ln at hi ⊢;rwa [x.len]
 exact ⟨y.len.trans x.len,fun i h=>(y.g i (k i h)).trans (x.g i h),fun i h=>(y.o i (k i h)).trans (x.o i h),fun i h=>(y.p i (k i h)).trans (x.p i h),fun i h=>(y.tr i (k i h)).trans (x.tr i h),fun i h=>(y.ow i (k i h)).trans (x.ow i h),fun i q h hq=>(y.pg i q (k i h) hq).trans (x.pg i q h hq)⟩
theorem Like.has {h r:Host}(k:Like h r){i:Int}:hasB i (ln r.Mons)=hasB i (ln h.Mons):=by unfold ln;rw[k.len]
theorem zqw {h r:Host}{m:Int}:∀(n i:Nat),(∀k:Nat,i<=k->k<i+n->zcp r m (k:Int)=zcp h m (k:Int))->zcf r m n i=zcf h m n i
 | 0,i,_=>rfl
 | n+1,i,h=>by
  rw[zcf,zcf,h i (by omega) (by omega),zqw n (i+1) (fun k h1 h2=>h k (by omega) (by omega))]
theorem Like.seen {h r:Host}(k:Like h r)(m:Int):zy r m=zy h m:=by
 unfold zy;rw[k.has];cases hm:hasB m (ln h.Mons) with
 | false=>rfl
 | true =>
  simp only[cond_true];rw[k.g m hm,k.o m hm,k.p m hm,zqw 8 0 (fun j h1 h2=>k.pg m j hm (zB.2 (by omega)))]
theorem znz {h:Host}{m p:Int}(hm:hasB m (ln h.Mons)=true)(hp:hasB p 8=true)(ho:hasB p (ln (ix h.Mons m mZ).Outer)=true) :
 zcp h m p=bif ieq (ix (ix h.Mons m mZ).Outer p sZ).Page (-1) then zca (ix h.Mons m mZ).Out p else zca h.Memory (ix (ix h.Mons m mZ).Outer p sZ).Page:=by
 unfold zcp;have:zbn (ix h.Mons m mZ).Outer p=ix (ix h.Mons m mZ).Outer p sZ:=by unfold zbn;rw[ho];rfl
 rw[hm,hp,cond_true,cond_true,this]
 by_cases e:(ix (ix h.Mons m mZ).Outer p sZ).Page = -1
 .rw [zbl.2 e,show ine (ix (ix h.Mons m mZ).Outer p sZ).Page (-1)=false by simp[ine,e]];rfl
 .rw [zbN.2 e,show ine (ix (ix h.Mons m mZ).Outer p sZ).Page (-1)=true from zEH.2 e];rfl
theorem zkE {m:List (List Int)}{p:Int}(h:hasB p (ln m)=true):zca m p=ix m p []:=by unfold zca;rw[h];rfl
theorem zRe {m:List (List Int)}(h:∀c∈m,zb6 c=true)(p:Int):zb6 (zca m p)=true:=by
 unfold zca;cases hp:hasB p (ln m) with
 | false=>rfl
 | true=>exact h _ (zlo hp _)
theorem zwh {h r:Host}(H:HOk h){m p:Int}(hm:hasB m (ln h.Mons)=true)(hp:hasB p 8=true){x:Mon}{s:Slot}{c:List Int}(hM:r.Mons=up h.Mons m x)(k:Chg (ix h.Mons m mZ) x p s c)(hs:SOk s)(hf:zlt s c=true)(m12:r.Memory.length=12)(pgs:∀c∈r.Memory,zb6 c=true)(b1:zeU r.Buffer=true)(b2:zeU r.IoBuffer=true)(uq:0<=s.Page->s.Page=(ix (ix h.Mons m mZ).Outer p sZ).Page\/zeW h.Mons s.Page=0):HOk r:=by
 refine H.up hm ((H.mon hm).chg hp k hs hf) hM m12 pgs b1 b2 fun q hq=>?_;have h1:=zTW ((H.mon hm).hasO hp) k.o q
 by_cases e:s.Page=q
 .have e2:=uq (by omega)
  rw[if_pos e]at h1;rcases e2 with e2|e2
  .rw [if_pos (by omega)]at h1;left;omega
  .right
   rw[e] at e2;refine ⟨e2,?_⟩;have:=zyv hm x q;have h4:cPg (ix h.Mons m mZ) q<=zeW h.Mons q:=by
    have:=zyv hm (⟨[],[],[],[],[],0,0,[],0⟩:Mon) q;have e0:cPg (⟨[],[],[],[],[],0,0,[],0⟩:Mon) q=0:=rfl;omega
   omega
 .rw [if_neg e]at h1
  left
  split at h1<;>omega
theorem zvi {h r:Host}(H:HOk h){m p:Int}(hm:hasB m (ln h.Mons)=true)(hp:hasB p 8=true){x:Mon}{s:Slot}{c:List Int}(hM:r.Mons=up h.Mons m x)(k:Chg (ix h.Mons m mZ) x p s c)(hpg:(cond (ieq s.Page (-1)) c (zca r.Memory s.Page))=zcp h m p)(hmem:∀i q,hasB i (ln h.Mons)=true->hasB q 8=true->¬ (i=m/\q=p)->(ix (ix h.Mons i mZ).Outer q sZ).Page≠-1->zca r.Memory (ix (ix h.Mons i mZ).Outer q sZ).Page=zca h.Memory (ix (ix h.Mons i mZ).Outer q sZ).Page):Like h r:=by
 have hm0:=(zB.1 hm).1;have hp0:=(zB.1 hp).1;have e:∀{α:Type} (F:Mon->α),F x=F (ix h.Mons m mZ)->∀i,hasB i (ln h.Mons)=true->F (ix r.Mons i mZ)=F (ix h.Mons i mZ):=by
  intro α F hF i hi;rw[hM]
  by_cases e:m=i
  .subst e;rw[zZ hm];exact hF
  .rw [zbm hm0 (zB.1 hi).1 e]
 refine ⟨by rw[hM,zbB],e Mon.Guests k.g,e Mon.Outs k.a1,e Mon.Pending k.a2,e Mon.Traps k.a3,e Mon.Own k.a4,fun i q hi hq=>?_⟩
 have hi':hasB i (ln r.Mons)=true:=by rw[hM,zdH];exact hi
 have hO:=(H.mon hi).hasO hq;have hO':hasB q (ln (ix r.Mons i mZ).Outer)=true:=by
  rw[hM]
  by_cases e:m=i
  .subst e;rw[zZ hm,k.o,zdH];exact hO
  .rw [zbm hm0 (zB.1 hi).1 e];exact hO
 rw[znz hi' hq hO']
 by_cases e:m=i
 .subst e;rw[hM,zZ hm,k.o,k.u]
  by_cases e2:p=q
  .subst e2;rw[zZ ((H.mon hm).hasO hp),<- hpg];cases ieq s.Page (-1)
   .rfl
   .rw [cond_true,cond_true,zkE (by rw[zdH];exact (H.mon hm).hasU hp),zZ ((H.mon hm).hasU hp)]
  .rw [zbm hp0 (zB.1 hq).1 e2,znz hm hq hO]
   by_cases e3:(ix (ix h.Mons m mZ).Outer q sZ).Page = -1
   .rw [zbl.2 e3,cond_true,cond_true,zkE (by rw[zdH];exact (H.mon hm).hasU hq),zkE ((H.mon hm).hasU hq),zbm hp0 (zB.1 hq).1 e2]
   .rw [zbN.2 e3,cond_false,cond_false,hmem m q hm hq (fun h=>e2 h.2.symm) e3]
 .rw [hM,zbm hm0 (zB.1 hi).1 e,znz hi hq hO]
  by_cases e3:(ix (ix h.Mons i mZ).Outer q sZ).Page = -1
  .rw [zbl.2 e3,cond_true,cond_true]
  .rw [zbN.2 e3,cond_false,cond_false,hmem i q hi hq (fun h=>e h.1.symm) e3]
structure Op (h r:Host):Prop where
 ok:HOk r
 like:Like h r
 rt:Rt h->Rt r
theorem Op.refl {h:Host}(H:HOk h):Op h h:=⟨H,Like.refl h,id⟩
theorem Op.trans {a b c:Host}(x:Op a b)(y:Op b c):Op a c:=⟨y.ok,x.like.trans y.like,fun h=>y.rt (x.rt h)⟩
theorem Op.safe {h r:Host}(k:Op h r)(s:Safe h):Safe r:=⟨k.ok,k.rt s.rt⟩
theorem zMK {h r:Host}(H:Rt h){m:Int}(hm:hasB m (ln h.Mons)=true){x:Mon}(hM:r.Mons=up h.Mons m x)(hb1:r.Buffer=h.Buffer)(hb2:r.IoBuffer=h.IoBuffer)(hl:x.Guests.length=(ix h.Mons m mZ).Guests.length)(hv:∀g,hasB g (ln (ix h.Mons m mZ).Guests)=true->(ix x.Guests g gZ).Live=(ix (ix h.Mons m mZ).Guests g gZ).Live)(ht:x.Tables=(ix h.Mons m mZ).Tables)(ho:x.Outer=(ix h.Mons m mZ).Outer):Rt r:=by
 have hm0:=(zB.1 hm).1;have hg:∀g,hasB g (ln x.Guests)=hasB g (ln (ix h.Mons m mZ).Guests):=fun g=>by unfold ln;rw[hl]
 have key:∀e,zcN h e=true->zcN r e=true:=by
  intro e he;obtain ⟨h1,h2,h3⟩:=zfq.1 he;rw[zfq,hM,zdH];refine ⟨h1,?_⟩
  by_cases hc:m=zdn e.Tag
  .rw [<- hc]at h1 h2 h3 ⊢;rw[zZ hm,hg,hv _ h2,ho];exact ⟨h2,h3⟩
  .rw [zbm hm0 (zB.1 h1).1 hc];exact ⟨h2,h3⟩
 refine ⟨fun k hk=>?_,fun e he=>key e (H.e1 e (by rwa [hb1]at he)),fun e he=>key e (H.e2 e (by rwa [hb2]at he))⟩
 rw[hM]at hk ⊢;rw[zdH]at hk
 by_cases hc:m=k
 .subst hc;rw[zZ hm];intro g hgg;rw[hg]at hgg;rw[ht,hv g hgg,ho];exact H.t m hm g hgg
 .rw [zbm hm0 (zB.1 hk).1 hc];exact H.t k hk
theorem zpb {h h1:Host}{m p:Int}{s:Slot}{x:Mon}(hm:hasB m (ln h.Mons)=true)(e:h1.Mons=up h.Mons m x):(zb7 h1 m p s).Mons=up h.Mons m (zjl x p s):=by
 rw[zsk,e,zZ hm,z4r]
theorem zCg {x x1:Mon}{p:Int}{s:Slot}{c:List Int}(ho:x1.Outer=x.Outer)(hu:x1.Out=up x.Out p c)(hg:x1.Guests=x.Guests)(ht:x1.Tables=x.Tables)(hd:x1.Dirty.length=x.Dirty.length)(h1:x1.Outs=x.Outs)(h2:x1.Pending=x.Pending)(h3:x1.Traps=x.Traps)(h4:x1.Own=x.Own):Chg x (zjl x1 p s) p s c :=
 ⟨by show up x1.Outer p s=_;rw[ho],hu,hg,by show (zkZ x1.Guests p x1.Tables.length x1.Tables).length=_;rw[zEi,ht],hd,h1,h2,h3,h4⟩
theorem zuG {h:Host}{m p:Int}{s:Slot}(h1:zeU h.Buffer=true)(h2:zeU h.IoBuffer=true):zeU (zb7 h m p s).Buffer=true/\zeU (zb7 h m p s).IoBuffer=true:=by
 have:=zRw h m p s;rw[this.1,this.2];cases ieq (ix (ix h.Mons m mZ).Outer p sZ).Page (-1)
 .exact ⟨zGC h1 _,zGC h2 _⟩
 .exact ⟨h1,h2⟩
theorem hasM {h:Host}(H:HOk h){s:Slot}(hs:SOk s)(hp:s.Page≠-1):hasB s.Page (ln h.Memory)=true:=by
 have:=hs.pos hp;exact zB.2 ⟨this.1,by unfold ln;rw[H.m12];omega⟩
theorem zZj {h:Host}(H:HOk h){m p:Int}(hm:hasB m (ln h.Mons)=true)(hp:hasB p 8=true)(hn:(ix (ix h.Mons m mZ).Outer p sZ).Page≠-1):Op h (zdl h m p):=by
 have X:=H.mon hm;have hM:(zdl h m p).Mons=up h.Mons m (zjl { ix h.Mons m mZ with Out:=up (ix h.Mons m mZ).Out p (zca h.Memory (ix (ix h.Mons m mZ).Outer p sZ).Page) } p noSlot):=zpb hm rfl;have k:Chg (ix h.Mons m mZ) (zjl { ix h.Mons m mZ with Out:=up (ix h.Mons m mZ).Out p (zca h.Memory (ix (ix h.Mons m mZ).Outer p sZ).Page) } p noSlot) p noSlot (zca h.Memory (ix (ix h.Mons m mZ).Outer p sZ).Page):=zCg rfl rfl rfl rfl rfl rfl rfl rfl rfl;have hmem:(zdl h m p).Memory=h.Memory:=zwX _ _ _ _;have hb:=zuG (h:=zeG h m p) (m:=m) (p:=p) (s:=noSlot) H.b1 H.b2;refine ⟨zwh H hm hp hM k (.inl rfl) ((zpo (.inl rfl)).2 ⟨fun _=>zRe H.pgs _,fun h=>absurd rfl h⟩) (by rw[hmem];exact H.m12) (by rw[hmem];exact H.pgs) hb.1 hb.2 (fun h=>absurd h (by decide)),
  zvi H hm hp hM k ?_ (fun i q _ _ _ _=>by rw[hmem]),fun R=>?_⟩
 .rw [znz hm hp (X.hasO hp),zbN.2 hn];rfl
 .have R1:Rt (zeG h m p):=zMK (x:={ ix h.Mons m mZ with Out:=up (ix h.Mons m mZ).Out p (zca h.Memory (ix (ix h.Mons m mZ).Outer p sZ).Page) }) R hm rfl rfl rfl rfl (fun _ _=>rfl) rfl rfl;have hm1:hasB m (ln (zeG h m p).Mons)=true:=by show hasB m (ln (up h.Mons m _))=true;rw[zdH];exact hm
  have e1:ix (zeG h m p).Mons m mZ={ ix h.Mons m mZ with Out:=up (ix h.Mons m mZ).Out p (zca h.Memory (ix (ix h.Mons m mZ).Outer p sZ).Page) }:=zZ hm _ _;exact zzw R1 hm1 (by rw[e1];exact X.hasO hp) (by rw[e1];exact X.gt) noSlot
theorem zGI {o:List Slot}{q:Int}:zn2 o q=none↔o.countP (fun s=>ieq s.Page q)=0:=by
 unfold zn2;rw[List.findIdx?_eq_none_iff,uT];simp
theorem zXx {o:List Slot}{q:Int}{k:Nat}(h:zn2 o q=some k):∃hk:k<o.length,o[k].Page=q:=by
 unfold zn2 at h;rw[uN]at h;obtain ⟨hk,h1,_⟩:=h;exact ⟨hk,zbl.1 h1⟩
theorem zzr {q:Int}:∀(l:List Mon) (i:Nat),((zhN q l i).1<0↔zeW l q=0)/\(¬ (zhN q l i).1<0->∃a b:Nat,∃ha:a<l.length,∃hb:b<l[a].Outer.length,zhN q l i=(((i+a:Nat):Int),(b:Int))/\l[a].Outer[b].Page=q)
 | [],i=>⟨by simp[zhN,zeW],fun h=>absurd (show (-1:Int)<0 by decide) h⟩
 | x :: l,i=>by
  have ih:=zzr (q:=q) l (i+1);unfold zhN;split
  .rename_i k hk;obtain ⟨h1,h2⟩:=zXx hk;refine ⟨⟨fun h=>by simp at h;omega,fun h=>?_⟩,fun _=>⟨0,k,by simp,h1,by simp,h2⟩⟩
   exfalso;simp only[zeW,q9,uA]at h;have h3:x.Outer.countP (fun s=>ieq s.Page q)=0:=by unfold cPg at h;omega
   rw[zGI.2 h3]at hk;cases hk
  .rename_i hk;have h3:=zGI.1 hk;refine ⟨?_,fun h=>?_⟩
   .rw [ih.1];simp only[zeW,q9,uA];unfold cPg;omega
   .obtain ⟨a,b,ha,hb,e,hp⟩:=ih.2 h;exact ⟨a+1,b,by simpa using ha,by simpa using hb,by rw[e];simp;omega,by simpa using hp⟩
theorem zI7 {h:Host}{q:Int}(hq:0<=q):(zbw h q).1<0↔zeW h.Mons q=0:=by
 unfold zbw;rw[show ilt q 0=false from qH (by omega),cond_false]
 exact (zzr h.Mons 0).1
theorem z5O {h:Host}(H:HOk h){q:Int}(hq:0<=q)(hn:¬ (zbw h q).1<0):hasB (zbw h q).1 (ln h.Mons)=true/\hasB (zbw h q).2 8=true/\(ix (ix h.Mons (zbw h q).1 mZ).Outer (zbw h q).2 sZ).Page=q:=by
 unfold zbw at hn ⊢;rw[show ilt q 0=false from qH (by omega),cond_false]at hn ⊢
 obtain ⟨a,b,ha,hb,e,hp⟩:=(zzr h.Mons 0).2 hn;rw[e,jV];have h8:=(H.mons _ (jF ha)).o8;exact ⟨zB.2 (by unfold ln;simp;omega),zB.2 (by simp;omega),by rw[zmh ha,zmh hb];exact hp⟩
theorem zUF {P:Nat->Bool}:∀{n i:Nat} {q:Int},q∈zwB P n i↔∃k:Nat,q=(k:Int)/\i<=k/\k<i+n/\P k=true
 | 0,i,q=>by simp[zwB];intro k _ _ _;omega
 | n+1,i,q=>by
  have ih:=@zUF P n (i+1) q;unfold zwB;constructor
  .intro h;cases hx:P i with
   | true =>
    rw[hx,cond_true,qI]at h;rcases h with h|h
    .exact ⟨i,h,by omega,by omega,hx⟩
    .obtain ⟨k,h1,h2,h3,h4⟩:=ih.1 h;exact ⟨k,h1,by omega,by omega,h4⟩
   | false =>
    rw[hx,cond_false]at h;obtain ⟨k,h1,h2,h3,h4⟩:=ih.1 h;exact ⟨k,h1,by omega,by omega,h4⟩
  .rintro ⟨k,h1,h2,h3,h4⟩
   by_cases e:k=i
   .subst e;rw[h4,cond_true,h1];exact jS
   .have:=ih.2 ⟨k,h1,by omega,by omega,h4⟩
    cases P i
    .exact this
    .exact jA _ this
theorem zHX {h:Host}{q:Int}:q∈zb1 h↔hasB q (ln h.Memory)=true/\zeW h.Mons q=0:=by
 unfold zb1;rw[zUF];constructor
 .rintro ⟨k,rfl,h1,h2,h3⟩
  exact ⟨zB.2 (by unfold ln;omega),(zI7 (by omega)).1 (qD h3)⟩
 .rintro ⟨h1,h2⟩
  have h1':=zB.1 h1;unfold ln at h1';refine ⟨q.toNat,by omega,by omega,by omega,?_⟩
  rw[show ((q.toNat:Nat):Int)=q by omega]
  exact qJ ((zI7 h1'.1).2 h2)
theorem z0w {h:Host}(hn:zb1 h≠[]):hasB (ix (zb1 h) 0 0) (ln h.Memory)=true/\zeW h.Mons (ix (zb1 h) 0 0)=0:=by
 refine zHX.1 (zlo (zB.2 ⟨by omega,?_⟩) 0)
 unfold ln;have:=kK.2 hn;omega
structure But (h r:Host) (m p:Int):Prop where
 ne:∀i k,hasB i (ln h.Mons)=true->hasB k 8=true->¬ (i=m/\k=p)->ix (ix r.Mons i mZ).Outer k sZ=ix (ix h.Mons i mZ).Outer k sZ
theorem zHD {h r:Host}{m p:Int}(hm:hasB m (ln h.Mons)=true)(hp:hasB p 8=true){x:Mon}{s:Slot}(hM:r.Mons=up h.Mons m x)(ho:x.Outer=up (ix h.Mons m mZ).Outer p s):But h r m p:=by
 refine ⟨fun i k hi hk hc=>?_⟩;rw[hM]
 by_cases e:m=i
 .subst e;rw[zZ hm,ho,zbm (zB.1 hp).1 (zB.1 hk).1 (fun e=>hc ⟨rfl,e.symm⟩)]
 .rw [zbm (zB.1 hm).1 (zB.1 hi).1 e]
theorem z3Y {h:Host}(H:HOk h){m p:Int}(hm:hasB m (ln h.Mons)=true)(hp:hasB p 8=true):But h (zdl h m p) m p/\ix (ix (zdl h m p).Mons m mZ).Outer p sZ=noSlot:=by
 have hM:(zdl h m p).Mons=up h.Mons m (zjl { ix h.Mons m mZ with Out:=up (ix h.Mons m mZ).Out p (zca h.Memory (ix (ix h.Mons m mZ).Outer p sZ).Page) } p noSlot):=zpb hm rfl;refine ⟨zHD hm hp hM rfl,?_⟩;rw[hM,zZ hm];exact zZ ((H.mon hm).hasO hp) _ _
structure Roomy (h r:Host):Prop where
 op:Op h r
 free:zb1 r≠[]
 sl:∀i k,hasB i (ln h.Mons)=true->hasB k 8=true->ix (ix r.Mons i mZ).Outer k sZ=ix (ix h.Mons i mZ).Outer k sZ\/ix (ix r.Mons i mZ).Outer k sZ=noSlot
 dirt:∀i,(ix r.Mons i mZ).Dirty=(ix h.Mons i mZ).Dirty
theorem zNz {h r:Host}{m:Int}(hm:hasB m (ln h.Mons)=true){x:Mon}(hM:r.Mons=up h.Mons m x)(hd:x.Dirty=(ix h.Mons m mZ).Dirty)(i:Int):(ix r.Mons i mZ).Dirty=(ix h.Mons i mZ).Dirty:=by
 rw[hM]
 by_cases e:i.toNat=m.toNat
 .have:∀l:List Mon,ix l i mZ=ix l m mZ:=fun l=>by unfold ix;rw[e]
  rw[this,this,zZ hm,hd]
 .unfold ix up;simp[List.getD,jC,Ne.symm e]
theorem roomy {h:Host}(H:HOk h):Roomy h (zcV h):=by
 unfold zcV
 by_cases hf:zb1 h=[]
 .rw [show ieq (ln (zb1 h)) 0=true by rw[hf];rfl,cond_true]
  have hn:¬ (zbw h 0).1<0:=fun hc=>by
   have:(0:Int)∈zb1 h:=zHX.2 ⟨zB.2 (by unfold ln;rw[H.m12];omega),(zI7 (by omega)).1 hc⟩
   rw[hf] at this;cases this
  obtain ⟨h1,h2,h3⟩:=z5O H (by omega) hn
  have k:=zZj H h1 h2 (by rw[h3];decide)
  have hs:=z3Y H h1 h2;refine ⟨k,fun hc=>?_,fun i q hi hq=>?_,fun i=>zNz (x:=zjl { ix h.Mons (zbw h 0).1 mZ with Out:=up (ix h.Mons (zbw h 0).1 mZ).Out (zbw h 0).2 (zca h.Memory (ix (ix h.Mons (zbw h 0).1 mZ).Outer (zbw h 0).2 sZ).Page) } (zbw h 0).2 noSlot) h1 (zpb h1 rfl) rfl i⟩
  .have:(0:Int)∈zb1 (zdl h (zbw h 0).1 (zbw h 0).2):=by
    refine zHX.2 ⟨zB.2 (by unfold ln;rw[k.ok.m12];omega),?_⟩
    have hM:(zdl h (zbw h 0).1 (zbw h 0).2).Mons=up h.Mons (zbw h 0).1 (zjl { ix h.Mons (zbw h 0).1 mZ with Out:=up (ix h.Mons (zbw h 0).1 mZ).Out (zbw h 0).2 (zca h.Memory (ix (ix h.Mons (zbw h 0).1 mZ).Outer (zbw h 0).2 sZ).Page) } (zbw h 0).2 noSlot):=zpb h1 rfl;have c1:=zyv h1 (zjl { ix h.Mons (zbw h 0).1 mZ with Out:=up (ix h.Mons (zbw h 0).1 mZ).Out (zbw h 0).2 (zca h.Memory (ix (ix h.Mons (zbw h 0).1 mZ).Outer (zbw h 0).2 sZ).Page) } (zbw h 0).2 noSlot) 0;rw[<- hM] at c1;have c2:=zTW (x':=zjl { ix h.Mons (zbw h 0).1 mZ with Out:=up (ix h.Mons (zbw h 0).1 mZ).Out (zbw h 0).2 (zca h.Memory (ix (ix h.Mons (zbw h 0).1 mZ).Outer (zbw h 0).2 sZ).Page) } (zbw h 0).2 noSlot) ((H.mon h1).hasO h2) (s:=noSlot) rfl 0;rw[if_pos h3,if_neg (by decide)] at c2
    have c3:=H.uq 0 (by omega)
    omega
   rw[hc] at this;cases this
  .by_cases e:i=(zbw h 0).1/\q=(zbw h 0).2
   .rw [e.1,e.2];exact .inr hs.2
   .exact .inl (hs.1.ne i q hi hq e)
 .have:ieq (ln (zb1 h)) 0=false:=zbN.2 (by unfold ln;have:=kK.2 hf;omega)
  rw[this,cond_false];exact ⟨Op.refl H,hf,fun i k hi hk=>.inl rfl,fun _=>rfl⟩
theorem zYK {m:List (List Int)}{p:Int}{c:List Int}(hp:hasB p (ln m)=true)(hc:zb6 c=true):zhm m p c=up m p c:=by unfold zhm;rw[hp,hc];rfl
theorem zC2 {m:List (List Int)}{p q:Int}{c:List Int}(hp:0<=p)(h:q≠p):zca (up m p c) q=zca m q:=by
 unfold zca;rw[zdH];cases hq:hasB q (ln m) with
 | false=>rfl
 | true=>rw[cond_true,cond_true,zbm hp (zB.1 hq).1 (Ne.symm h)]
theorem zC1 {m:List (List Int)}{p:Int}{c:List Int}(hp:hasB p (ln m)=true):zca (up m p c) p=c:=by rw[zkE (by rw[zdH];exact hp),zZ hp]
theorem z00 {h:Host}(H:HOk h){m p to:Int}(hm:hasB m (ln h.Mons)=true)(hp:hasB p 8=true)(hn:(ix (ix h.Mons m mZ).Outer p sZ).Page = -1)(ht:hasB to (ln h.Memory)=true)(hf:zeW h.Mons to=0) :
 Op h (zeP h m p to)/\But h (zeP h m p to) m p/\ix (ix (zeP h m p to).Mons m mZ).Outer p sZ=⟨to,3⟩/\∀i,(ix (zeP h m p to).Mons i mZ).Dirty=(ix h.Mons i mZ).Dirty:=by
 have X:=H.mon hm;have ht':=zB.1 ht;unfold ln at ht';rw[H.m12]at ht';have hM:(zeP h m p to).Mons=up h.Mons m (zjl { ix h.Mons m mZ with Out:=up (ix h.Mons m mZ).Out p [] } p ⟨to,3⟩):=zpb hm rfl;have k:Chg (ix h.Mons m mZ) (zjl { ix h.Mons m mZ with Out:=up (ix h.Mons m mZ).Out p [] } p ⟨to,3⟩) p ⟨to,3⟩ []:=zCg rfl rfl rfl rfl rfl rfl rfl rfl rfl;have hfit:=((zpo (X.slot hp)).1 (X.fit p hp)).1 hn;have hmem:(zeP h m p to).Memory=up h.Memory to (ix (ix h.Mons m mZ).Out p []):=by
  show (zb7 (landing h m p to) m p ⟨to,3⟩).Memory=_
  rw[zwX];exact zYK ht hfit
 have hs:SOk ⟨to,3⟩:=.inr ⟨ht'.1,by show to<=11;omega,by show (1:Int)<=3;omega,by show (3:Int)<=3;omega⟩
 have hb:=zuG (h:=landing h m p to) (m:=m) (p:=p) (s:=⟨to,3⟩) H.b1 H.b2;refine ⟨⟨zwh H hm hp hM k hs ((zpo hs).2 ⟨fun h=>absurd h (by show to≠-1;omega),fun _=>⟨show enough 3 1=true by decide,rfl⟩⟩) (by rw[hmem,zbB];exact H.m12) (fun c hc=>?_) hb.1 hb.2 (fun _=>.inr hf),
  zvi H hm hp hM k ?_ (fun i q hi hq hc hne=>?_),fun R=>?_⟩,zHD hm hp hM rfl,?_,fun i=>zNz (x:=zjl { ix h.Mons m mZ with Out:=up (ix h.Mons m mZ).Out p [] } p ⟨to,3⟩) hm hM rfl i⟩
 .rw [hmem]at hc;rcases qY hc with h1|h1
  .exact H.pgs c h1
  .rw [h1];exact hfit
 .rw [znz hm hp (X.hasO hp),zbl.2 hn,cond_true,zkE (X.hasU hp)];rw[show ieq (⟨to,3⟩:Slot).Page (-1)=false from zbN.2 (by show to≠-1;omega),cond_false,hmem]
  exact zC1 ht
 .rw [hmem];refine zC2 ht'.1 (fun e=>?_);have:=zHE hi ((H.mon hi).hasO hq);rw[e] at this;omega
 .have R1:Rt (landing h m p to):=zMK (x:={ ix h.Mons m mZ with Out:=up (ix h.Mons m mZ).Out p [] }) R hm rfl rfl rfl rfl (fun _ _=>rfl) rfl rfl;have hm1:hasB m (ln (landing h m p to).Mons)=true:=by show hasB m (ln (up h.Mons m _))=true;rw[zdH];exact hm
  have e1:ix (landing h m p to).Mons m mZ={ ix h.Mons m mZ with Out:=up (ix h.Mons m mZ).Out p [] }:=zZ hm _ _;exact zzw R1 hm1 (by rw[e1];exact X.hasO hp) (by rw[e1];exact X.gt) _
 .rw [hM,zZ hm];exact zZ (X.hasO hp) _ _
theorem zMy {h:Host}(H:HOk h){m p:Int}(hm:hasB m (ln h.Mons)=true)(hp:hasB p 8=true)(hn:(ix (ix h.Mons m mZ).Outer p sZ).Page = -1) :
 Op h (fetched h m p)/\(∃to,0<=to/\to<=11/\ix (ix (fetched h m p).Mons m mZ).Outer p sZ=⟨to,3⟩)/\∀i,(ix (fetched h m p).Mons i mZ).Dirty=(ix h.Mons i mZ).Dirty:=by
 have R:=roomy H;have hm1:hasB m (ln (zcV h).Mons)=true:=by rw[R.op.like.has];exact hm
 have hn1:(ix (ix (zcV h).Mons m mZ).Outer p sZ).Page = -1:=by
  rcases R.sl m p hm hp with h1|h1<;>rw [h1]
  .exact hn
  .rfl
 obtain ⟨h1,h2⟩:=z0w R.free;obtain ⟨k1,k2,k3,k4⟩:=z00 R.op.ok hm1 hp hn1 h1 h2;have h1':=zB.1 h1;unfold ln at h1';rw[R.op.ok.m12]at h1';exact ⟨R.op.trans k1,⟨_,h1'.1,by omega,k3⟩,fun i=>(k4 i).trans (R.dirt i)⟩
theorem znH {o:List Slot}{p:Int}(h:hasB p (ln o)=true):zbn o p=ix o p sZ:=by unfold zbn;rw[h];rfl
theorem zkF {h:Host}(H:HOk h){m p:Int}(hm:hasB m (ln h.Mons)=true)(hp:hasB p 8=true) :
 (cond (ieq (ix (ix h.Mons m mZ).Outer p sZ).Page (-1)) (ix (ix h.Mons m mZ).Out p []) (zca h.Memory (ix (ix h.Mons m mZ).Outer p sZ).Page))=zcp h m p:=by
 rw[znz hm hp ((H.mon hm).hasO hp),zkE ((H.mon hm).hasU hp)]
structure Mark (x y:Mon):Prop where
 o:y.Outer=x.Outer
 u:y.Out=x.Out
 g:y.Guests=x.Guests
 t:y.Tables=x.Tables
 d:y.Dirty.length=x.Dirty.length
 a1:y.Outs=x.Outs
 a2:y.Pending=x.Pending
 a3:y.Traps=x.Traps
 a4:y.Own=x.Own
theorem zZi {h:Host}(H:HOk h){m:Int}(hm:hasB m (ln h.Mons)=true){y:Mon}(k:Mark (ix h.Mons m mZ) y):Op h { h with Mons:=up h.Mons m y }/\∀i q,ix (ix (up h.Mons m y) i mZ).Outer q sZ=ix (ix h.Mons i mZ).Outer q sZ:=by
 have X:=H.mon hm;have h0:hasB 0 8=true:=by decide
 have c:Chg (ix h.Mons m mZ) y 0 (ix (ix h.Mons m mZ).Outer 0 sZ) (ix (ix h.Mons m mZ).Out 0 []):=⟨by rw[zJv (X.hasO h0),k.o],by rw[zJv (X.hasU h0),k.u],k.g,by rw[k.t],k.d,k.a1,k.a2,k.a3,k.a4⟩
 refine ⟨⟨zwh H hm h0 rfl c (X.slot h0) (X.fit 0 h0) H.m12 H.pgs H.b1 H.b2 (fun _=>.inl rfl),zvi H hm h0 rfl c (zkF H hm h0) (fun _ _ _ _ _ _=>rfl),
  fun R=>zMK R hm rfl rfl rfl (by rw[k.g]) (fun g _=>by rw[k.g]) k.t k.o⟩,fun i q=>?_⟩
 by_cases e:i.toNat=m.toNat
 .have:∀l:List Mon,ix l i mZ=ix l m mZ:=fun l=>by unfold ix;rw[e]
  rw[this,this,zZ hm,k.o]
 .have:ix (up h.Mons m y) i mZ=ix h.Mons i mZ:=by
   unfold ix up;simp[List.getD,jC,Ne.symm e]
  rw[this]
theorem zMx {h:Host}(H:HOk h){m:Int}(hm:hasB m (ln h.Mons)=true)(p:Int):Op h (zbt h m p)/\∀i q,ix (ix (zbt h m p).Mons i mZ).Outer q sZ=ix (ix h.Mons i mZ).Outer q sZ :=
 zZi H hm ⟨rfl,rfl,rfl,rfl,zbB _ _ _,rfl,rfl,rfl,rfl⟩
theorem z3D {h:Host}(H:HOk h){m:Int}(hm:hasB m (ln h.Mons)=true)(p:Int):Op h (zp7 h m p)/\∀i q,ix (ix (zp7 h m p).Mons i mZ).Outer q sZ=ix (ix h.Mons i mZ).Outer q sZ :=
 zZi H hm ⟨rfl,rfl,rfl,rfl,zbB _ _ _,rfl,rfl,rfl,rfl⟩
theorem rights {r:Int}(h0:1<=r)(h3:r<=3):r=1\/r=2\/r=3:=by omega
theorem MOk.enough1 {x:Mon}(X:MOk x){p:Int}(hp:hasB p 8=true)(hn:(ix x.Outer p sZ).Page≠-1):(ix x.Outer p sZ).Rights=1\/(ix x.Outer p sZ).Rights=3:=by
 have h1:=(((zpo (X.slot hp)).1 (X.fit p hp)).2 hn).1;have h2:=(X.slot hp).pos hn;rcases rights h2.2.2.1 h2.2.2.2 with e|e|e
 .exact .inl e
 .rw [e]at h1;exact absurd h1 (by decide)
 .exact .inr e
theorem zRb {h:Host}(H:HOk h){m p:Int}(hm:hasB m (ln h.Mons)=true)(hp:hasB p 8=true)(hn:(ix (ix h.Mons m mZ).Outer p sZ).Page≠-1){r:Int}(hr:r=1\/r=3) :
 Op h (zb7 h m p ⟨(ix (ix h.Mons m mZ).Outer p sZ).Page,r⟩)/\But h (zb7 h m p ⟨(ix (ix h.Mons m mZ).Outer p sZ).Page,r⟩) m p /\
  ix (ix (zb7 h m p ⟨(ix (ix h.Mons m mZ).Outer p sZ).Page,r⟩).Mons m mZ).Outer p sZ=⟨(ix (ix h.Mons m mZ).Outer p sZ).Page,r⟩/\∀i,(ix (zb7 h m p ⟨(ix (ix h.Mons m mZ).Outer p sZ).Page,r⟩).Mons i mZ).Dirty=(ix h.Mons i mZ).Dirty:=by
 have X:=H.mon hm;have hpos:=(X.slot hp).pos hn;have hM:=zsk h m p ⟨(ix (ix h.Mons m mZ).Outer p sZ).Page,r⟩;have k:Chg (ix h.Mons m mZ) (zjl (ix h.Mons m mZ) p ⟨(ix (ix h.Mons m mZ).Outer p sZ).Page,r⟩) p ⟨(ix (ix h.Mons m mZ).Outer p sZ).Page,r⟩ (ix (ix h.Mons m mZ).Out p []) :=
  zCg rfl (zJv (X.hasU hp) _).symm rfl rfl rfl rfl rfl rfl rfl
 have hs:SOk ⟨(ix (ix h.Mons m mZ).Outer p sZ).Page,r⟩:=.inr ⟨hpos.1,hpos.2.1,by show 1<=r;omega,by show r<=3;omega⟩
 have hfit:=((zpo (X.slot hp)).1 (X.fit p hp)).2 hn;have hb:=zuG (h:=h) (m:=m) (p:=p) (s:=⟨(ix (ix h.Mons m mZ).Outer p sZ).Page,r⟩) H.b1 H.b2;have hmem:=zwX h m p ⟨(ix (ix h.Mons m mZ).Outer p sZ).Page,r⟩;refine ⟨⟨zwh H hm hp hM k hs ((zpo hs).2 ⟨fun h=>absurd h hn,fun _=>⟨?_,hfit.2⟩⟩) (by rw[hmem];exact H.m12) (by rw[hmem];exact H.pgs) hb.1 hb.2 (fun _=>.inl rfl),
  zvi H hm hp hM k (by rw[hmem];exact zkF H hm hp) (fun i q _ _ _ _=>by rw[hmem]),fun R=>zzw R hm (X.hasO hp) X.gt _⟩,zHD hm hp hM rfl,?_,fun i=>zNz hm hM rfl i⟩
 .show enough r 1=true
  rcases hr with rfl|rfl<;>decide
 .rw [hM,zZ hm];exact zZ (X.hasO hp) _ _
structure Mended (h r:Host) (m p n:Int):Prop where
 op:Op h r
 inn:(ix (ix r.Mons m mZ).Outer p sZ).Page≠-1
 ri:ieq (wand .i64 n 2) 0=false->(ix (ix r.Mons m mZ).Outer p sZ).Rights=3
 dt:ieq (wand .i64 n 2) 0=false->ix (ix r.Mons m mZ).Dirty p false=true
 d0:ieq (wand .i64 n 2) 0=true->(ix r.Mons m mZ).Dirty=(ix h.Mons m mZ).Dirty
 dk:∀k,hasB k 8=true->k≠p->ix (ix r.Mons m mZ).Dirty k false=ix (ix h.Mons m mZ).Dirty k false
 dm:∀i,hasB i (ln h.Mons)=true->i≠m->(ix r.Mons i mZ).Dirty=(ix h.Mons i mZ).Dirty
theorem zV7 {h:Host}(H:HOk h){m p:Int}(n:Int)(hm:hasB m (ln h.Mons)=true)(hp:hasB p 8=true)(hn:(ix (ix h.Mons m mZ).Outer p sZ).Page≠-1):Mended h (zjb h m p n) m p n:=by
 unfold zjb;cases hw:ieq (wand .i64 n 2) 0 with
 | true=>exact ⟨Op.refl H,hn,fun e=>(Bool.noConfusion (hw.symm.trans e)),fun e=>(Bool.noConfusion (hw.symm.trans e)),fun _=>rfl,fun _ _ _=>rfl,fun _ _ _=>rfl⟩
 | false =>
  rw[cond_false];obtain ⟨k1,k2⟩:=zMx H hm p;have hm1:hasB m (ln (zbt h m p).Mons)=true:=by rw[k1.like.has];exact hm
  have hn1:(ix (ix (zbt h m p).Mons m mZ).Outer p sZ).Page≠-1:=by rw[k2];exact hn
  have hd:(ix (zbt h m p).Mons m mZ).Dirty=up (ix h.Mons m mZ).Dirty p true:=by
   show (ix (up h.Mons m _) m mZ).Dirty=_
   rw[zZ hm]
  have hd2:∀i,hasB i (ln h.Mons)=true->i≠m->(ix (zbt h m p).Mons i mZ).Dirty=(ix h.Mons i mZ).Dirty:=fun i hi hc=>by
   show (ix (up h.Mons m _) i mZ).Dirty=_
   rw[zbm (zB.1 hm).1 (zB.1 hi).1 (Ne.symm hc)]
  have he:=(k1.ok.mon hm1).enough1 hp hn1;have hD:∀r:Host,(∀i,(ix r.Mons i mZ).Dirty=(ix (zbt h m p).Mons i mZ).Dirty)->Op (zbt h m p) r->(ix (ix r.Mons m mZ).Outer p sZ).Page≠-1->(ix (ix r.Mons m mZ).Outer p sZ).Rights=3->Mended h r m p n:=by
   intro r h1 h2 h3 h4;refine ⟨k1.trans h2,h3,fun _=>h4,fun _=>?_,fun e=>(Bool.noConfusion (hw.symm.trans e)),fun k hk hc=>?_,fun i hi hc=>by rw[h1,hd2 i hi hc]⟩
   .rw [h1,hd,zZ ((H.mon hm).hasD hp)]
   .rw [h1,hd,zbm (zB.1 hp).1 (zB.1 hk).1 (Ne.symm hc)]
  unfold opened;rcases he with e|e
  .rw [e,show ieq (wand .i64 1 2) 0=true by decide,cond_true]
   obtain ⟨o1,o2,o3,o4⟩:=zRb k1.ok hm1 hp hn1 (r:=3) (.inr rfl);exact hD _ o4 o1 (by rw[o3];exact hn1) (by rw[o3])
  .rw [e,show ieq (wand .i64 3 2) 0=false by decide,cond_false]
   exact hD _ (fun _=>rfl) (Op.refl k1.ok) hn1 e
theorem zRa {h:Host}(H:HOk h){m p:Int}(n:Int)(hm:hasB m (ln h.Mons)=true)(hp:hasB p 8=true):Mended h (mended h m p n) m p n:=by
 unfold mended
 by_cases e:(ix (ix h.Mons m mZ).Outer p sZ).Page = -1
 .rw [zbl.2 e,cond_true];obtain ⟨k1,⟨to,t1,t2,t3⟩,k3⟩:=zMy H hm hp e;have K:=zV7 k1.ok n (by rw[k1.like.has];exact hm) hp (by rw[t3];show to≠-1;omega)
  exact ⟨k1.trans K.op,K.inn,K.ri,K.dt,fun e=>by rw[K.d0 e,k3],fun k hk hc=>by rw[K.dk k hk hc,k3],fun i hi hc=>by rw[K.dm i (by rw[k1.like.has];exact hi) hc,k3]⟩
 .rw [zbN.2 e,cond_false];exact zV7 H n hm hp e
theorem zot {h:Host}{m p:Int}:zcg h m p=true↔HOk h/\hasB m (ln h.Mons)=true/\hasB p 8=true:=by
 unfold zcg;rw[zbZ,zbZ,zjL]
theorem z01 {h:Host}(H:HOk h)(m p:Int):Op h (zpy h m p):=by
 unfold zpy;cases hh:zcg h m p with
 | false=>exact Op.refl H
 | true =>
  obtain ⟨_,hm,hp⟩:=zot.1 hh;rw[cond_true];unfold zka
  by_cases e:(ix (ix h.Mons m mZ).Outer p sZ).Page = -1
  .rw [zbl.2 e];exact Op.refl H
  .rw [zbN.2 e];exact zZj H hm hp e
theorem z3C {h:Host}(H:HOk h)(m p:Int):Op h (zt1 h m p):=by
 unfold zt1;cases hh:zcg h m p with
 | false=>exact Op.refl H
 | true =>
  obtain ⟨_,hm,hp⟩:=zot.1 hh;rw[cond_true];unfold zka
  by_cases e:(ix (ix h.Mons m mZ).Outer p sZ).Page = -1
  .rw [zbl.2 e];exact (zMy H hm hp e).1
  .rw [zbN.2 e];exact Op.refl H
theorem z3B {h:Host}(H:HOk h)(m p:Int):Op h (ztG h m p):=by
 unfold ztG;cases hh:zcg h m p with
 | false=>exact Op.refl H
 | true =>
  obtain ⟨_,hm,hp⟩:=zot.1 hh;rw[cond_true];obtain ⟨k1,k2⟩:=z3D H hm p;cases e:zcJ (ix (ix h.Mons m zf).Outer p zN) noSlot with
  | true=>exact k1
  | false =>
   rw[cond_false];have hn:(ix (ix h.Mons m mZ).Outer p sZ).Page≠-1:=fun h1=>zry.1 e (((H.mon hm).slot hp).none h1);have:=zRb k1.ok (m:=m) (p:=p) (by rw[k1.like.has];exact hm) hp (by rw[k2];exact hn) (r:=1) (.inl rfl)
   rw[k2 m p] at this;exact k1.trans this.1
structure KeepP (x y:Mon):Prop where
 o:y.Outer=x.Outer
 u:y.Out=x.Out
theorem zMD {h r:Host}{m:Int}(hm:hasB m (ln h.Mons)=true){y:Mon}(hM:r.Mons=up h.Mons m y)(hmem:r.Memory=h.Memory)(k:KeepP (ix h.Mons m mZ) y)(i q:Int):zcp r i q=zcp h i q:=by
 unfold zcp;rw[hM,zdH,hmem];cases hi:hasB i (ln h.Mons) with
 | false=>rfl
 | true =>
  by_cases e:m=i
  .subst e;rw[zZ hm,k.o,k.u]
  .rw [zbm (zB.1 hm).1 (zB.1 hi).1 e]
theorem zuC {h r:Host}{m:Int}(hm:hasB m (ln h.Mons)=true){y:Mon}(hM:r.Mons=up h.Mons m y)(hmem:r.Memory=h.Memory)(k:KeepP (ix h.Mons m mZ) y)(i:Int) :
 zy r i=bif ieq i m then ⟨(zy h i).Memory,y.Guests,y.Outs,y.Pending⟩ else zy h i:=by
 have hp:zcf r i 8 0=zcf h i 8 0:=zqw 8 0 (fun j _ _=>zMD hm hM hmem k i j);unfold zy;rw[hp,hM,zdH]
 by_cases e:i=m
 .subst e;rw[hm,zbl.2 rfl,zZ hm];rfl
 .rw [zbN.2 e,cond_false];cases hi:hasB i (ln h.Mons) with
  | false=>rfl
  | true=>rw[zbm (zB.1 hm).1 (zB.1 hi).1 (Ne.symm e)]
theorem zkz {x y:Mon}(X:MOk x)(k:KeepP x y)(g:y.Guests.length=x.Guests.length)(t:y.Tables.length=x.Tables.length)(d:y.Dirty.length=x.Dirty.length)(o:y.Outs.length<=40)(p:zcQ y.Pending=true)(tr:win y.Traps 0 3=true)(ow:win y.Own 0 1000000000=true)(gs:∀g∈y.Guests,zcU g=true):MOk y :=
 ⟨by rw[g];exact X.g1,by rw[g];exact X.g2,by rw[t,g];exact X.gt,by rw[k.o];exact X.o8,by rw[k.o];exact X.sl,by rw[k.u];exact X.u8,by rw[d];exact X.d8,o,p,tr,ow,gs,by rw[k.o,k.u];exact X.fit⟩
theorem zUv {h:Host}(H:HOk h){m:Int}(hm:hasB m (ln h.Mons)=true){y:Mon}(k:KeepP (ix h.Mons m mZ) y)(hy:MOk y):HOk { h with Mons:=up h.Mons m y } :=
 H.up hm hy rfl H.m12 H.pgs H.b1 H.b2 fun q _=>.inl (by unfold cPg;rw[k.o];exact qW _)
theorem zwd {h:Host}(S:Safe h){m:Int}(hm:hasB m (ln h.Mons)=true){y:Mon}(k:KeepP (ix h.Mons m mZ) y)(hy:MOk y)(hg:y.Guests.length=(ix h.Mons m mZ).Guests.length)(hv:∀g,hasB g (ln (ix h.Mons m mZ).Guests)=true->(ix y.Guests g gZ).Live=(ix (ix h.Mons m mZ).Guests g gZ).Live)(ht:y.Tables=(ix h.Mons m mZ).Tables):Safe { h with Mons:=up h.Mons m y } :=
 ⟨zUv S.ok hm k hy,zMK S.rt hm rfl rfl rfl hg hv ht k.o⟩
theorem zS5 {h:Host}(S:Safe h)(m t:Int):Safe (zjk h m t)/\∀i,zy (zjk h m t) i=zy h i:=by
 unfold zjk;rw[zjL.2 S.ok,cond_true];cases hm:hasB m (ln h.Mons) with
 | false=>exact ⟨S,fun _=>rfl⟩
 | true =>
  cases ht:win t 0 3 with
  | false=>exact ⟨S,fun _=>rfl⟩
  | true =>
   have X:=S.ok.mon hm;have k:KeepP (ix h.Mons m mZ) { ix h.Mons m mZ with Traps:=t }:=⟨rfl,rfl⟩;refine ⟨zwd S hm k (zkz X k rfl rfl rfl X.outs X.pend ht X.own X.gs) rfl (fun _ _=>rfl) rfl,fun i=>?_⟩;rw[cond_true,cond_true];refine (zuC (h:=h) (r:={ h with Mons:=up h.Mons m { ix h.Mons m mZ with Traps:=t } }) hm rfl rfl k i).trans ?_
   by_cases e:i=m
   .subst e;rw[zbl.2 rfl,cond_true];unfold zy;rw[hm];rfl
   .rw [zbN.2 e];rfl
theorem zGL:∀(n i:Nat) (k:Kept),(zin n i k).Known.length=k.Known.length/\(zin n i k).Slots.length=k.Slots.length
 | 0,i,k=>⟨rfl,rfl⟩
 | n+1,i,k=>by
  have h1:=zGL n (i+1) (zbL k (i:Int));have h2:=zkm k (i:Int);exact ⟨h1.1.trans h2.1,h1.2.trans h2.2⟩
theorem zKT:∀(n i:Nat) (k:Kept),k.Known.length=k.Slots.length->∀j,hasB j (ln k.Known)=true ->
 ((i:Int)<=j/\j<((i+n:Nat):Int)->ix (zin n i k).Known j false=false/\ix (zin n i k).Slots j sZ=noSlot) /\
 (¬ ((i:Int)<=j/\j<((i+n:Nat):Int))->ix (zin n i k).Known j false=ix k.Known j false/\ix (zin n i k).Slots j sZ=ix k.Slots j sZ)
 | 0,i,k,_,j,_=>⟨fun h=>by omega,fun _=>⟨rfl,rfl⟩⟩
 | n+1,i,k,hl,j,hj=>by
  have h2:=zkm k (i:Int);have h3:=zwt (q:=(i:Int)) hl hj;have ih:=zKT n (i+1) (zbL k (i:Int)) (by rw[h2.1,h2.2,hl]) j (by unfold ln at hj ⊢;rwa [h2.1])
  rw[zin]
  by_cases hc:((i+1:Nat):Int)<=j/\j<((i+1+n:Nat):Int)
  .exact ⟨fun _=>ih.1 hc,fun h=>absurd (by omega) h⟩
  .rw [(ih.2 hc).1,(ih.2 hc).2,h3.1,h3.2]
   by_cases e:(i:Int)=j
   .rw [zbl.2 e];exact ⟨fun _=>⟨rfl,rfl⟩,fun h=>absurd (by omega) h⟩
   .rw [zbN.2 e];exact ⟨fun h=>absurd (by omega) hc,fun _=>⟨rfl,rfl⟩⟩
theorem zR6 {k:Kept}{inner outer:List Slot}(h:KOk k inner outer):KOk (ziZ k) inner outer:=by
 have hl:=zGL k.Known.length 0 k;refine ⟨hl.1.trans h.l1,hl.2.trans h.l2,fun i hi=>?_⟩;have hi':hasB i (ln k.Known)=true:=by unfold ln at hi ⊢;rwa [h.l1]
 have hi2:=zB.1 hi';unfold ln at hi2;have:=(zKT k.Known.length 0 k (by rw[h.l1,h.l2]) i hi').1 ⟨by omega,by omega⟩
 unfold ziZ;rw[this.1,this.2];rfl
theorem zKC:∀(n j:Nat) (l:List Kept),(zuZ n j l).length=l.length
 | 0,_,_=>rfl
 | n+1,j,l=>by rw[zuZ,zKC n,zbB]
theorem zT0:∀(n j:Nat) (l:List Kept),j+n<=l.length->∀g,0<=g->ix (zuZ n j l) g kZ=if (j:Int)<=g/\g<((j+n:Nat):Int) then ziZ (ix l g kZ) else ix l g kZ
 | 0,j,l,_,g,hg=>by rw[if_neg (by omega)];rfl
 | n+1,j,l,hl,g,hg=>by
  rw[zuZ,zT0 n (j+1) _ (by rw[zbB];omega) g hg]
  by_cases e:(j:Int)=g
  .subst e;rw[if_neg (by omega),if_pos (by omega),zZ (zB.2 ⟨by omega,by unfold ln;omega⟩)]
  .rw [zbm (by omega) hg e]
   by_cases h:((j+1:Nat):Int)<=g/\g<((j+1+n:Nat):Int)
   .rw [if_pos h,if_pos (by omega)]
   .rw [if_neg h,if_neg (by omega)]
theorem zKB:∀(n i:Nat) (l:List Mon),(znW n i l).length=l.length
 | 0,_,_=>rfl
 | n+1,i,l=>by rw[znW,zKB n,zbB]
theorem zQD:∀(n i:Nat) (l:List Mon),i+n<=l.length->∀m,0<=m->ix (znW n i l) m mZ=if (i:Int)<=m/\m<((i+n:Nat):Int) then zu0 (ix l m mZ) (ix l m mZ).Tables.length 0 else ix l m mZ
 | 0,i,l,_,m,hm=>by rw[if_neg (by omega)];rfl
 | n+1,i,l,hl,m,hm=>by
  rw[znW,zQD n (i+1) _ (by rw[zbB];omega) m hm]
  by_cases e:(i:Int)=m
  .subst e;rw[if_neg (by omega),if_pos (by omega),zZ (zB.2 ⟨by omega,by unfold ln;omega⟩)]
  .rw [zbm (by omega) hm e]
   by_cases h:((i+1:Nat):Int)<=m/\m<((i+1+n:Nat):Int)
   .rw [if_pos h,if_pos (by omega)]
   .rw [if_neg h,if_neg (by omega)]
theorem z4I (h:Host){m:Int}(hm:hasB m (ln h.Mons)=true):ix (cold h).Mons m mZ=zu0 (ix h.Mons m mZ) (ix h.Mons m mZ).Tables.length 0:=by
 have:=zB.1 hm;unfold ln at this
 show ix (znW h.Mons.length 0 h.Mons) m mZ=_
 rw[zQD _ _ _ (by omega) m this.1,if_pos (by omega)]
theorem zxl (h:Host):(cold h).Mons.length=h.Mons.length:=zKB _ _ _
theorem zHG (h:Host)(m:Int):hasB m (ln (cold h).Mons)=hasB m (ln h.Mons):=by unfold ln;rw[zxl]
theorem z8j {l l':List Mon}(hl:l'.length=l.length)(h:∀m,hasB m (ln l)=true->(ix l' m mZ).Outer=(ix l m mZ).Outer)(q:Int):zeW l' q=zeW l q:=by
 have:l'.map (fun x=>cPg x q)=l.map (fun x=>cPg x q):=by
  refine List.ext_getElem (by simp[hl]) fun k h1 h2=>?_
  simp only[uD]at h1 h2;have:=h (k:Int) (zB.2 ⟨by omega,by unfold ln;omega⟩)
  rw[zmh h1,zmh h2] at this;simp[cPg,this]
 unfold zeW;rw[this]
theorem z9l {h:Host}(H:HOk h):Op h (cold h):=by
 have hx:∀m,hasB m (ln h.Mons)=true->ix (cold h).Mons m mZ=zu0 (ix h.Mons m mZ) (ix h.Mons m mZ).Tables.length 0:=fun m hm=>z4I h hm;have hpg:∀i q,zcp (cold h) i q=zcp h i q:=by
  intro i q;unfold zcp;rw[zHG];cases hi:hasB i (ln h.Mons) with
  | false=>rfl
  | true=>rw[hx i hi];rfl
 refine ⟨⟨H.m12,H.pgs,by rw[zxl];exact H.n1,by rw[zxl];exact H.n3,rfl,rfl,fun y hy=>?_,fun q hq=>?_⟩,⟨zxl h,fun i hi=>by rw[hx i hi];rfl,fun i hi=>by rw[hx i hi];rfl,fun i hi=>by rw[hx i hi];rfl,fun i hi=>by rw[hx i hi];rfl,fun i hi=>by rw[hx i hi];rfl,fun i k _ _=>hpg i k⟩,fun R=>⟨fun m hm=>?_,fun e he=>(by cases he),fun e he=>(by cases he)⟩⟩
 .obtain ⟨m,hm,rfl⟩:=zVU hy mZ;rw[zHG]at hm;rw[hx m hm];have X:=H.mon hm;have k:KeepP (ix h.Mons m mZ) (zu0 (ix h.Mons m mZ) (ix h.Mons m mZ).Tables.length 0):=⟨rfl,rfl⟩;exact zkz X k rfl (zKC _ _ _) rfl X.outs X.pend X.tr X.own X.gs
 .rw [z8j (l:=h.Mons) (zxl h) (fun m hm=>by rw[hx m hm];rfl)]
  exact H.uq q hq
 .rw [zHG]at hm;rw[hx m hm];have X:=H.mon hm;intro g hg
  show KOk (ix (zuZ (ix h.Mons m mZ).Tables.length 0 (ix h.Mons m mZ).Tables) g kZ) (ix (ix h.Mons m mZ).Guests g gZ).Live (ix h.Mons m mZ).Outer
  have hg':hasB g (ln (ix h.Mons m mZ).Guests)=true:=hg;have hg2:=zB.1 hg';unfold ln at hg2;have hgt:=X.gt;rw[zT0 _ _ _ (by omega) g hg2.1,if_pos (by omega)]
  exact zR6 (R.t m hm g hg')
theorem zWM {m g:Int}(hm:win m 0 2=true)(hg:win g 0 1=true):zdn (zdG m g)=m/\zec (zdG m g)=g/\1<=zdG m g/\zdG m g<=6:=by
 have h1:=zcu.1 hm;have h2:=zcu.1 hg;have e1:m=0\/m=1\/m=2:=by omega
 have e2:g=0\/g=1:=by omega
 rcases e1 with rfl|rfl|rfl<;>rcases e2 with rfl|rfl<;>decide
theorem HOk.tag {h:Host}(H:HOk h){m g:Int}(hm:hasB m (ln h.Mons)=true)(hg:hasB g (ln (ix h.Mons m mZ).Guests)=true):win m 0 2=true/\win g 0 1=true:=by
 have h1:=zB.1 hm;have h2:=zB.1 hg;have h3:=H.n3;have h4:=(H.mon hm).g2;unfold ln at h1 h2;exact ⟨zcu.2 (by omega),zcu.2 (by omega)⟩
theorem zge {r:Int}:zcy r=true↔r=0\/r=1\/r=2\/r=3:=by
 unfold zcy ige ile;rw[qE,qX,qX];omega
theorem zq6 {a b:Int}(h:enough a b=true):zcy a=true/\zcy b=true:=by
 unfold enough at h;rw[zbZ,zbZ]at h;exact ⟨h.1,h.2.1⟩
theorem zUi {a b c:Int}(h1:enough a b=true)(h2:enough b c=true):enough a c=true:=by
 have ha:=zge.1 (zq6 h1).1;have hb:=zge.1 (zq6 h1).2;have hc:=zge.1 (zq6 h2).2;rcases ha with rfl|rfl|rfl|rfl<;>rcases hb with rfl|rfl|rfl|rfl<;>rcases hc with rfl|rfl|rfl|rfl<;>revert h1 h2<;>decide
theorem zXq {a b n:Int}(hn:n=1\/n=2)(h1:enough a n=true)(h2:enough b n=true):zdb a b≠0/\enough (zdb a b) n=true:=by
 have ha:=zge.1 (zq6 h1).1;have hb:=zge.1 (zq6 h2).1;rcases hn with rfl|rfl<;>rcases ha with rfl|rfl|rfl|rfl<;>rcases hb with rfl|rfl|rfl|rfl<;>revert h1 h2<;>decide
theorem both_ok (a b:Int):zcy (zdb a b)=true:=by
 unfold zdb;cases ha:zcy a with
 | false=>rfl
 | true =>
  cases hb:zcy b with
  | false=>rfl
  | true =>
   have ha:=zge.1 ha;have hb:=zge.1 hb;rcases ha with rfl|rfl|rfl|rfl<;>rcases hb with rfl|rfl|rfl|rfl<;>decide
theorem zXv {a:Int}(h:zcy a=true):enough a a=true:=by
 rcases zge.1 h with rfl|rfl|rfl|rfl<;>decide
theorem zqf {n:Int}(hn:n=1\/n=2):enough 0 n=false:=by rcases hn with rfl|rfl<;>decide
theorem zZ2 {s:Slot}{o:List Slot}(h1:s.Page≠-1)(h2:(zbn o s.Page).Page≠-1):zbi s o=bif ieq (zdb s.Rights (zbn o s.Page).Rights) 0 then noSlot else ⟨(zbn o s.Page).Page,zdb s.Rights (zbn o s.Page).Rights⟩:=by
 unfold zbi;rw[zbN.2 h1,zbN.2 h2];rfl
theorem zpm {s:Slot}{o:List Slot}{n:Int}(hn:n=1\/n=2)(h:enough (zbi s o).Rights n=true):s.Page≠-1/\(zbn o s.Page).Page≠-1/\(zbi s o).Page=(zbn o s.Page).Page:=by
 unfold zbi at h ⊢
 by_cases e1:s.Page = -1
 .rw [zbl.2 e1,cond_true]at h;rw[show noSlot.Rights=0 from rfl,zqf hn]at h;cases h
 .rw [zbN.2 e1,cond_false]at h ⊢
  by_cases e2:(zbn o s.Page).Page = -1
  .rw [zbl.2 e2,cond_true]at h;rw[show noSlot.Rights=0 from rfl,zqf hn]at h;cases h
  .rw [zbN.2 e2,cond_false]at h ⊢
   by_cases e3:zdb s.Rights (zbn o s.Page).Rights=0
   .rw [zbl.2 e3,cond_true]at h;rw[show noSlot.Rights=0 from rfl,zqf hn]at h;cases h
   .rw [zbN.2 e3];exact ⟨e1,e2,rfl⟩
theorem zT1 {s:Slot}{o:List Slot}{n:Int}(hn:n=1\/n=2)(h1:s.Page≠-1)(h2:(zbn o s.Page).Page≠-1)(h3:enough s.Rights n=true)(h4:enough (zbn o s.Page).Rights n=true) :
 (zbi s o).Page=(zbn o s.Page).Page/\enough (zbi s o).Rights n=true:=by
 have:=zXq hn h3 h4;rw[zZ2 h1 h2,zbN.2 this.1];exact ⟨rfl,this.2⟩
theorem zZ3 (s:Slot)(o:List Slot):zcy (zbi s o).Rights=true:=by
 unfold zbi;cases ieq s.Page (-1)<;>cases ieq (zbn o s.Page).Page (-1)<;>cases ieq (zdb s.Rights (zbn o s.Page).Rights) 0<;>first|rfl|exact both_ok _ _
theorem zyP {b:List Entry}{t p:Int}{e:Entry}:e∈zco b t p↔e∈b/\¬ (e.Tag=t/\e.Page=p):=by
 unfold zco;rw[List.mem_filter];refine and_congr Iff.rfl ?_;unfold zrn
 by_cases h:e.Tag=t
 .rw [show ine e.Tag t=false by simp[ine,h],cond_false,zEH];simp[h]
 .rw [zEH.2 h];simp[h]
theorem z5V {b:List Entry}{e x:Entry}(h:x∈zpG b e):x∈b\/x=e:=by
 unfold zpG ap at h;have:x∈zco b e.Tag e.Page++[e]:=by
  cases hc:igt (ln (zco b e.Tag e.Page++[e])) 6 with
  | true=>rw[hc,cond_true]at h;exact kI h
  | false=>rw[hc,cond_false]at h;exact h
 rcases jI.1 this with h|h
 .exact .inl (zyP.1 h).1
 .exact .inr (qF.1 h)
theorem zba8 {n:Nat}(h:n<=100):wsub .i64 (n:Int) 6=(n:Int)-6:=by
 unfold wsub IntKind.wrap;simp[IntKind.signed,IntKind.bits];omega
theorem zYV {b:List Entry}(h:zeU b=true)(e:Entry):zeU (zpG b e)=true:=by
 have h1:=zEs.1 h;have hl:(zco b e.Tag e.Page).length<=6:=jB (kY _ _) h1.2;have hp:(zco b e.Tag e.Page++[e]).Pairwise (fun y x=>sameKey x y=false):=by
  rw[List.pairwise_append];refine ⟨h1.1.sublist List.filter_sublist,List.pairwise_singleton _ _,fun x hx y hy=>?_⟩;rw[qF.1 hy];have:=(zyP.1 hx).2;unfold sameKey
  by_cases e1:e.Tag=x.Tag
  .rw [zbl.2 e1,cond_true,zbN];exact fun e2=>this ⟨e1.symm,e2.symm⟩
  .rw [zbN.2 e1];rfl
 unfold zpG ap;cases hc:igt (ln (zco b e.Tag e.Page++[e])) 6 with
 | true =>
  rw[cond_true,zEs];refine ⟨hp.sublist (List.drop_sublist _ _),?_⟩;unfold dp ln;rw[kO,uR,zba8 (by omega),List.length_drop,kO,uR]
  omega
 | false =>
  rw[cond_false,zEs];refine ⟨hp,?_⟩;have:=jP hc;unfold ln at this;omega
theorem z3m {h r:Host}{m:Int}(hm:hasB m (ln h.Mons)=true){y:Mon}(hM:r.Mons=up h.Mons m y)(hmem:r.Memory=h.Memory)(k:KeepP (ix h.Mons m mZ) y)(g:y.Guests=(ix h.Mons m mZ).Guests)(o:y.Outs=(ix h.Mons m mZ).Outs)(p:y.Pending=(ix h.Mons m mZ).Pending)(t:y.Traps=(ix h.Mons m mZ).Traps)(w:y.Own=(ix h.Mons m mZ).Own):Like h r:=by
 have e:∀{α:Type} (F:Mon->α),F y=F (ix h.Mons m mZ)->∀i,hasB i (ln h.Mons)=true->F (ix r.Mons i mZ)=F (ix h.Mons i mZ):=by
  intro α F hF i hi;rw[hM]
  by_cases e:m=i
  .subst e;rw[zZ hm];exact hF
  .rw [zbm (zB.1 hm).1 (zB.1 hi).1 e]
 exact ⟨by rw[hM,zbB],e Mon.Guests g,e Mon.Outs o,e Mon.Pending p,e Mon.Traps t,e Mon.Own w,fun i q _ _=>zMD hm hM hmem k i q⟩
theorem z5X {h:Host}(R:Rt h){m g:Int}(hm:hasB m (ln h.Mons)=true)(ht:hasB g (ln (ix h.Mons m mZ).Tables)=true){k:Kept}(hk:KOk k (ix (ix h.Mons m mZ).Guests g gZ).Live (ix h.Mons m mZ).Outer) :
 Rt { h with Mons:=up h.Mons m { ix h.Mons m mZ with Tables:=up (ix h.Mons m mZ).Tables g k } }:=by
 have key:∀e,zcN h e=true->zcN { h with Mons:=up h.Mons m { ix h.Mons m mZ with Tables:=up (ix h.Mons m mZ).Tables g k } } e=true:=by
  intro e he;obtain ⟨h1,h2,h3⟩:=zfq.1 he;rw[zfq]
  show hasB (zdn e.Tag) (ln (up h.Mons m _))=true/\hasB (zec e.Tag) (ln (ix (up h.Mons m _) (zdn e.Tag) mZ).Guests)=true/\below' _ (zbi (zbn (ix (ix (up h.Mons m _) (zdn e.Tag) mZ).Guests (zec e.Tag) gZ).Live e.Page) (ix (up h.Mons m _) (zdn e.Tag) mZ).Outer)=true
  rw[zdH];refine ⟨h1,?_⟩
  by_cases hc:m=zdn e.Tag
  .rw [<- hc]at h1 h2 h3 ⊢;rw[zZ hm];exact ⟨h2,h3⟩
  .rw [zbm (zB.1 hm).1 (zB.1 h1).1 hc];exact ⟨h2,h3⟩
 refine ⟨fun i hi=>?_,fun e he=>key e (R.e1 e he),fun e he=>key e (R.e2 e he)⟩
 show TOk (ix (up h.Mons m _) i mZ)
 have hi':hasB i (ln h.Mons)=true:=by
  have:hasB i (ln (up h.Mons m { ix h.Mons m mZ with Tables:=up (ix h.Mons m mZ).Tables g k }))=true:=hi
  rwa [zdH] at this
 by_cases hc:m=i
 .subst hc;rw[zZ hm];intro j hj
  by_cases e:g=j
  .subst e
   show KOk (ix (up _ g k) g kZ) _ _
   rw[zZ ht];exact hk
  .show KOk (ix (up _ g k) j kZ) _ _
   rw[zbm (zB.1 ht).1 (zB.1 hj).1 e];exact R.t m hm j hj
 .rw [zbm (zB.1 hm).1 (zB.1 hi').1 hc];exact R.t i hi'
theorem z5L {h:Host}(H:HOk h){m g:Int}(hm:hasB m (ln h.Mons)=true)(ht:hasB g (ln (ix h.Mons m mZ).Tables)=true){k:Kept}(hk:Rt h->KOk k (ix (ix h.Mons m mZ).Guests g gZ).Live (ix h.Mons m mZ).Outer) :
 Op h { h with Mons:=up h.Mons m { ix h.Mons m mZ with Tables:=up (ix h.Mons m mZ).Tables g k } }:=by
 have X:=H.mon hm;have kp:KeepP (ix h.Mons m mZ) { ix h.Mons m mZ with Tables:=up (ix h.Mons m mZ).Tables g k }:=⟨rfl,rfl⟩;exact ⟨zUv H hm kp (zkz X kp rfl (zbB _ _ _) rfl X.outs X.pend X.tr X.own X.gs),z3m (y:={ ix h.Mons m mZ with Tables:=up (ix h.Mons m mZ).Tables g k }) hm rfl rfl kp rfl rfl rfl rfl rfl,fun R=>z5X R hm ht (hk R)⟩
theorem zLW {k:Kept}{inner outer:List Slot}(h:KOk k inner outer)(p:Int):KOk (filled k inner outer p) inner outer:=by
 unfold filled zc9;cases h1:hasB p (ln k.Known) with
 | false=>exact h
 | true =>
  have hs:hasB p (ln k.Slots)=true:=by unfold ln at h1 ⊢;rw[h.l2,<- h.l1];exact h1
  have hi:hasB p (ln inner)=true:=by unfold ln at h1 ⊢;rw[<- h.l1];exact h1
  rw[cond_true,hs,cond_true,hi,cond_true];refine ⟨by rw[zbB];exact h.l1,by rw[zbB];exact h.l2,fun i hi'=>?_⟩
  by_cases e:p=i
  .subst e
   show ix (up _ p _) p sZ=bif ix (up _ p true) p false then _ else _
   rw[zZ hs,zZ h1];rfl
  .show ix (up _ p _) i sZ=bif ix (up _ p true) i false then _ else _
   rw[zbm (zB.1 hs).1 (zB.1 hi').1 e,zbm (zB.1 hs).1 (zB.1 hi').1 e];exact h.at' i hi'
theorem z9m {h:Host}(H:HOk h){m g:Int}(hm:hasB m (ln h.Mons)=true)(hg:hasB g (ln (ix h.Mons m mZ).Guests)=true)(page:Int):Op h (zb9 h m g page) :=
 z5L H hm (by unfold ln;rw[(H.mon hm).gt];exact hg) fun R=>zLW (R.t m hm g hg) page
theorem z1R {k:Kept}{inner outer:List Slot}(h:KOk k inner outer){p:Int}(hp:hasB p (ln inner)=true):zdA k p=bif ix k.Known p false then zbi (ix inner p sZ) outer else noSlot:=by
 have h1:hasB p (ln k.Known)=true:=by unfold ln at hp ⊢;rw[h.l1];exact hp
 have h2:hasB p (ln k.Slots)=true:=by unfold ln at hp ⊢;rw[h.l2];exact hp
 unfold zdA ziv zc9;rw[h1,h2,cond_true,cond_true,h.at' p hp];cases ix k.Known p false<;>rfl
theorem zZV {k:Kept}{inner outer:List Slot}(h:KOk k inner outer){p:Int}(hp:hasB p (ln inner)=true):zdA (filled k inner outer p) p=zbi (ix inner p sZ) outer:=by
 rw[z1R (zLW h p) hp];have h1:hasB p (ln k.Known)=true:=by unfold ln at hp ⊢;rw[h.l1];exact hp
 have h2:hasB p (ln k.Slots)=true:=by unfold ln at hp ⊢;rw[h.l2];exact hp
 have:ix (filled k inner outer p).Known p false=true:=by
  unfold filled zc9;rw[h1,h2,hp];exact zZ h1 _ _
 rw[this];rfl
theorem zbaq {h:Host}(H:HOk h){m g page:Int}(io:Bool)(he:Rt h->zcN h (zTm h m g page)=true):Op h (zvk h m g page io):=by
 have hl:∀(b1 b2:List Entry),Like h ⟨h.Memory,h.Mons,b1,b2⟩:=fun _ _=>⟨rfl,fun _ _=>rfl,fun _ _=>rfl,fun _ _=>rfl,fun _ _=>rfl,fun _ _=>rfl,fun _ _ _ _=>rfl⟩;have key:∀(b:List Entry),(∀e∈b,zcN h e=true)->Rt h->∀e∈zpG b (zTm h m g page),zcN h e=true:=by
  intro b hb R e hx;rcases z5V hx with hx|hx
  .exact hb e hx
  .rw [hx];exact he R
 unfold zvk;cases io
 .exact ⟨⟨H.m12,H.pgs,H.n1,H.n3,zYV H.b1 _,H.b2,H.mons,H.uq⟩,hl _ _,fun R=>⟨R.t,fun e hx=>key _ R.e1 R e hx,R.e2⟩⟩
 .exact ⟨⟨H.m12,H.pgs,H.n1,H.n3,H.b1,zYV H.b2 _,H.mons,H.uq⟩,hl _ _,fun R=>⟨R.t,R.e1,fun e hx=>key _ R.e2 R e hx⟩⟩
theorem z5p {b:List Entry}{t p:Int}{e:Entry}(h:zsy b t p=some e):e∈b/\e.Tag=t/\e.Page=p:=by
 unfold zsy at h;have h1:=List.find?_some h;rw[zbZ,zbl,zbl]at h1;exact ⟨uE h,h1⟩
theorem zjr {h:Host}{m g:Int}:zbF h m g=true↔HOk h/\hasB m (ln h.Mons)=true/\hasB g (ln (ix h.Mons m mZ).Guests)=true:=by
 unfold zbF;rw[zbZ,zbZ,zjL]
structure GOk (x:Guest):Prop where
 prog:zc4 x.Prog=true
 a:win x.A 0 99=true
 pc:win x.Pc 0 12=true
 w:zcF x.Written 4 8=true
 l:zcF x.Live 4 8=true
 ctl:zhn x.Ctl=true
 pend:zcQ x.Pending=true
 ex:zhb x.Exit=true
 seen:ile (ln x.Seen) 40=true
theorem ztb {x:Guest}:zcU x=true↔GOk x:=by
 unfold zcU;simp only[qE];exact ⟨fun ⟨a,b,c,d,e,f,g,h,i⟩=>⟨a,b,c,d,e,f,g,h,i⟩,fun ⟨a,b,c,d,e,f,g,h,i⟩=>⟨a,b,c,d,e,f,g,h,i⟩⟩
theorem z4d {s:Slot}:zdD s 8=true↔s=noSlot\/(0<=s.Page/\s.Page<=7/\1<=s.Rights/\s.Rights<=3):=by
 unfold zdD;rw[ztt,zpa,zry];have:wsub .i64 8 1=7:=by decide
 simp only[this,ztt,zcu];simp[igt];constructor
 .rintro (h|⟨h,⟨h1,h2⟩,h3⟩)
  .exact .inl h
  .exact .inr ⟨h1,h2,h3⟩
 .intro h
  by_cases hs:s=noSlot
  .exact .inl hs
  .rcases h with h|⟨h1,h2,h3⟩
   .exact .inl h
   .exact .inr ⟨hs,⟨h1,h2⟩,h3⟩
theorem HOk.guest {h:Host}(H:HOk h){m g:Int}(hm:hasB m (ln h.Mons)=true)(hg:hasB g (ln (ix h.Mons m mZ).Guests)=true):GOk (ix (ix h.Mons m mZ).Guests g gZ):=ztb.1 ((H.mon hm).gs _ (zlo hg _))
structure Walked (l:List Slot) (p n q:Int):Prop where
 hp:hasB p (ln l)=true
 pg:(ix l p sZ).Page=q
 q8:hasB q 8=true
 en:enough (ix l p sZ).Rights n=true
theorem walked {x:Guest}(X:GOk x){p n:Int}(hw:zdZ x.Live p n=true):Walked x.Live p n (zbV x.Live p n):=by
 have e:zbV x.Live p n=(zbn x.Live p).Page:=by unfold zbV;rw[hw];rfl
 unfold zdZ at hw
 by_cases h1:(zbn x.Live p).Page = -1
 .rw [zbl.2 h1]at hw;cases hw
 .rw [zbN.2 h1,cond_false,zbZ]at hw;have hp:hasB p (ln x.Live)=true:=by
   cases hp:hasB p (ln x.Live) with
   | true=>rfl
   | false=>exact absurd (by unfold zbn;rw[hp];rfl) h1
  rw[znH hp] at e h1 hw;rw[e];have hs:=z4d.1 ((zqZ.1 X.l).1 _ (zlo hp sZ));refine ⟨hp,rfl,?_,hw.1⟩;rcases hs with hs|hs
  .rw [hs]at h1;exact absurd rfl h1
  .exact zB.2 (by omega)
structure Looked (h r:Host) (m g page need q host:Int):Prop where
 op:Op h r
 inn:(ix (ix r.Mons m mZ).Outer q sZ).Page=host
 ne:host≠-1
 en:enough (zbi (ix (ix (ix h.Mons m mZ).Guests g gZ).Live page sZ) (ix r.Mons m mZ).Outer).Rights need=true
 cp:(zbi (ix (ix (ix h.Mons m mZ).Guests g gZ).Live page sZ) (ix r.Mons m mZ).Outer).Page=host
 dk:∀k,hasB k 8=true->k≠q->ix (ix r.Mons m mZ).Dirty k false=ix (ix h.Mons m mZ).Dirty k false
 dq:need=2->ix (ix r.Mons m mZ).Dirty q false=true
 d1:need=1->(ix r.Mons m mZ).Dirty=(ix h.Mons m mZ).Dirty
 dm:∀i,hasB i (ln h.Mons)=true->i≠m->(ix r.Mons i mZ).Dirty=(ix h.Mons i mZ).Dirty
theorem zQ2 {h:Host}(S:Safe h){m g page need q:Int}(hm:hasB m (ln h.Mons)=true)(hg:hasB g (ln (ix h.Mons m mZ).Guests)=true)(hn:need=1\/need=2)(W:Walked (ix (ix h.Mons m mZ).Guests g gZ).Live page need q)(io:Bool)(ha:zdA (zbP h m g) page=zbi (ix (ix (ix h.Mons m mZ).Guests g gZ).Live page sZ) (ix h.Mons m mZ).Outer)(he:enough (zdA (zbP h m g) page).Rights need=true) :
 Op h (zel h m g page io).1/\(zel h m g page io).2=((ix (ix h.Mons m mZ).Outer q sZ).Page,true)/\(ix (ix h.Mons m mZ).Outer q sZ).Page≠-1/\(zel h m g page io).1.Mons=h.Mons:=by
 rw[ha]at he;have hc:=zpm hn he;rw[W.pg,znH ((S.ok.mon hm).hasO W.q8)]at hc;refine ⟨zbaq S.ok io fun R=>?_,?_,hc.2.1,?_⟩
 .obtain ⟨t1,t2⟩:=S.ok.tag hm hg;obtain ⟨b1,b2,_⟩:=zWM t1 t2;rw[zfq]
  show hasB (zdn (zdG m g)) _=true/\hasB (zec (zdG m g)) (ln (ix h.Mons (zdn (zdG m g)) mZ).Guests)=true/\below' ⟨(zdA (zbP h m g) page).Page,(zdA (zbP h m g) page).Rights⟩ (zbi (zbn (ix (ix h.Mons (zdn (zdG m g)) mZ).Guests (zec (zdG m g)) gZ).Live page) (ix h.Mons (zdn (zdG m g)) mZ).Outer)=true
  rw[b1,b2,znH W.hp,ha];exact ⟨hm,hg,zq3.2 (.inr ⟨rfl,zXv (zZ3 _ _)⟩)⟩
 .show ((zdA (zbP h m g) page).Page,true)=_
  rw[ha,hc.2.2]
 .show (zvk h m g page io).Mons=_
  unfold zvk;cases io<;>rfl
theorem zVP {h:Host}(S:Safe h){m g page need q:Int}(hm:hasB m (ln h.Mons)=true)(hg:hasB g (ln (ix h.Mons m mZ).Guests)=true)(hn:need=1\/need=2)(W:Walked (ix (ix h.Mons m mZ).Guests g gZ).Live page need q)(io:Bool){b:List Entry}(hb:∀e∈b,zcN h e=true)(hd:need=2->ix (ix h.Mons m mZ).Dirty q false=true) :
 Looked h (zfT h b m g page need q io).1 m g page need q (zfT h b m g page need q io).2.1/\(zfT h b m g page need q io).2.2=true:=by
 have X:=S.ok.mon hm;have hq8:=W.q8;have hsl:=znH (X.hasO W.q8);unfold zfT;cases hf:zhs b m g page need with
 | true =>
  rw[cond_true];unfold zhs at hf;cases hfb:zq8 b m g page with
  | none=>rw[hfb]at hf;cases hf
  | some e =>
   rw[hfb]at hf;have hf':enough e.Rights need=true:=hf;obtain ⟨f1,f2,f3⟩:=z5p hfb;obtain ⟨t1,t2⟩:=S.ok.tag hm hg;obtain ⟨b1,b2,_⟩:=zWM t1 t2;obtain ⟨_,_,h3⟩:=zfq.1 (hb e f1);rw[f2,b1,b2,f3,znH W.hp]at h3;have hne:(⟨e.Host,e.Rights⟩:Slot)≠noSlot:=fun hc=>by
    have:e.Rights=0:=congrArg Slot.Rights hc;rw[this,zqf hn]at hf';cases hf'
   rcases zq3.1 h3 with h3|⟨h3,h4⟩
   .exact absurd h3 hne
   .have h5:=zUi h4 hf';have hc:=zpm hn h5;rw[W.pg,hsl]at hc;have h3':e.Host=_:=h3;refine ⟨⟨Op.refl S.ok,hc.2.2.symm.trans h3.symm,?_,h5,h3.symm,fun _ _ _=>rfl,hd,fun _=>rfl,fun _ _ _=>rfl⟩,rfl⟩
    show e.Host≠-1
    rw[h3',hc.2.2];exact hc.2.1
 | false =>
  rw[cond_false];have hKO:=S.rt.t m hm g hg;cases hs:zeb h m g page need with
  | false =>
   rw[cond_false];have hs':ix (zbP h m g).Known page false=true/\enough (zdA (zbP h m g) page).Rights need=true:=by
    unfold zeb at hs;cases hk:ziv (zbP h m g) page with
    | false=>rw[hk]at hs;cases hs
    | true =>
     rw[hk,cond_true]at hs;refine ⟨?_,?_⟩
     .unfold ziv at hk;cases hh:zc9 (zbP h m g) page with
      | false=>rw[hh]at hk;cases hk
      | true=>rw[hh]at hk;exact hk
     .cases hz:ieq (zdA (zbP h m g) page).Page (-1) with
      | true=>rw[hz]at hs;cases hs
      | false=>rw[hz]at hs;simpa using hs
   have ha:zdA (zbP h m g) page=zbi (ix (ix (ix h.Mons m mZ).Guests g gZ).Live page sZ) (ix h.Mons m mZ).Outer:=by
    have h0:=z1R hKO W.hp;have h1:ix (ix (ix h.Mons m mZ).Tables g kZ).Known page false=true:=hs'.1;rw[h1]at h0;exact h0
   obtain ⟨o1,o2,o3,o4⟩:=zQ2 S hm hg hn W io ha hs'.2;rw[o2];have he:=hs'.2;rw[ha]at he;have hc:=zpm hn he;rw[W.pg,hsl]at hc;exact ⟨⟨o1,by rw[o4],o3,by rw[o4];exact he,by rw[o4];exact hc.2.2,fun _ _ _=>by rw[o4],fun e=>by rw[o4];exact hd e,fun _=>by rw[o4],fun _ _ _=>by rw[o4]⟩,rfl⟩
  | true =>
   rw[cond_true];have M:=zRa S.ok (m:=m) (p:=q) need hm hq8;have hm1:hasB m (ln (mended h m q need).Mons)=true:=by rw[M.op.like.has];exact hm
   have hgs:(ix (mended h m q need).Mons m mZ).Guests=(ix h.Mons m mZ).Guests:=M.op.like.g m hm;have hg1:hasB g (ln (ix (mended h m q need).Mons m mZ).Guests)=true:=by rw[hgs];exact hg
   have S1:Safe (mended h m q need):=M.op.safe S;have F:=z9m S1.ok hm1 hg1 page;have S2:Safe (zb9 (mended h m q need) m g page):=F.safe S1;have hm2:hasB m (ln (zb9 (mended h m q need) m g page).Mons)=true:=by rw[F.like.has];exact hm1
   have e2:ix (zb9 (mended h m q need) m g page).Mons m mZ={ ix (mended h m q need).Mons m mZ with Tables:=up (ix (mended h m q need).Mons m mZ).Tables g (filled (zbP (mended h m q need) m g) (zb5 (mended h m q need) m g) (ix (mended h m q need).Mons m mZ).Outer page) }:=zZ hm1 _ _;have hg2:hasB g (ln (ix (zb9 (mended h m q need) m g page).Mons m mZ).Guests)=true:=by rw[e2];exact hg1
   have hgs2:(ix (zb9 (mended h m q need) m g page).Mons m mZ).Guests=(ix h.Mons m mZ).Guests:=by rw[e2];exact hgs
   have W2:Walked (ix (ix (zb9 (mended h m q need) m g page).Mons m mZ).Guests g gZ).Live page need q:=by rw[hgs2];exact W
   have ha:zdA (zbP (zb9 (mended h m q need) m g page) m g) page=zbi (ix (ix (ix (zb9 (mended h m q need) m g page).Mons m mZ).Guests g gZ).Live page sZ) (ix (zb9 (mended h m q need) m g page).Mons m mZ).Outer:=by
    have:zbP (zb9 (mended h m q need) m g page) m g=filled (zbP (mended h m q need) m g) (zb5 (mended h m q need) m g) (ix (mended h m q need).Mons m mZ).Outer page:=by
     unfold zbP;rw[e2];exact zZ (by unfold ln;rw[(S1.ok.mon hm1).gt];exact hg1) _ _
    rw[this];refine (zZV (p:=page) (S1.rt.t m hm1 g hg1) (by rw[hgs];exact W.hp)).trans ?_
    rw[e2]
   have hOu:(ix (zb9 (mended h m q need) m g page).Mons m mZ).Outer=(ix (mended h m q need).Mons m mZ).Outer:=by rw[e2]
   have hsl1:=znH ((S1.ok.mon hm1).hasO hq8);have hfull:=zT1 (s:=ix (ix (ix h.Mons m mZ).Guests g gZ).Live page sZ) (o:=(ix (mended h m q need).Mons m mZ).Outer) hn (by rw[W.pg];have:=zB.1 hq8;omega) (by rw[W.pg,hsl1];exact M.inn) W.en (by
    rw[W.pg,hsl1];rcases hn with rfl|rfl
    .rcases (S1.ok.mon hm1).enough1 hq8 M.inn with e|e<;>rw [e]<;>decide
    .rw [M.ri (by decide)];decide)
   have he:enough (zdA (zbP (zb9 (mended h m q need) m g page) m g) page).Rights need=true:=by
    rw[ha,hgs2,hOu];exact hfull.2
   obtain ⟨o1,o2,o3,o4⟩:=zQ2 S2 hm2 hg2 hn W2 io ha he;rw[o2];have hcp:=hfull.1;rw[W.pg,hsl1]at hcp;refine ⟨⟨(M.op.trans F).trans o1,by rw[o4],o3,by rw[o4,hOu];exact hfull.2,by rw[o4,hOu];exact hcp,fun k hk hc=>?_,fun e=>?_,fun e=>?_,fun i hi hc=>?_⟩,rfl⟩
   .rw [o4,e2];exact M.dk k hk hc
   .rw [o4,e2];exact M.dt (by rw[e];decide)
   .rw [o4,e2];exact M.d0 (by rw[e];decide)
   .rw [o4]
    show (ix (up (mended h m q need).Mons m _) i mZ).Dirty=_
    rw[zbm (zB.1 hm).1 (zB.1 hi).1 (Ne.symm hc)];exact M.dm i hi hc
theorem zGQ {n:Int}:zfA n=true↔n=1\/n=2:=by
 unfold zfA
 by_cases h:n=1
 .rw [zbl.2 h];simp[h]
 .rw [zbN.2 h,cond_false,zbl];simp[h]
theorem zqp {h:Host}{m g page need:Int}:zbM h m g page need=true↔zbF h m g=true/\(need=1\/need=2)/\zdZ (zb5 h m g) page need=true:=by
 unfold zbM;rw[zbZ,zbZ,zGQ]
theorem zQ3 {h:Host}(S:Safe h){m g page need:Int}(io:Bool)(hl:zbM h m g page need=true){b:List Entry}(hb:∀e∈b,zcN h e=true) :
 Looked h (lookOf h b m g page need io).1 m g page need (zbV (zb5 h m g) page need) (lookOf h b m g page need io).2.1/\(lookOf h b m g page need io).2.2=true:=by
 obtain ⟨h1,hn,hw⟩:=zqp.1 hl;obtain ⟨_,hm,hg⟩:=zjr.1 h1;have W:=walked (S.ok.guest hm hg) hw;unfold lookOf;rw[hl,cond_true];rcases hn with rfl|rfl
 .rw [show ieq 1 2=false by decide,cond_false]
  exact zVP S hm hg (.inl rfl) W io hb (fun e=>absurd e (by decide))
 .rw [show ieq 2 2=true by decide,cond_true]
  obtain ⟨k1,k2⟩:=zMx S.ok hm (zbV (zb5 h m g) page 2);have hm1:hasB m (ln (zbt h m (zbV (zb5 h m g) page 2)).Mons)=true:=by rw[k1.like.has];exact hm
  have e1:ix (zbt h m (zbV (zb5 h m g) page 2)).Mons m mZ={ ix h.Mons m mZ with Dirty:=up (ix h.Mons m mZ).Dirty (zbV (zb5 h m g) page 2) true }:=zZ hm _ _;have hD:=(S.ok.mon hm).hasD W.q8;obtain ⟨L,hL⟩:=zVP (k1.safe S) hm1 (g:=g) (page:=page) (need:=2) (q:=zbV (zb5 h m g) page 2) (by rw[e1];exact hg) (.inr rfl) (by rw[e1];exact W) io (b:=b) (fun e he=>by
   obtain ⟨a1,a2,a3⟩:=zfq.1 (hb e he);rw[zfq];have hi:hasB (zdn e.Tag) (ln (zbt h m (zbV (zb5 h m g) page 2)).Mons)=true:=by rw[k1.like.has];exact a1
   refine ⟨hi,by rw[k1.like.g _ a1];exact a2,?_⟩
   rw[k1.like.g _ a1];have:(ix (zbt h m (zbV (zb5 h m g) page 2)).Mons (zdn e.Tag) mZ).Outer=(ix h.Mons (zdn e.Tag) mZ).Outer:=by
    show (ix (up h.Mons m _) _ mZ).Outer=_
    by_cases hc:m=zdn e.Tag
    .rw [<- hc,zZ hm]
    .rw [zbm (zB.1 hm).1 (zB.1 a1).1 hc]
   rw[this];exact a3) (fun _=>by rw[e1];exact zZ hD _ _)
  refine ⟨⟨k1.trans L.op,L.inn,L.ne,?_,?_,fun k hk hc=>?_,L.dq,fun e=>absurd e (by decide),fun i hi hc=>?_⟩,hL⟩
  .have:=L.en;rw[e1] at this;exact this
  .have:=L.cp;rw[e1] at this;exact this
  .rw [L.dk k hk hc,e1];exact zbm (zB.1 W.q8).1 (zB.1 hk).1 (Ne.symm hc) _ _
  .rw [L.dm i (by rw[k1.like.has];exact hi) hc]
   show (ix (up h.Mons m _) i mZ).Dirty=_
   rw[zbm (zB.1 hm).1 (zB.1 hi).1 (Ne.symm hc)]
theorem zP7 {x y:Int}(h1 : -9223372036854775808<=x+y)(h2:x+y<=9223372036854775807):zG .i64 x y=x+y:=by
 unfold zG;simp only[IntKind.wrap,IntKind.signed,IntKind.bits];simp;omega
theorem zKO {n:Nat}{P:Int->Prop}(h:∀i:Fin n,P ((i.val:Nat):Int)){x:Int}(h0:0<=x)(h1:x<n):P x:=by
 have:=h ⟨x.toNat,by omega⟩
 simpa [show ((x.toNat:Nat):Int)=x by omega] using this
theorem zWh {p:Int}:zcQ p=true↔0<=p/\p<=255:=by unfold zcQ;exact zcu
theorem zRh {p:Int}(h:zcQ p=true):zcQ (zgY p)=true:=by
 have h':=zWh.1 h;exact zKO (n:=256) (P:=fun x=>zcQ (zgY x)=true) (by decide +kernel) h'.1 (by omega)
theorem zRg {p:Int}(h:zcQ p=true)(n:Int):zcQ (zsK p n)=true:=by
 unfold zsK zgd;rw[h,cond_true];cases hn:win n 0 7 with
 | false=>exact h
 | true =>
  rw[cond_true];have h':=zWh.1 h;have hn':=zcu.1 hn;exact zKO (n:=256) (P:=fun x=>∀k,0<=k->k<(8:Int)->zcQ (wor .i64 x (zk0 .i64 1 k))=true) (fun i k h0 h1=>zKO (n:=8) (P:=fun k=>zcQ (wor .i64 ((i.val:Nat):Int) (zk0 .i64 1 k))=true) (by revert i;decide +kernel) h0 h1) h'.1 (by omega) n hn'.1 (by omega)
structure GKeep (x y:Guest):Prop where
 ok:GOk y
 live:y.Live=x.Live
theorem z0y {x:Guest}(X:GOk x){c:Int}(hc:win c 0 12=true):GOk { x with Pc:=c }:=⟨X.prog,X.a,hc,X.w,X.l,X.ctl,X.pend,X.ex,X.seen⟩
theorem z0x {x:Guest}(X:GOk x){c:Int}(hc:win c 0 99=true):GOk { x with A:=c }:=⟨X.prog,hc,X.pc,X.w,X.l,X.ctl,X.pend,X.ex,X.seen⟩
theorem zi0 {x:Guest}(X:GOk x):GKeep x (zbJ x):=by
 unfold zbJ;have hp:=zcu.1 X.pc;cases h:ige x.Pc 12 with
 | true=>exact ⟨z0y X (by decide),rfl⟩
 | false =>
  have:¬ x.Pc≥12:=jP h;refine ⟨z0y X ?_,rfl⟩;rw[zP7 (by omega) (by omega)]
  exact zcu.2 (by omega)
theorem zUp {x:Guest}(X:GOk x)(n:Int):GKeep x (saw x n):=by
 unfold saw;cases h:ilt (ln x.Seen) 40 with
 | false=>exact ⟨X,rfl⟩
 | true =>
  have:ln x.Seen<40:=qD h;refine ⟨⟨X.prog,X.a,X.pc,X.w,X.l,X.ctl,X.pend,X.ex,qJ ?_⟩,rfl⟩;unfold ln ap at *;simp;omega
theorem zi1 {x:Guest}(X:GOk x){e:GExit}(he:zhb e=true):GKeep x (stopped x e):=⟨⟨X.prog,X.a,X.pc,X.w,X.l,X.ctl,X.pend,he,X.seen⟩,rfl⟩
theorem zY8 {x:Guest}(X:GOk x){p:Int}(hp:zcQ p=true):GKeep x { x with Pending:=p }:=⟨⟨X.prog,X.a,X.pc,X.w,X.l,X.ctl,hp,X.ex,X.seen⟩,rfl⟩
theorem zY5 {x:Guest}(X:GOk x)(b:Bool):GKeep x { x with Halted:=b }:=⟨⟨X.prog,X.a,X.pc,X.w,X.l,X.ctl,X.pend,X.ex,X.seen⟩,rfl⟩
theorem zY6 {x:Guest}(X:GOk x):GKeep x (held x):=⟨(zi0 (zY5 X true).ok).ok,(zi0 (zY5 X true).ok).live⟩
theorem z2T {x:Guest}(X:GOk x){v:Int}(hv:win v 0 99=true):GKeep x (loaded x v):=by
 have h1:=zUp (z0x X hv) v;have h2:=zi0 h1.ok;exact ⟨h2.ok,h2.live.trans h1.live⟩
theorem zNC {x:Guest}(X:GOk x):GKeep x (interrupted x):=by
 unfold interrupted;cases zfM x with
 | false=>exact ⟨X,rfl⟩
 | true =>
  have h1:=zY8 X (zRh X.pend);rw[cond_true];exact ⟨(zUp h1.ok _).ok,(zUp h1.ok _).live⟩
theorem zJc {p:List Ins}(h:zc4 p=true)(i:Int):zdN (zbY p i)=true:=by
 unfold zbY;cases hi:hasB i (ln p) with
 | false=>rfl
 | true =>
  unfold zc4 at h;rw[zbZ,qO]at h;exact h.1 _ (zlo hi _)
theorem zbaj {i:Ins}(h:zdN i=true)(h3:i.Op=3\/i.Op=4):0<=i.X/\i.X<=15:=by
 unfold zdN at h;rcases h3 with e|e<;>rw [e]at h<;>exact zcu.1 h
theorem z2Z {i:Ins}(h:zdN i=true)(h3:i.Op=5\/i.Op=6):0<=i.X/\i.X<=99:=by
 unfold zdN at h;rcases h3 with e|e<;>rw [e]at h<;>exact zcu.1 h
theorem zbaT {i:Ins}(h:zdN i=true)(h3:i.Op=8):0<=i.X/\i.X<=11:=by
 unfold zdN at h;rw[h3]at h;exact zcu.1 h
theorem zbaS {i:Ins}(h:zdN i=true)(h3:i.Op=1):0<=i.X/\i.X<=99:=by
 unfold zdN at h;rw[h3]at h;exact zcu.1 h
theorem z0z {x:Guest}(X:GOk x):GKeep x (plainly x):=by
 have M:=zi0 X;have hi:=zJc X.prog x.Pc;unfold plainly;cases ine (zF x) 2 with
 | true=>exact ⟨X,rfl⟩
 | false =>
  rw[cond_false];cases win x.A 0 99 with
  | false=>exact M
  | true =>
   rw[cond_true];cases win (zbY x.Prog x.Pc).X 0 99 with
   | false=>exact M
   | true =>
    rw[cond_true]
    by_cases e1:(zbY x.Prog x.Pc).Op=1
    .rw [zbl.2 e1,cond_true];exact ⟨z0x M.ok (zcu.2 (zbaS hi e1)),M.live⟩
    .rw [zbN.2 e1,cond_false]
     by_cases e2:(zbY x.Prog x.Pc).Op=2
     .rw [zbl.2 e2,cond_true];refine ⟨z0x M.ok ?_,M.live⟩;have h1:=zcu.1 X.a;have hx:0<=(zbY x.Prog x.Pc).X/\(zbY x.Prog x.Pc).X<=99:=by
       unfold zdN at hi;rw[e2]at hi;exact zcu.1 hi
      rw[zcu];unfold zjo;rw[zP7 (by omega) (by omega)]
      have h5:=Int.tmod_nonneg (a:=x.A+(zbY x.Prog x.Pc).X) 100 (by omega)
      have h6:=Int.tmod_lt_of_pos (x.A+(zbY x.Prog x.Pc).X) (show (0:Int)<100 by omega)
      omega
     .rw [zbN.2 e2,cond_false]
      by_cases e8:(zbY x.Prog x.Pc).Op=8
      .rw [zbl.2 e8,cond_true];cases ieq x.A 0 with
       | true =>
        have:=zbaT hi e8;exact ⟨z0y M.ok (zcu.2 (by omega)),M.live⟩
       | false=>exact M
      .rw [zbN.2 e8];exact M
theorem zsJ {c:List Int}:zb6 c=true↔(∀x∈c,win x 0 99=true)/\ln c=4:=by
 unfold zb6;rw[zbZ,qO,zbl]
theorem zmq (h:Host)(m:Int):∀(n i:Nat),(zcf h m n i).length=n
 | 0,_=>rfl
 | n+1,i=>by rw[zcf,qV,zmq h m n]
theorem zME (h:Host)(m:Int):∀(n i k:Nat) (hk:k<(zcf h m n i).length),(zcf h m n i)[k]=zcp h m ((i+k:Nat):Int)
 | 0,i,k,hk=>by simp[zcf]at hk
 | n+1,i,k,hk=>by
  cases k with
  | zero=>rfl
  | succ k =>
   have:=zME h m n (i+1) k (by simpa [zcf] using hk)
   simp only[zcf,List.getElem_cons_succ];rw[this]
   congr 1
   omega
theorem zpz {h:Host}{m q:Int}(hq:hasB q 8=true)(d:List Int):ix (zcf h m 8 0) q d=zcp h m q:=by
 have hq':=zB.1 hq;have hk:q.toNat<(zcf h m 8 0).length:=by rw[zmq];omega
 have:=zmh hk d;rw[show ((q.toNat:Nat):Int)=q by omega] at this
 rw[this,zME]
 congr 1
 omega
theorem zt2 (h:Host)(m:Int):ln (zcf h m 8 0)=8:=by unfold ln;rw[zmq];rfl
theorem zzs {h:Host}(H:HOk h){m p:Int}(hm:hasB m (ln h.Mons)=true)(hp:hasB p 8=true):zb6 (zcp h m p)=true:=by
 have X:=H.mon hm;rw[<- zkF H hm hp]
 by_cases e:(ix (ix h.Mons m mZ).Outer p sZ).Page = -1
 .rw [zbl.2 e];exact ((zpo (X.slot hp)).1 (X.fit p hp)).1 e
 .rw [zbN.2 e];exact zRe H.pgs _
theorem zys {h:Host}(H:HOk h){m:Int}(hm:hasB m (ln h.Mons)=true):zbC (zy h m)=true:=by
 have X:=H.mon hm;unfold zy;rw[hm,cond_true];unfold zbC zhp;rw[zbZ,qO];refine ⟨X.gs,?_⟩;simp only[qE,zbZ,qO,zbl,zcu];refine ⟨⟨fun c hc=>?_,zt2 h m⟩,⟨?_,?_⟩,?_,X.pend⟩
 .obtain ⟨i,hi,rfl⟩:=zVU hc [];rw[zt2]at hi;rw[zpz hi];exact zzs H hm hi
 .unfold ln;have:=X.g1;omega
 .unfold ln;have:=X.g2;omega
 .unfold ile ln;have:=X.outs;exact qJ (by omega)
structure SimT (h r:Host) (m:Int) (f:Bare->Bare):Prop where
 safe:Safe r
 seen:∀i,zy r i=bif ieq i m then f (zy h i) else zy h i
 len:r.Mons.length=h.Mons.length
theorem SimT.trans {a b c:Host}{m:Int}{f g:Bare->Bare}(x:SimT a b m f)(y:SimT b c m g):SimT a c m (fun t=>g (f t)):=by
 refine ⟨y.safe,fun i=>?_,y.len.trans x.len⟩;rw[y.seen i,x.seen i];cases ieq i m<;>rfl
theorem Op.sim {h r:Host}(k:Op h r)(S:Safe h)(m:Int):SimT h r m id:=⟨k.safe S,fun i=>by rw[k.like.seen i];cases ieq i m<;>rfl,k.like.len⟩
theorem SimT.congr {h r:Host}{m:Int}{f g:Bare->Bare}(x:SimT h r m f)(e:f (zy h m)=g (zy h m)):SimT h r m g:=by
 refine ⟨x.safe,fun i=>?_,x.len⟩;rw[x.seen i]
 by_cases hi:i=m
 .subst hi;rw[zbl.2 rfl,cond_true,cond_true,e]
 .rw [zbN.2 hi];rfl
theorem SimT.has {h r:Host}{m:Int}{f:Bare->Bare}(x:SimT h r m f)(i:Int):hasB i (ln r.Mons)=hasB i (ln h.Mons):=by unfold ln;rw[x.len]
theorem SimT.refl {h:Host}(S:Safe h)(m:Int):SimT h h m id:=⟨S,fun i=>by cases ieq i m<;>rfl,rfl⟩
theorem zwe {h:Host}(S:Safe h){m q host:Int}(hm:hasB m (ln h.Mons)=true)(hq:hasB q 8=true)(hs:(ix (ix h.Mons m mZ).Outer q sZ).Page=host)(hne:host≠-1)(c v:Int) :
 SimT h { h with Memory:=zbu h.Memory host c v } m (fun b=>{ b with Memory:=zbu b.Memory q c v })/\cellAt h.Memory host c=cellAt (zy h m).Memory q c:=by
 have H:=S.ok;have X:=H.mon hm;have hsl:=X.slot hq;have hM:=hasM H hsl (by rw[hs];exact hne)
 rw[hs]at hM;have hpg:ix h.Memory host []=zcp h m q:=by
  have:=zkF H hm hq;rw[hs,zbN.2 hne,cond_false,zkE hM] at this;exact this
 have hlen:ln (zcp h m q)=4:=(zsJ.1 (zzs H hm hq)).2;have hmem:(zy h m).Memory=zcf h m 8 0:=by unfold zy;rw[hm];rfl
 have h1:zfz h.Memory host c=hasB c 4:=by unfold zfz;rw[hM,cond_true,hpg,hlen]
 have h2:zfz (zcf h m 8 0) q c=hasB c 4:=by unfold zfz;rw[zt2,hq,cond_true,zpz hq,hlen]
 have hcell:cellAt h.Memory host c=cellAt (zy h m).Memory q c:=by
  rw[hmem];unfold cellAt;rw[h1,h2,hpg,zpz hq]
 refine ⟨?_,hcell⟩;cases hc:hasB c 4 with
 | false =>
  have e1:zbu h.Memory host c v=h.Memory:=by unfold zbu;rw[h1,hc];rfl
  rw[e1];refine (SimT.refl S m).congr ?_
  show zy h m={ zy h m with Memory:=zbu (zy h m).Memory q c v }
  rw[hmem];have e2:zbu (zcf h m 8 0) q c v=zcf h m 8 0:=by unfold zbu;rw[h2,hc];rfl
  rw[e2,<- hmem]
 | true =>
  cases hv:win v 0 99 with
  | false =>
   have e1:zbu h.Memory host c v=h.Memory:=by unfold zbu;rw[h1,hc,hv];rfl
   rw[e1];refine (SimT.refl S m).congr ?_
   show zy h m={ zy h m with Memory:=zbu (zy h m).Memory q c v }
   rw[hmem];have e2:zbu (zcf h m 8 0) q c v=zcf h m 8 0:=by unfold zbu;rw[h2,hc,hv];rfl
   rw[e2,<- hmem]
  | true =>
   have e1:zbu h.Memory host c v=up h.Memory host (up (zcp h m q) c v):=by unfold zbu;rw[h1,hc,hv,hpg];rfl
   have e2:zbu (zcf h m 8 0) q c v=up (zcf h m 8 0) q (up (zcp h m q) c v):=by unfold zbu;rw[h2,hc,hv,zpz hq];rfl
   have hnew:zb6 (up (zcp h m q) c v)=true:=by
    have:=zsJ.1 (zzs H hm hq);rw[zsJ,zdH];refine ⟨fun x hx=>?_,this.2⟩;rcases qY hx with h|h
    .exact this.1 x h
    .rw [h];exact hv
   have h0:=(zB.1 hM).1;have hH:HOk { h with Memory:=zbu h.Memory host c v }:=by
    rw[e1];refine ⟨by show (up _ _ _).length=12;rw[zbB];exact H.m12,fun x hx=>?_,H.n1,H.n3,H.b1,H.b2,H.mons,H.uq⟩
    rcases qY hx with h|h
    .exact H.pgs x h
    .rw [h];exact hnew
   refine ⟨⟨hH,⟨S.rt.t,S.rt.e1,S.rt.e2⟩⟩,fun i=>?_,rfl⟩;have hne':∀i k,hasB i (ln h.Mons)=true->hasB k 8=true->¬ (i=m/\k=q)->zcp { h with Memory:=zbu h.Memory host c v } i k=zcp h i k:=by
    intro i k hi hk hnot;rw[<- zkF hH (m:=i) (p:=k) hi hk,<- zkF H hi hk]
    show (cond (ieq (ix (ix h.Mons i mZ).Outer k sZ).Page (-1)) _ (zca (zbu h.Memory host c v) _))=_
    by_cases e:(ix (ix h.Mons i mZ).Outer k sZ).Page = -1
    .rw [zbl.2 e];rfl
    .rw [zbN.2 e,cond_false,cond_false,e1];exact zC2 h0 (fun e=>hnot (H.uniq hi hk hm hq e hs h0))
   have heq':zcp { h with Memory:=zbu h.Memory host c v } m q=up (zcp h m q) c v:=by
    rw[<- zkF hH (m:=m) (p:=q) hm hq]
    show (cond (ieq (ix (ix h.Mons m mZ).Outer q sZ).Page (-1)) _ (zca (zbu h.Memory host c v) (ix (ix h.Mons m mZ).Outer q sZ).Page))=_
    rw[hs,zbN.2 hne,cond_false,e1];exact zC1 hM
   by_cases hi:i=m
   .subst hi;rw[zbl.2 rfl,cond_true];unfold zy
    show (cond (hasB i (ln h.Mons)) _ _)=_
    rw[hm,cond_true,cond_true]
    show Bare.mk (zcf { h with Memory:=zbu h.Memory host c v } i 8 0) _ _ _=Bare.mk (zbu (zcf h i 8 0) q c v) _ _ _
    congr 1
    rw[e2];refine zPv [] (by rw[zbB,zmq,zmq]) fun k hk=>?_
    rw[zt2]at hk;rw[zpz hk]
    by_cases e:q=k
    .subst e;rw[zZ (by rw[zt2];exact hq),heq']
    .rw [zbm (zB.1 hq).1 (zB.1 hk).1 e,zpz hk];exact hne' i k hm hk (fun h=>e h.2.symm)
   .rw [zbN.2 hi,cond_false];unfold zy
    show (cond (hasB i (ln h.Mons)) _ _)=_
    cases hi2:hasB i (ln h.Mons) with
    | false=>rfl
    | true =>
     rw[cond_true,cond_true]
     show Bare.mk (zcf { h with Memory:=zbu h.Memory host c v } i 8 0) _ _ _=_
     rw[zqw 8 0 (fun j h1 h2=>hne' i (j:Int) hi2 (zB.2 (by omega)) (fun h=>hi h.1))]
theorem zp1 {h:Host}(S:Safe h){m g:Int}(hm:hasB m (ln h.Mons)=true)(hg:hasB g (ln (ix h.Mons m mZ).Guests)=true){y:Guest}(k:GKeep (gOf h m g) y):SimT h (zfv h m g y) m (fun b=>zdC b g y):=by
 have X:=S.ok.mon hm;have kp:KeepP (ix h.Mons m mZ) { ix h.Mons m mZ with Guests:=up (ix h.Mons m mZ).Guests g y }:=⟨rfl,rfl⟩;refine ⟨zwd S hm kp (zkz X kp (zbB _ _ _) rfl rfl X.outs X.pend X.tr X.own fun z hz=>?_) (zbB _ _ _) (fun j hj=>?_) rfl,fun i=>?_,zbB _ _ _⟩
 .rcases qY hz with h|h
  .exact X.gs z h
  .rw [h];exact ztb.2 k.ok
 .show (ix (up (ix h.Mons m mZ).Guests g y) j gZ).Live=_
  by_cases e:g=j
  .subst e;rw[zZ hg];exact k.live
  .rw [zbm (zB.1 hg).1 (zB.1 hj).1 e]
 .refine (zuC (h:=h) (r:=zfv h m g y) hm rfl rfl kp i).trans ?_
  by_cases e:i=m
  .subst e;rw[zbl.2 rfl,cond_true,cond_true];unfold zdC zy;rw[hm];rfl
  .rw [zbN.2 e];rfl
theorem zWz {h:Host}(S:Safe h){m:Int}(hm:hasB m (ln h.Mons)=true){y:Mon}(kp:KeepP (ix h.Mons m mZ) y)(hy:MOk y)(hg:y.Guests=(ix h.Mons m mZ).Guests)(ht:y.Tables=(ix h.Mons m mZ).Tables) :
 SimT h { h with Mons:=up h.Mons m y } m (fun b=>{ b with Outs:=y.Outs,Pending:=y.Pending }):=by
 refine ⟨zwd S hm kp hy (by rw[hg]) (fun j _=>by rw[hg]) ht,fun i=>?_,zbB _ _ _⟩
 refine (zuC (h:=h) (r:={ h with Mons:=up h.Mons m y }) hm rfl rfl kp i).trans ?_
 by_cases e:i=m
 .subst e;rw[zbl.2 rfl,cond_true,cond_true];unfold zy;rw[hm,hg];rfl
 .rw [zbN.2 e];rfl
theorem ze3 {h:Host}{m:Int}(hm:hasB m (ln h.Mons)=true):zy h m=⟨zcf h m 8 0,(ix h.Mons m mZ).Guests,(ix h.Mons m mZ).Outs,(ix h.Mons m mZ).Pending⟩:=by
 unfold zy;rw[hm];rfl
theorem z4a {h:Host}(S:Safe h){m:Int}(hm:hasB m (ln h.Mons)=true):SimT h (owned h m) m id:=by
 unfold owned;cases hc:ilt (ix h.Mons m mZ).Own 1000000000 with
 | false=>exact SimT.refl S m
 | true =>
  rw[cond_true];have X:=S.ok.mon hm;have ho:=zcu.1 X.own;have hlt:(ix h.Mons m mZ).Own<1000000000:=qD hc;have kp:KeepP (ix h.Mons m mZ) { ix h.Mons m mZ with Own:=zG .i64 (ix h.Mons m mZ).Own 1 }:=⟨rfl,rfl⟩;refine (zWz S hm kp (zkz X kp rfl rfl rfl X.outs X.pend X.tr ?_ X.gs) rfl rfl).congr ?_
  .show win (zG .i64 (ix h.Mons m mZ).Own 1) 0 1000000000=true
   rw[zP7 (by omega) (by omega),zcu];omega
  .rw [ze3 hm];rfl
theorem z1z {h:Host}(S:Safe h){m:Int}(hm:hasB m (ln h.Mons)=true)(n:Int):SimT h (zhi h m n) m (fun b=>ziC b n):=by
 unfold zhi;have X:=S.ok.mon hm;cases hc:ilt (ln (ix h.Mons m mZ).Outs) 40 with
 | false =>
  refine (SimT.refl S m).congr ?_;rw[ze3 hm];unfold ziC;rw[hc];rfl
 | true =>
  rw[cond_true];have hlt:ln (ix h.Mons m mZ).Outs<40:=qD hc;have kp:KeepP (ix h.Mons m mZ) { ix h.Mons m mZ with Outs:=ap (ix h.Mons m mZ).Outs [n] }:=⟨rfl,rfl⟩;refine (zWz S hm kp (zkz X kp rfl rfl rfl ?_ X.pend X.tr X.own X.gs) rfl rfl).congr ?_
  .show (ap (ix h.Mons m mZ).Outs [n]).length<=40
   unfold ln ap at *;simp;omega
  .rw [ze3 hm];unfold ziC;rw[hc];rfl
theorem ztE {h:Host}{m g:Int}(hm:hasB m (ln h.Mons)=true)(hg:hasB g (ln (ix h.Mons m mZ).Guests)=true):gAt (zy h m) g=gOf h m g:=by
 rw[ze3 hm];unfold gAt
 show (cond (hasB g (ln (ix h.Mons m mZ).Guests)) _ _)=_
 rw[hg];rfl
theorem zP8 {x:Guest}(h:zF x=3\/zF x=4\/zF x=5\/zF x=6):(zbY x.Prog x.Pc).Op=zF x:=by
 unfold zF at h ⊢;cases hc:canRun x with
 | false=>simp[hc]at h
 | true =>
  simp only[hc,cond_true]at h ⊢;cases ht:zfM x with
  | true=>simp[ht]at h
  | false =>
   simp only[ht,cond_false]at h ⊢;unfold zrm at h ⊢
   by_cases e3:(zbY x.Prog x.Pc).Op=3
   .rw [e3];rfl
   .rw [zbN.2 e3,cond_false]at h ⊢
    by_cases e4:(zbY x.Prog x.Pc).Op=4
    .rw [e4];rfl
    .rw [zbN.2 e4,cond_false]at h ⊢
     by_cases e5:(zbY x.Prog x.Pc).Op=5
     .rw [e5];rfl
     .rw [zbN.2 e5,cond_false]at h ⊢
      by_cases e6:(zbY x.Prog x.Pc).Op=6
      .rw [e6];rfl
      .rw [zbN.2 e6,cond_false]at h ⊢;cases h7:ieq (zbY x.Prog x.Pc).Op 7<;>simp [h7]at h
theorem z8f {x:Guest}(X:GOk x){w:Int}(hw:zF x=w)(h:w=3\/w=4):0<=address x/\address x<=15:=by
 have e:address x=(zbY x.Prog x.Pc).X:=by
  unfold address;rcases h with e|e
  .rw [hw,e];rfl
  .rw [hw,e];rfl
 rw[e];exact zbaj (zJc X.prog _) (by rw[zP8 (by omega),hw];exact h)
theorem z8g {a:Int}(h0:0<=a)(h1:a<=15):win (zX a) 0 3=true/\hasB (zcG a) 4=true :=
 zKO (n:=16) (P:=fun a=>win (zX a) 0 3=true/\hasB (zcG a) 4=true) (by decide) h0 (by omega)
theorem z0o {p:Int}(h:win p 0 3=true)(w:Bool):zhb (znn p w)=true:=by
 unfold zhb znn;simp[ieq,h]
theorem z2J {n:Int}(h:win n 0 99=true):zhb (zpk n)=true:=by
 unfold zhb zpk;simp[ieq,h]
theorem z5o {n:Int}(h:win n 0 99=true):zhb (ztk n)=true:=by
 unfold zhb ztk;simp[ieq,h]
theorem z5u {x:Guest}(X:GOk x)(t:Int){w:Int}(hw:zF x=w):GKeep x (zeV x t w):=by
 have hi:=zJc X.prog x.Pc;unfold zeV
 by_cases e6:w=6
 .rw [zbl.2 e6];exact zi1 X (z2J (zcu.2 (z2Z hi (by rw[zP8 (by omega),hw];omega))))
 .rw [zbN.2 e6,cond_false]
  by_cases e5:w=5
  .rw [zbl.2 e5];cases zc8 t 1 with
   | true=>exact zi1 X (z5o (zcu.2 (z2Z hi (by rw[zP8 (by omega),hw];omega))))
   | false=>rw[e5];exact zi0 X
  .rw [zbN.2 e5];rw[Bool.false_and,cond_false];cases hc:(ieq w 7&&zc8 t 2) with
   | true=>exact zi1 X rfl
   | false =>
    rw[cond_false];cases ieq w 7
    .exact zi0 X
    .exact zY6 X
theorem zZf {α:Type}(g:Int):hasB g (ln ([]:List α))=false:=by
 cases h:hasB g (ln ([]:List α)) with
 | false=>rfl
 | true=>have:=zB.1 h;simp[ln] at this;omega
theorem z4D {m:List (List Int)}(h:∀c∈m,zb6 c=true)(p c:Int):win (cellAt m p c) 0 99=true:=by
 unfold cellAt zfz;cases hp:hasB p (ln m) with
 | false=>rfl
 | true =>
  rw[cond_true];cases hc:hasB c (ln (ix m p [])) with
  | false=>rfl
  | true =>
   rw[cond_true];exact (zsJ.1 (h _ (zlo hp []))).1 _ (zlo hc 0)
theorem HOk.seenG {h:Host}(H:HOk h){m g:Int}(hm:hasB m (ln h.Mons)=true)(hg:hasB g (ln (ix h.Mons m mZ).Guests)=true):GOk (gOf h m g):=H.guest hm hg
theorem zWJ {h:Host}(S:Safe h){m g:Int}(hm:hasB m (ln h.Mons)=true)(hg:hasB g (ln (ix h.Mons m mZ).Guests)=true)(w:Bool)(hw:zF (gOf h m g)=bif w then 4 else 3) :
 SimT h (zgu (zho h m g (gOf h m g) w) m g (gOf h m g) w) m (fun b=>zj4 b g (gOf h m g) w):=by
 have X:=S.ok.seenG hm hg;have ha:=z8f X hw (by cases w<;>simp)
 have hap:=z8g ha.1 ha.2;have hn:zbO w=1\/zbO w=2:=by cases w<;>simp [zbO]
 unfold zgu zho;cases hl:zbM h m g (zX (address (gOf h m g))) (zbO w) with
 | false =>
  have e:lookOf h h.Buffer m g (zX (address (gOf h m g))) (zbO w) false=(h,-1,false):=by unfold lookOf;rw[hl];rfl
  have hw2:zdZ (gOf h m g).Live (zX (address (gOf h m g))) (zbO w)=false:=by
   cases hc:zdZ (gOf h m g).Live (zX (address (gOf h m g))) (zbO w) with
   | false=>rfl
   | true=>exact Bool.noConfusion (hl.symm.trans (zqp.2 ⟨zjr.2 ⟨S.ok,hm,hg⟩,hn,hc⟩))
  rw[e];refine (zp1 S hm hg (zi1 X (z0o hap.1 w))).congr ?_;unfold zj4;rw[hw2];rfl
 | true =>
  obtain ⟨L,hL⟩:=zQ3 S false hl S.rt.e1;obtain ⟨_,_,hwk⟩:=zqp.1 hl;have hwk':zdZ (gOf h m g).Live (zX (address (gOf h m g))) (zbO w)=true:=hwk;have W:=walked X hwk;rw[hL,cond_true];have S1:=L.op.safe S;have hm1:hasB m (ln (lookOf h h.Buffer m g (zX (address (gOf h m g))) (zbO w) false).1.Mons)=true:=by rw[L.op.like.has];exact hm
  have hgs:=L.op.like.g m hm;have q8:hasB (zbV (zb5 h m g) (zX (address (gOf h m g))) (zbO w)) 8=true:=W.q8;obtain ⟨k1,k2⟩:=zwe S1 hm1 q8 L.inn L.ne (zcG (address (gOf h m g))) (gOf h m g).A;rw[L.op.like.seen m] at k2;cases w with
  | true =>
   rw[cond_true];have k0:=L.op.sim S m;have hmm:hasB m (ln ({ (lookOf h h.Buffer m g (zX (address (gOf h m g))) (zbO true) false).1 with Memory:=zbu (lookOf h h.Buffer m g (zX (address (gOf h m g))) (zbO true) false).1.Memory (lookOf h h.Buffer m g (zX (address (gOf h m g))) (zbO true) false).2.1 (zcG (address (gOf h m g))) (gOf h m g).A }:Host).Mons)=true:=hm1;have hgg:hasB g (ln (ix ({ (lookOf h h.Buffer m g (zX (address (gOf h m g))) (zbO true) false).1 with Memory:=zbu (lookOf h h.Buffer m g (zX (address (gOf h m g))) (zbO true) false).1.Memory (lookOf h h.Buffer m g (zX (address (gOf h m g))) (zbO true) false).2.1 (zcG (address (gOf h m g))) (gOf h m g).A }:Host).Mons m mZ).Guests)=true:=by
    show hasB g (ln (ix (lookOf h h.Buffer m g (zX (address (gOf h m g))) (zbO true) false).1.Mons m mZ).Guests)=true
    rw[hgs];exact hg
   have kk:GKeep (gOf { (lookOf h h.Buffer m g (zX (address (gOf h m g))) (zbO true) false).1 with Memory:=zbu (lookOf h h.Buffer m g (zX (address (gOf h m g))) (zbO true) false).1.Memory (lookOf h h.Buffer m g (zX (address (gOf h m g))) (zbO true) false).2.1 (zcG (address (gOf h m g))) (gOf h m g).A } m g) (zbJ (gOf h m g)):=by
    have:gOf { (lookOf h h.Buffer m g (zX (address (gOf h m g))) (zbO true) false).1 with Memory:=zbu (lookOf h h.Buffer m g (zX (address (gOf h m g))) (zbO true) false).1.Memory (lookOf h h.Buffer m g (zX (address (gOf h m g))) (zbO true) false).2.1 (zcG (address (gOf h m g))) (gOf h m g).A } m g=gOf h m g:=by
     show ix (ix (lookOf h h.Buffer m g (zX (address (gOf h m g))) (zbO true) false).1.Mons m mZ).Guests g gZ=_
     rw[hgs];rfl
    rw[this];exact zi0 X
   refine ((k0.trans k1).trans (zp1 k1.safe hmm hgg kk)).congr ?_;unfold zj4;rw[hwk'];rfl
  | false =>
   rw[cond_false];have k0:=L.op.sim S m;have hgg:hasB g (ln (ix (lookOf h h.Buffer m g (zX (address (gOf h m g))) (zbO false) false).1.Mons m mZ).Guests)=true:=by rw[hgs];exact hg
   have kk:GKeep (gOf (lookOf h h.Buffer m g (zX (address (gOf h m g))) (zbO false) false).1 m g) (loaded (gOf h m g) (cellAt (lookOf h h.Buffer m g (zX (address (gOf h m g))) (zbO false) false).1.Memory (lookOf h h.Buffer m g (zX (address (gOf h m g))) (zbO false) false).2.1 (zcG (address (gOf h m g))))):=by
    have:gOf (lookOf h h.Buffer m g (zX (address (gOf h m g))) (zbO false) false).1 m g=gOf h m g:=by
     show ix (ix (lookOf h h.Buffer m g (zX (address (gOf h m g))) (zbO false) false).1.Mons m mZ).Guests g gZ=_
     rw[hgs];rfl
    rw[this];exact z2T X (z4D S1.ok.pgs _ _)
   refine (k0.trans (zp1 S1 hm1 hgg kk)).congr ?_;unfold zj4;rw[hwk',k2];rfl
theorem z5t {h r:Host}{m g:Int}(e:(ix r.Mons m mZ).Guests=(ix h.Mons m mZ).Guests):gOf r m g=gOf h m g:=by unfold gOf;rw[e]
theorem z9n (h:Host)(m:Int)(hm:hasB m (ln h.Mons)=true):(ix (owned h m).Mons m mZ).Guests=(ix h.Mons m mZ).Guests:=by
 unfold owned;cases ilt (ix h.Mons m mZ).Own 1000000000 with
 | false=>rfl
 | true=>show (ix (up h.Mons m _) m mZ).Guests=_;rw[zZ hm]
theorem z5M (h:Host)(m n:Int)(hm:hasB m (ln h.Mons)=true):(ix (zhi h m n).Mons m mZ).Guests=(ix h.Mons m mZ).Guests:=by
 unfold zhi;cases ilt (ln (ix h.Mons m mZ).Outs) 40 with
 | false=>rfl
 | true=>show (ix (up h.Mons m _) m mZ).Guests=_;rw[zZ hm]
theorem z4c {h:Host}(S:Safe h){m:Int}(hm:hasB m (ln h.Mons)=true)(x:Guest)(w:Int):SimT h (zd5 h m x w) m id/\(ix (zd5 h m x w).Mons m mZ).Guests=(ix h.Mons m mZ).Guests:=by
 unfold zd5;cases (cond (ine w 6) (ieq (zjd (ix h.Mons m mZ).Traps x.Ctl.Traps (zeT w)) 2) false) with
 | false=>exact ⟨SimT.refl S m,rfl⟩
 | true=>exact ⟨z4a S hm,z9n h m hm⟩
theorem z4b {h:Host}(S:Safe h){m:Int}(hm:hasB m (ln h.Mons)=true)(x:Guest)(w:Int):SimT h (zf1 h m x w) m (fun b=>bif (cond (zgo x.Ctl.Traps w) (ieq w 5) false) then ziC b (zbY x.Prog x.Pc).X else b)/\(ix (zf1 h m x w).Mons m mZ).Guests=(ix h.Mons m mZ).Guests:=by
 unfold zf1;cases (cond (zgo x.Ctl.Traps w) (ieq w 5) false) with
 | false=>exact ⟨SimT.refl S m,rfl⟩
 | true=>exact ⟨z1z S hm _,z5M h m _ hm⟩
theorem zEe {h:Host}(S:Safe h){m g:Int}(hm:hasB m (ln h.Mons)=true)(hg:hasB g (ln (ix h.Mons m mZ).Guests)=true){w:Int}(hw:zF (gOf h m g)=w) :
 SimT h (zjn h m g (gOf h m g) w) m (fun b=>zp3 b g (gOf h m g) w):=by
 have X:=S.ok.seenG hm hg;obtain ⟨k0,e0⟩:=z4c S hm (gOf h m g) w;have hm0:hasB m (ln (zd5 h m (gOf h m g) w).Mons)=true:=by rw[k0.has];exact hm
 obtain ⟨k1,e1⟩:=z4b k0.safe hm0 (gOf h m g) w;have hm1:hasB m (ln (zf1 (zd5 h m (gOf h m g) w) m (gOf h m g) w).Mons)=true:=by rw[k1.has];exact hm0
 have hg1:hasB g (ln (ix (zf1 (zd5 h m (gOf h m g) w) m (gOf h m g) w).Mons m mZ).Guests)=true:=by rw[e1,e0];exact hg
 have kk:GKeep (gOf (zf1 (zd5 h m (gOf h m g) w) m (gOf h m g) w) m g) (zeV (gOf h m g) (gOf h m g).Ctl.Traps w):=by
  rw[z5t (e1.trans e0)];exact z5u X _ hw
 exact ((k0.trans k1).trans (zp1 k1.safe hm1 hg1 kk)).congr rfl
theorem z1L (x:Guest):zF x=0\/zF x=1\/zF x=2\/zF x=3\/zF x=4\/zF x=5\/zF x=6\/zF x=7:=by
 unfold zF zrm;cases canRun x<;>cases zfM x<;>cases ieq (zbY x.Prog x.Pc).Op 3<;>cases ieq (zbY x.Prog x.Pc).Op 4<;>cases ieq (zbY x.Prog x.Pc).Op 5<;>cases ieq (zbY x.Prog x.Pc).Op 6<;>cases ieq (zbY x.Prog x.Pc).Op 7<;>simp
theorem zTY {h:Host}(H:HOk h)(m g:Int):zgh (zy h m) g=bif zbF h m g then !ieq (zF (gOf h m g)) 0 else false:=by
 unfold zgh zbF;rw[zjL.2 H,cond_true];cases hm:hasB m (ln h.Mons) with
 | false =>
  have:(zy h m).Guests=[]:=by unfold zy;rw[hm];rfl
  rw[this,zZf];rfl
 | true =>
  rw[cond_true,zys H hm,cond_true];have:(zy h m).Guests=(ix h.Mons m mZ).Guests:=by rw[ze3 hm]
  rw[this];cases hg:hasB g (ln (ix h.Mons m mZ).Guests) with
  | false=>rfl
  | true=>rw[cond_true,cond_true,ztE hm hg]
theorem step_ok {h:Host}(S:Safe h)(m g:Int):SimT h (zbh h m g).1 m (fun b=>zeq b g)/\(zbh h m g).2=zgh (zy h m) g:=by
 have hc:=zTY S.ok m g;unfold zbh;cases hh:zbF h m g with
 | false =>
  rw[hh,cond_false]at hc;refine ⟨(SimT.refl S m).congr ?_,hc.symm⟩;unfold zeq;rw[hc];rfl
 | true =>
  rw[hh,cond_true]at hc;rw[cond_true];obtain ⟨_,hm,hg⟩:=zjr.1 hh;have X:=S.ok.seenG hm hg;have hgs:=ztE hm hg;have hf:∀w,zF (gOf h m g)=w->w≠0->zeq (zy h m) g=stepped (zy h m) g (gOf h m g) w:=by
   intro w hw h0;unfold zeq;rw[hc,hw,zbN.2 h0,hgs,hw];rfl
  rcases z1L (gOf h m g) with e|e|e|e|e|e|e|e
  .rw [e];rw[e]at hc;refine ⟨(SimT.refl S m).congr ?_,hc.symm⟩;unfold zeq;rw[hc];rfl
  .rw [e]at hc ⊢;exact ⟨(zp1 S hm hg (zNC X)).congr (hf 1 e (by decide)).symm,hc.symm⟩
  .rw [e]at hc ⊢;exact ⟨(zp1 S hm hg (z0z X)).congr (hf 2 e (by decide)).symm,hc.symm⟩
  .rw [e]at hc ⊢;exact ⟨(zWJ S hm hg false e).congr (hf 3 e (by decide)).symm,hc.symm⟩
  .rw [e]at hc ⊢;exact ⟨(zWJ S hm hg true e).congr (hf 4 e (by decide)).symm,hc.symm⟩
  .rw [e]at hc ⊢;exact ⟨(zEe S hm hg e).congr (hf 5 e (by decide)).symm,hc.symm⟩
  .rw [e]at hc ⊢;exact ⟨(zEe S hm hg e).congr (hf 6 e (by decide)).symm,hc.symm⟩
  .rw [e]at hc ⊢;exact ⟨(zEe S hm hg e).congr (hf 7 e (by decide)).symm,hc.symm⟩
structure BackOk (b c:Bare):Prop where
 m:c.Memory=b.Memory
 o:c.Outs=b.Outs
 n:c.Guests.length=b.Guests.length
 g:∀j,hasB j (ln b.Guests)=true->GKeep (ix b.Guests j gZ) (ix c.Guests j gZ)
 p:zcQ b.Pending=true->zcQ c.Pending=true
theorem z6e {h:Host}(S:Safe h){m:Int}(hm:hasB m (ln h.Mons)=true){c:Bare}(k:BackOk (zy h m) c):SimT h (zcW h m c) m (fun _=>c):=by
 have X:=S.ok.mon hm;have hf:=ze3 hm;have hG:(zy h m).Guests=(ix h.Mons m mZ).Guests:=by rw[hf]
 have hn:c.Guests.length=(ix h.Mons m mZ).Guests.length:=by rw[k.n,hG]
 have hg:∀j,hasB j (ln (ix h.Mons m mZ).Guests)=true->GKeep (ix (ix h.Mons m mZ).Guests j gZ) (ix c.Guests j gZ):=fun j hj=>by
  have:=k.g j (by rw[hG];exact hj)
  rwa [hG] at this
 have kp:KeepP (ix h.Mons m mZ) (zuY (ix h.Mons m mZ) c):=⟨rfl,rfl⟩;have hp:zcQ c.Pending=true:=k.p (by rw[hf];exact X.pend)
 refine ⟨zwd S hm kp (zkz X kp hn rfl rfl X.outs hp X.tr X.own fun z hz=>?_) hn (fun j hj=>(hg j hj).live) rfl,fun i=>?_,zbB _ _ _⟩
 .obtain ⟨j,hj,rfl⟩:=zVU hz gZ;exact ztb.2 (hg j (by unfold ln at hj ⊢;rw[<- hn];exact hj)).ok
 .refine (zuC (h:=h) (r:=zcW h m c) hm rfl rfl kp i).trans ?_
  by_cases e:i=m
  .subst e;rw[zbl.2 rfl,cond_true,cond_true]
   show Bare.mk (zy h i).Memory c.Guests (ix h.Mons i mZ).Outs c.Pending=c
   have h1:=k.m;have h2:=k.o;rw[hf]at h2;cases c
   simp_all
  .rw [zbN.2 e];rfl
theorem seen_none {h:Host}{m:Int}(hm:hasB m (ln h.Mons)=false):zy h m=⟨[],[],[],0⟩:=by unfold zy;rw[hm];rfl
theorem zti:zbC ⟨[],[],[],0⟩=false:=by decide
theorem zts {b:Bare}(h:zbC b=false)(g:Int):zb0 b g=false:=by unfold zb0;rw[h];rfl
theorem zhG {b:Bare}(h:zbC b=true):BackOk b b:=⟨rfl,rfl,rfl,fun j hj=>⟨ztb.1 (by
 unfold zbC at h;rw[zbZ,qO]at h;exact h.1 _ (zlo hj _)),rfl⟩,id⟩
theorem z1U {b:Bare}(h:zbC b=true){g:Int}(hg:hasB g (ln b.Guests)=true){y:Guest}(k:GKeep (gAt b g) y):BackOk b (zdC b g y):=by
 have e:gAt b g=ix b.Guests g gZ:=by unfold gAt;rw[hg];rfl
 refine ⟨rfl,rfl,zbB _ _ _,fun j hj=>?_,id⟩
 show GKeep _ (ix (up b.Guests g y) j gZ)
 by_cases hc:g=j
 .subst hc;rw[zZ hg,<- e];exact k
 .rw [zbm (zB.1 hg).1 (zB.1 hj).1 hc];exact (zhG h).g j hj
theorem zq2 {b:Bare}(h:zbC b=true){g:Int}{c:Bool}{y:Guest}(k:hasB g (ln b.Guests)=true->c=true->GOk (gAt b g)->GKeep (gAt b g) y):BackOk b (chg b g c y):=by
 unfold chg zb0;rw[h,cond_true];cases hg:hasB g (ln b.Guests) with
 | false=>exact zhG h
 | true =>
  rw[cond_true];cases c with
  | false=>exact zhG h
  | true =>
   refine z1U h hg (k hg rfl ?_);have:=(zhG h).g g hg;unfold gAt;rw[hg];exact this.ok
theorem zpH {h:Host}(S:Safe h)(m:Int){F:Bare->Bare}(hF:∀b,zbC b=true->BackOk b (F b))(h0:F ⟨[],[],[],0⟩=⟨[],[],[],0⟩):SimT h (zeH h m (F (zy h m))) m F:=by
 unfold zeH zcx;rw[zjL.2 S.ok,cond_true];cases hm:hasB m (ln h.Mons) with
 | false =>
  refine (SimT.refl S m).congr ?_;rw[seen_none hm];exact h0.symm
 | true=>exact (z6e S hm (hF _ (zys S.ok hm))).congr rfl
theorem zkH {h:Host}(S:Safe h)(m:Int){t:Bare->Bool}(h0:t ⟨[],[],[],0⟩=false):zd4 h m (t (zy h m))=t (zy h m):=by
 unfold zd4 zcx;rw[zjL.2 S.ok,cond_true];cases hm:hasB m (ln h.Mons) with
 | false=>rw[cond_false,seen_none hm,h0]
 | true=>rfl
theorem zpl (g:Int)(c:Bool)(y:Guest):chg ⟨[],[],[],0⟩ g c y=⟨[],[],[],0⟩:=by unfold chg;rw[zts zti];rfl
theorem ziY (g:Int)(c:Bool):zbR ⟨[],[],[],0⟩ g c=false:=by unfold zbR;rw[zts zti];rfl
theorem zWL {t:List Slot}{n q:Int}(h:zcF t n q=true){p:Int}{s:Slot}(hs:zdD s q=true):zcF (zed t p s) n q=true:=by
 unfold zed;cases hasB p (ln t) with
 | false=>exact h
 | true =>
  rw[cond_true];rw[zqZ]at h ⊢;rw[zdH];refine ⟨fun x hx=>?_,h.2⟩;rcases qY hx with h1|h1
  .exact h.1 x h1
  .rw [h1];exact hs
theorem z8W {x:Guest}(X:GOk x){p:Int}{s:Slot}(h:zsh p s=true):GKeep x (zzO x p s):=by
 unfold zsh at h;rw[zbZ]at h;exact ⟨⟨X.prog,X.a,X.pc,zWL X.w h.2,X.l,X.ctl,X.pend,X.ex,X.seen⟩,rfl⟩
theorem z8T {x:Guest}(X:GOk x){v:Int}(h:zrL x v=true):GKeep x (zwm x v):=by
 unfold zrL at h;rw[zbZ]at h;unfold zwm;cases ieq x.Exit.Kind 2 with
 | true =>
  rw[cond_true];have h1:=zi1 (z0x X h.1) (e:=zkC) rfl;have h2:=zi0 h1.ok;exact ⟨h2.ok,h2.live⟩
 | false =>
  rw[cond_false];have h1:=zi1 X (e:=zkC) rfl;have h2:=zi0 h1.ok;exact ⟨h2.ok,h2.live.trans h1.live⟩
theorem z8V {x:Guest}(X:GOk x):GKeep x (zwH x):=by
 unfold zwH;have h1:=zi1 X (e:=zkC) rfl;cases ieq x.Exit.Kind 1 with
 | true=>exact h1
 | false =>
  have h2:=zY6 h1.ok;exact ⟨h2.ok,h2.live.trans h1.live⟩
theorem zY7 {x:Guest}(X:GOk x)(n:Int):GKeep x (zm5 x n):=zY8 X (zRg X.pend n)
theorem z8U {x:Guest}(X:GOk x){c:Ctl}(h:zhn c=true):GKeep x (zHI x c):=⟨⟨X.prog,X.a,X.pc,X.w,X.l,h,X.pend,X.ex,X.seen⟩,rfl⟩
theorem zCf (n:Int):∀(ks:List Int) (b:Bare) (l:List Guest),(∀k∈ks,hasB k (ln b.Guests)=true)->BackOk b { b with Guests:=l }->BackOk b { b with Guests:=zlu n ks l }
 | [],b,l,_,h=>h
 | k :: ks,b,l,hk,h=>by
  show BackOk b { b with Guests:=zlu n ks (zEL n l k) }
  refine zCf n ks b _ (fun j hj=>hk j (jA _ hj)) ⟨h.m,h.o,by show (up l k _).length=_;rw[zbB];exact h.n,fun j hj=>?_,h.p⟩
  show GKeep _ (ix (up l k _) j gZ)
  have hl:l.length=b.Guests.length:=h.n;have hkl:hasB k (ln l)=true:=by unfold ln;rw[hl];exact hk k jS
  by_cases e:k=j
  .subst e;rw[zZ hkl];have h1:=h.g k hj;have h2:=zY7 h1.ok n;exact ⟨h2.ok,h2.live.trans h1.live⟩
  .rw [zbm (zB.1 hkl).1 (zB.1 hj).1 e];exact h.g j hj
theorem zZX {b:Bare}(h:zbC b=true)(n:Int):BackOk b (zje b n):=by
 unfold zje zeS zEM;rw[h,cond_true];cases hasB n 8 with
 | false=>exact zhG h
 | true =>
  rw[cond_true];cases ieq (ln (zd9 b.Guests n)) 0 with
  | true =>
   have:=zhG h;exact ⟨rfl,rfl,rfl,this.g,fun hp=>zRg hp n⟩
  | false =>
   rw[cond_false];refine zCf n _ b b.Guests (fun k hk=>?_) (zhG h);unfold zd9 at hk;obtain ⟨j,hj,rfl,_⟩:=(zIM (d:=gZ)).1 hk;exact zB.2 ⟨by omega,by unfold ln;omega⟩
theorem z1T {b:Bare}(h:zbC b=true):BackOk b (zlS b):=by
 unfold zlS;rw[h,cond_true];exact ⟨rfl,rfl,rfl,(zhG h).g,fun hp=>zRh hp⟩
theorem z5T {h:Host}(S:Safe h)(m p c v:Int):SimT h (zmY h m p c v) m (fun b=>zTt b p c v)/\ze7 h m p c v=zxF (zy h m) p c v:=by
 have e:ze7 h m p c v=zxF (zy h m) p c v:=by
  unfold ze7 zxF zcg z7S;rw[zjL.2 S.ok,cond_true];cases hm:hasB m (ln h.Mons) with
  | false=>rw[seen_none hm,zti];rfl
  | true=>rw[zys S.ok hm,cond_true];rfl
 refine ⟨?_,e⟩;unfold zmY;cases hc:ze7 h m p c v with
 | false =>
  refine (SimT.refl S m).congr ?_;unfold zTt;rw[<- e,hc];rfl
 | true =>
  rw[cond_true];have hc':=hc;unfold ze7 at hc';rw[zbZ,zbZ]at hc';obtain ⟨h1,_,_⟩:=hc';obtain ⟨_,hm,hp⟩:=zot.1 h1;have M:=zRa S.ok (m:=m) (p:=p) 2 hm hp;have k0:=M.op.sim S m;have hm1:hasB m (ln (mended h m p 2).Mons)=true:=by rw[k0.has];exact hm
  obtain ⟨k1,_⟩:=zwe k0.safe hm1 hp rfl M.inn c v;refine (k0.trans k1).congr ?_;unfold zTt;rw[<- e,hc];rfl
theorem z3p {h:Host}(S:Safe h)(m g page need:Int):zbM h m g page need=(cond (zb0 (zy h m) g) (cond (zfA need) (zdZ (gAt (zy h m) g).Live page need) false) false):=by
 have e:zbF h m g=zb0 (zy h m) g:=by
  unfold zbF zb0;rw[zjL.2 S.ok,cond_true];cases hm:hasB m (ln h.Mons) with
  | false=>rw[seen_none hm,zti,cond_false,cond_false]
  | true =>
   rw[cond_true,zys S.ok hm,cond_true];have:(zy h m).Guests=(ix h.Mons m mZ).Guests:=by rw[ze3 hm]
   rw[this]
 unfold zbM;rw[<- e];cases hg:zbF h m g with
 | false=>rw[cond_false,cond_false]
 | true =>
  obtain ⟨_,hm,hg⟩:=zjr.1 hg;have:(gAt (zy h m) g).Live=zb5 h m g:=by rw[ztE hm hg];rfl
  rw[this]
theorem zHW {h:Host}(S:Safe h)(m g a n:Int)(hn:n=1\/n=2):zn0 (zy h m) g a n=bif win a 0 15 then zbM h m g (zX a) n else false:=by
 rw[z3p S];unfold zn0;rw[zGQ.2 hn,cond_true];cases zb0 (zy h m) g<;>cases win a 0 15<;>rfl
theorem zUh {h:Host}(S:Safe h){m g a n:Int}(hn:n=1\/n=2)(hd:zn0 (zy h m) g a n=true) :
 Looked h (zCS h m g a n).1 m g (zX a) n (zEv (zy h m) g a n) (zCS h m g a n).2.1/\hasB m (ln h.Mons)=true/\hasB (zEv (zy h m) g a n) 8=true:=by
 rw[zHW S m g a n hn,zbZ]at hd;obtain ⟨L,_⟩:=zQ3 S true hd.2 S.rt.e2;obtain ⟨h1,_,hw⟩:=zqp.1 hd.2;obtain ⟨_,hm,hg⟩:=zjr.1 h1;have e:zEv (zy h m) g a n=zbV (zb5 h m g) (zX a) n:=by
  unfold zEv;rw[ztE hm hg];rfl
 rw[e];exact ⟨L,hm,(walked (S.ok.guest hm hg) hw).q8⟩
theorem zbae {h:Host}(S:Safe h)(m g a v:Int):SimT h (zpq h m g a v) m (fun b=>z0l b g a v)/\zgI h m g a v=zyN (zy h m) g a v:=by
 have e:zgI h m g a v=zyN (zy h m) g a v:=by
  unfold zgI zyN;rw[zHW S m g a 2 (.inr rfl)];cases win a 0 15<;>cases win v 0 99<;>cases zbM h m g (zX a) 2<;>rfl
 refine ⟨?_,e⟩;unfold zpq;cases hc:zgI h m g a v with
 | false =>
  refine (SimT.refl S m).congr ?_;unfold z0l;rw[<- e,hc];rfl
 | true =>
  rw[cond_true];have hd:zn0 (zy h m) g a 2=true:=by
   have:=e.symm.trans hc;unfold zyN at this;exact (zbZ.1 this).1
  obtain ⟨L,hm,hq⟩:=zUh S (.inr rfl) hd;have k0:=L.op.sim S m;obtain ⟨k1,_⟩:=zwe k0.safe (by rw[k0.has];exact hm) hq L.inn L.ne (zcG a) v
  refine (k0.trans k1).congr ?_;unfold z0l;rw[<- e,hc];rfl
theorem z9p {h:Host}(S:Safe h)(m g a:Int):SimT h (zmZ h m g a) m id/\zfO h m g a=zn0 (zy h m) g a 1/\zrf h m g a=zTx (zy h m) g a:=by
 have e:zfO h m g a=zn0 (zy h m) g a 1:=by
  unfold zfO;rw[zHW S m g a 1 (.inl rfl)]
 unfold zmZ zrf zTx;rw[e];cases hd:zn0 (zy h m) g a 1 with
 | false=>exact ⟨SimT.refl S m,rfl,rfl⟩
 | true =>
  obtain ⟨L,hm,hq⟩:=zUh S (.inl rfl) hd;have k0:=L.op.sim S m;obtain ⟨_,k2⟩:=zwe k0.safe (by rw[k0.has];exact hm) hq L.inn L.ne (zcG a) 0
  rw[L.op.like.seen m] at k2;exact ⟨k0,rfl,k2⟩
theorem z3b {k:Kept}{inner outer:List Slot}(h:KOk k inner outer)(p:Int)(s:Slot):KOk (zbL k p) (zed inner p s) outer:=by
 have hl:=zkm k p;have hw:(zed inner p s).length=inner.length:=by unfold zed;cases hasB p (ln inner)<;>simp [zbB]
 refine ⟨by rw[hl.1,hw,h.l1],by rw[hl.2,hw,h.l2],fun i hi=>?_⟩
 have hi1:hasB i (ln inner)=true:=by unfold ln at hi ⊢;rwa [<- hw]
 have hi':hasB i (ln k.Known)=true:=by unfold ln at hi1 ⊢;rwa [h.l1]
 have ha:=zwt (q:=p) (by rw[h.l1,h.l2]) hi'
 rw[ha.1,ha.2]
 by_cases e:p=i
 .subst e;rw[zbl.2 rfl];rfl
 .rw [zbN.2 e,cond_false,cond_false,h.at' i hi1];have:ix (zed inner p s) i sZ=ix inner i sZ:=by
   unfold zed;cases hp:hasB p (ln inner) with
   | false=>rfl
   | true=>exact zbm (zB.1 hp).1 (zB.1 hi1).1 e _ _
  rw[this]
theorem zbaB {t m g:Int}(h1:zdn t=m)(h2:zec t=g)(hm:0<=m):t=zdG m g:=by
 subst h1;subst h2
 by_cases h:1<=t/\t<=6
 .have e:t=1\/t=2\/t=3\/t=4\/t=5\/t=6:=by omega
  rcases e with rfl|rfl|rfl|rfl|rfl|rfl<;>decide
 .exfalso;have:zdn t = -1:=by
   unfold zdn ige ile;rw[show (decide (t≥1)&&decide (t<=6))=false by simp;omega];rfl
  omega
theorem zYD {t:List Slot}{p q:Int}{s:Slot}(h:q≠p):zbn (zed t p s) q=zbn t q:=by
 unfold zed;cases hp:hasB p (ln t) with
 | false=>rfl
 | true=>exact zRu (zB.1 hp).1 h
theorem z6f {t:List Slot}(h:zcF t 4 8=true)(p:Int):zdD (zbn t p) 8=true:=by
 unfold zbn;cases hp:hasB p (ln t) with
 | false=>rfl
 | true=>exact (zqZ.1 h).1 _ (zlo hp _)
theorem z2S {x:Guest}(X:GOk x)(p:Int):GOk (zdL x p):=⟨X.prog,X.a,X.pc,X.w,zWL X.l (z6f X.w p),X.ctl,X.pend,X.ex,X.seen⟩
theorem z5r {h:Host}(S:Safe h)(m g p:Int):SimT h (zko h m g p) m (fun b=>chg b g (hasB p 4) (zdL (gAt b g) p))/\zd4 h m (zbR (zy h m) g (hasB p 4))=zbR (zy h m) g (hasB p 4):=by
 refine ⟨?_,zkH S m (t:=fun b=>zbR b g (hasB p 4)) (ziY g _)⟩;unfold zko zcx;rw[zjL.2 S.ok,cond_true];cases hm:hasB m (ln h.Mons) with
 | false =>
  refine (SimT.refl S m).congr ?_;rw[seen_none hm,zpl];rfl
 | true =>
  rw[cond_true];cases hc:zbR (zy h m) g (hasB p 4) with
  | false =>
   refine (SimT.refl S m).congr ?_
   show zy h m=chg (zy h m) g (hasB p 4) (zdL (gAt (zy h m) g) p)
   have hc':=hc;unfold zbR at hc';unfold chg;rw[hc'];rfl
  | true =>
   rw[cond_true];have hc':=hc;unfold zbR zb0 at hc';rw[zys S.ok hm,cond_true,zbZ,ze3 hm]at hc';have hg:hasB g (ln (ix h.Mons m mZ).Guests)=true:=hc'.1;have X:=S.ok.mon hm;have G:=S.ok.seenG hm hg;have e1:chg (zy h m) g (hasB p 4) (zdL (gAt (zy h m) g) p)=zdC (zy h m) g (zdL (gOf h m g) p):=by
    have h1:=hc;unfold zbR at h1;unfold chg;rw[h1,ztE hm hg];rfl
   rw[e1];have htg:hasB g (ln (ix h.Mons m mZ).Tables)=true:=by unfold ln;rw[X.gt];exact hg
   have hM:(zCt (zcW h m (zdC (zy h m) g (zdL (gOf h m g) p))) m g p).Mons=up h.Mons m { ix h.Mons m mZ with Guests:=up (ix h.Mons m mZ).Guests g (zdL (gOf h m g) p),Tables:=up (ix h.Mons m mZ).Tables g (zbL (ix (ix h.Mons m mZ).Tables g kZ) p) }:=by
    show up (up h.Mons m _) m _=_
    rw[z4r];have e2:ix (zcW h m (zdC (zy h m) g (zdL (gOf h m g) p))).Mons m mZ=zuY (ix h.Mons m mZ) (zdC (zy h m) g (zdL (gOf h m g) p)):=zZ hm _ _;rw[e2];unfold zuY zdC;rw[ze3 hm]
   have kp:KeepP (ix h.Mons m mZ) { ix h.Mons m mZ with Guests:=up (ix h.Mons m mZ).Guests g (zdL (gOf h m g) p),Tables:=up (ix h.Mons m mZ).Tables g (zbL (ix (ix h.Mons m mZ).Tables g kZ) p) }:=⟨rfl,rfl⟩;have hy:MOk { ix h.Mons m mZ with Guests:=up (ix h.Mons m mZ).Guests g (zdL (gOf h m g) p),Tables:=up (ix h.Mons m mZ).Tables g (zbL (ix (ix h.Mons m mZ).Tables g kZ) p) }:=zkz X kp (zbB _ _ _) (zbB _ _ _) rfl X.outs X.pend X.tr X.own fun z hz=>by
    rcases qY hz with h|h
    .exact X.gs z h
    .rw [h];exact ztb.2 (z2S G p)
   have hH:HOk (zCt (zcW h m (zdC (zy h m) g (zdL (gOf h m g) p))) m g p):=S.ok.up hm hy hM S.ok.m12 S.ok.pgs (zyF S.ok.b1 _) (zyF S.ok.b2 _) fun q _=>.inl (qW _);have key:∀b:List Entry,(∀e∈b,zcN h e=true)->∀e∈zco b (zdG m g) p,zcN (zCt (zcW h m (zdC (zy h m) g (zdL (gOf h m g) p))) m g p) e=true:=by
    intro b hb e he;obtain ⟨he1,he2⟩:=zyP.1 he;obtain ⟨h1,h2,h3⟩:=zfq.1 (hb e he1);rw[zfq,hM,zdH];refine ⟨h1,?_⟩
    by_cases hcm:m=zdn e.Tag
    .rw [<- hcm]at h1 h2 h3 ⊢;rw[zZ hm]
     show hasB (zec e.Tag) (ln (up _ _ _))=true/\below' _ (zbi (zbn (ix (up (ix h.Mons m mZ).Guests g _) (zec e.Tag) gZ).Live e.Page) (ix h.Mons m mZ).Outer)=true
     rw[zdH];refine ⟨h2,?_⟩
     by_cases hcg:g=zec e.Tag
     .rw [<- hcg]at h2 h3 ⊢;rw[zZ hg];have hne:e.Page≠p:=fun hp=>he2 ⟨zbaB hcm.symm hcg.symm (zB.1 hm).1,hp⟩
      show below' _ (zbi (zbn (zed (gOf h m g).Live p _) e.Page) _)=true
      rw[zYD hne];exact h3
     .rw [zbm (zB.1 hg).1 (zB.1 h2).1 hcg];exact h3
    .rw [zbm (zB.1 hm).1 (zB.1 h1).1 hcm];exact ⟨h2,h3⟩
   refine ⟨⟨hH,⟨fun i hi=>?_,key _ S.rt.e1,key _ S.rt.e2⟩⟩,fun i=>?_,by rw[hM,zbB]⟩
   .rw [hM]at hi ⊢;rw[zdH]at hi
    by_cases hcm:m=i
    .subst hcm;rw[zZ hm];intro j hj
     show KOk (ix (up (ix h.Mons m mZ).Tables g _) j kZ) (ix (up (ix h.Mons m mZ).Guests g _) j gZ).Live (ix h.Mons m mZ).Outer
     have hj':hasB j (ln (ix h.Mons m mZ).Guests)=true:=by
      have:hasB j (ln (up (ix h.Mons m mZ).Guests g (zdL (gOf h m g) p)))=true:=hj
      rwa [zdH] at this
     by_cases e:g=j
     .subst e;rw[zZ htg,zZ hg];exact z3b (S.rt.t m hm g hg) p _
     .rw [zbm (zB.1 hg).1 (zB.1 hj').1 e,zbm (zB.1 hg).1 (zB.1 hj').1 e];exact S.rt.t m hm j hj'
    .rw [zbm (zB.1 hm).1 (zB.1 hi).1 hcm];exact S.rt.t i hi
   .refine (zuC (h:=h) hm hM rfl kp i).trans ?_
    by_cases e:i=m
    .subst e;rw[zbl.2 rfl,cond_true,cond_true,e1,ze3 hm];rfl
    .rw [zbN.2 e];rfl
theorem zRE (g:Int):zeq ⟨[],[],[],0⟩ g=⟨[],[],[],0⟩/\zgh ⟨[],[],[],0⟩ g=false:=by
 have:zgh ⟨[],[],[],0⟩ g=false:=by unfold zgh;rw[zZf];rfl
 refine ⟨?_,this⟩;unfold zeq;rw[this];rfl
theorem z5w {h:Host}(S:Safe h)(a:GAct):SimT h (ztX h a) a.M (fun b=>zKs b a)/\zCQ h a=zKt (zy h a.M) a:=by
 have hn:=zti;unfold ztX zCQ zKs zKt;cases ieq a.Kind 1 with
 | true =>
  obtain ⟨k,e⟩:=step_ok S a.M a.G;exact ⟨k,by rw[cond_true,cond_true,e]⟩
 | false =>
  simp only[cond_false];cases ieq a.Kind 2 with
  | true =>
   exact ⟨zpH S a.M (F:=fun b=>chg b a.G (zsh a.X ⟨a.Y,a.Z⟩) (zzO (gAt b a.G) a.X ⟨a.Y,a.Z⟩)) (fun b hb=>zq2 hb fun _ hc G=>z8W G hc) (zpl _ _ _),
    congrArg (fun t=>Told.mk t 0) (zkH S a.M (t:=fun b=>zbR b a.G (zsh a.X ⟨a.Y,a.Z⟩)) (ziY _ _))⟩
  | false =>
   simp only[cond_false];cases ieq a.Kind 3 with
   | true =>
    obtain ⟨k,e⟩:=z5r S a.M a.G a.X;exact ⟨k,congrArg (fun t=>Told.mk t 0) e⟩
   | false =>
    simp only[cond_false];cases ieq a.Kind 4 with
    | true =>
     exact ⟨zpH S a.M (F:=fun b=>chg b a.G (zrL (gAt b a.G) a.X) (zwm (gAt b a.G) a.X)) (fun b hb=>zq2 hb fun _ hc G=>z8T G hc) (zpl _ _ _),
      congrArg (fun t=>Told.mk t 0) (zkH S a.M (t:=fun b=>zbR b a.G (zrL (gAt b a.G) a.X)) (ziY _ _))⟩
    | false =>
     simp only[cond_false];cases ieq a.Kind 5 with
     | true =>
      exact ⟨zpH S a.M (F:=fun b=>chg b a.G (zwG (gAt b a.G)) (zwH (gAt b a.G))) (fun b hb=>zq2 hb fun _ _ G=>z8V G) (zpl _ _ _),
       congrArg (fun t=>Told.mk t 0) (zkH S a.M (t:=fun b=>zbR b a.G (zwG (gAt b a.G))) (ziY _ _))⟩
     | false =>
      simp only[cond_false];cases ieq a.Kind 6 with
      | true =>
       exact ⟨zpH S a.M (F:=fun b=>chg b a.G (zgd (gAt b a.G).Pending a.X) (zm5 (gAt b a.G) a.X)) (fun b hb=>zq2 hb fun _ _ G=>zY7 G _) (zpl _ _ _),
        congrArg (fun t=>Told.mk t 0) (zkH S a.M (t:=fun b=>zbR b a.G (zgd (gAt b a.G).Pending a.X)) (ziY _ _))⟩
      | false =>
       simp only[cond_false];cases ieq a.Kind 7 with
       | true =>
        exact ⟨zpH S a.M (F:=fun b=>chg b a.G (zhn ⟨a.X,a.Y,ieq a.Z 1⟩) (zHI (gAt b a.G) ⟨a.X,a.Y,ieq a.Z 1⟩)) (fun b hb=>zq2 hb fun _ hc G=>z8U G hc) (zpl _ _ _),
         congrArg (fun t=>Told.mk t 0) (zkH S a.M (t:=fun b=>zbR b a.G (zhn ⟨a.X,a.Y,ieq a.Z 1⟩)) (ziY _ _))⟩
       | false =>
        simp only[cond_false];cases ieq a.Kind 8 with
        | true =>
         obtain ⟨k,e⟩:=z5T S a.M a.X a.Y a.Z;exact ⟨k,congrArg (fun t=>Told.mk t 0) e⟩
        | false =>
         simp only[cond_false];cases ieq a.Kind 9 with
         | true =>
          exact ⟨zpH S a.M (F:=fun b=>zje b a.X) (fun b hb=>zZX hb _) (by unfold zje zeS;rw[hn];rfl),
           congrArg (fun t=>Told.mk t 0) (zkH S a.M (t:=fun b=>zeS b a.X) (by unfold zeS;rw[hn];rfl))⟩
         | false =>
          simp only[cond_false];cases ieq a.Kind 10 with
          | true =>
           refine ⟨zpH S a.M (F:=zlS) (fun b hb=>z1T hb) (by unfold zlS;rw[hn];rfl),?_⟩
           have e:=zkH S a.M (t:=zk8) (by unfold zk8;rw[hn];rfl)
           show Told.mk (zd4 h a.M (zk8 (zy h a.M))) (cond (zcx h a.M) (zrK (zy h a.M)) (-1))=⟨zk8 (zy h a.M),zrK (zy h a.M)⟩
           rw[e]
           congr 1
           unfold zcx;rw[zjL.2 S.ok,cond_true];cases hm:hasB a.M (ln h.Mons) with
           | true=>rfl
           | false=>rw[seen_none hm];unfold zrK;rw[hn];rfl
          | false =>
           simp only[cond_false];cases ieq a.Kind 11 with
           | true =>
            obtain ⟨k,e⟩:=zbae S a.M a.G a.X a.Y;exact ⟨k,congrArg (fun t=>Told.mk t 0) e⟩
           | false =>
            obtain ⟨k,e1,e2⟩:=z9p S a.M a.G a.X;exact ⟨k,by simp only[cond_false];rw[e1,e2]⟩
theorem z5N {h:Host}(S:Safe h)(a:GAct):Safe (zmp h a)/\(∀i,zy (zmp h a) i=zy h i)/\(zmp h a).Mons.length=h.Mons.length:=by
 unfold zmp;have k:∀r,Op h r->Safe r/\(∀i,zy r i=zy h i)/\r.Mons.length=h.Mons.length:=fun r k=>⟨k.safe S,fun i=>k.like.seen i,k.like.len⟩;cases ieq a.Kind 13 with
 | true=>exact k _ (z01 S.ok _ _)
 | false =>
  simp only[cond_false];cases ieq a.Kind 14 with
  | true=>exact k _ (z3C S.ok _ _)
  | false =>
   simp only[cond_false];cases ieq a.Kind 15 with
   | true=>exact k _ (z3B S.ok _ _)
   | false =>
    simp only[cond_false];cases ieq a.Kind 16 with
    | true =>
     obtain ⟨h1,h2⟩:=zS5 S a.M a.X;refine ⟨h1,h2,?_⟩;simp only[cond_true];unfold zjk;cases zbX h<;>cases hasB a.M (ln h.Mons)<;>cases win a.X 0 3<;>first|rfl|exact zbB _ _ _
    | false=>exact k _ (z9l S.ok)
def zj9 (a:GAct):Bool:=bif win a.Kind 1 17 then !win a.Kind 13 17 else false
theorem z1O {h:Host}(S:Safe h)(a:GAct):Safe (zeu h a)/\(zeu h a).Mons.length=h.Mons.length /\
 (∀i,zy (zeu h a) i=bif (cond (zj9 a) (ieq i a.M) false) then zKs (zy h i) a else zy h i)/\(zj9 a=true->zi2 h a=zKt (zy h a.M) a):=by
 unfold zeu zi2 zj9;cases win a.Kind 1 17 with
 | false=>exact ⟨S,rfl,fun _=>rfl,fun e=>by cases e⟩
 | true =>
  simp only[cond_true];cases win a.Kind 13 17 with
  | true =>
   obtain ⟨h1,h2,h3⟩:=z5N S a;exact ⟨h1,h3,fun i=>by simp only[cond_true,jT,cond_false];exact h2 i,fun e=>by cases e⟩
  | false =>
   obtain ⟨k,e⟩:=z5w S a;exact ⟨k.safe,k.len,fun i=>by simp only[cond_false,jU,cond_true];exact k.seen i,fun _=>e⟩
end
end Go.Proofs.YtdnmkiajccpnoaaGreat.E
