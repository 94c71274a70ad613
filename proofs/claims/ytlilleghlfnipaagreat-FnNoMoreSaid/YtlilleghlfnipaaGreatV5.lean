/- What is proved here: a part of the proof that the statement of this claim holds (several texts of wip/, laid together). -/
import Derived.Test.YtlilleghlfnipaaGreatV4
namespace Go.Proofs.YtlilleghlfnipaaGreat.E
open Go
set_option linter.unusedVariables false
set_option maxRecDepth 100000
set_option linter.unusedSimpArgs false
set_option linter.unusedSectionVars false
noncomputable section
def zUS:zS:=[(54,zn9)]++zOp
theorem zph:zD zUS:=zk zqy zti
theorem zI3 {a b:Bool}(h:(a=true)↔(b=true)):a=b:=by cases a<;>cases b<;>simp_all
@[simp] theorem zXy (x:Int):win x 0 3=hasB x 4:=zI3 (by rw [ze5];unfold hasB;rw [decide_eq_true_iff];omega)
@[simp] theorem zR3 (x:Int):win x 0 7=hasB x 8:=zI3 (by rw [ze5];unfold hasB;rw [decide_eq_true_iff];omega)
def zdk (t:List Slot)(p:Int)(s:Slot):List Slot:=bif hasB p (ln t) then up t p s else t
@[simp] theorem zXz (t:List Slot)(p:Int)(s:Slot):(zdk t p s).length=t.length:=by
 unfold zdk;cases hasB p (ln t)<;>simp
@[simp] abbrev zlC (t:List Slot)(p:Int)(s:Slot):Bool:=pc (t.length<=1048576)
@[simp] abbrev zja (t:List Slot)(p:Int)(s:Slot):List Slot:=zdk t p s
def zsN:Run:=rF3 (dS .slot) dI (dT .slot) (fun b c d=>((zlC b c d),[aS .slot (zja b c d)]))
def zvw (N:Nat)(a0:lS)(a1:Int)(a2:Slot):OA :=
 (oN (few (ln (ap [] a0))) (oN (zF a1 0 (wsub .i64 (ln a0) 1)) (cond (zI a1 0 (wsub .i64 (ln a0) 1)) (oN (inb a1 (ln (ap [] a0))) (share (up (ap [] a0) a1 a2) (fun x4=>(some [(aS .slot x4)])))) (some [(aS .slot (ap [] a0))]))))
theorem zFl (a0:List Slot)(a1:Int)(a2:Slot)(hc:(zlC a0 a1 a2)=true):∃N,zvw N a0 a1 a2=some [aS .slot (zja a0 a1 a2)]:=by
 have hs:=zJ.1 hc;refine ⟨0,?_⟩;unfold zvw oN;refine mu (must rfl (br (fun _=>mu (shr ?_)) (fun _=>?_)))
 all_goals first|rfl|(simp only [*,zja,zdk,cT,cF]<;>rfl)|simp_all [Ty.cells,zja,zdk]
theorem zAD:Holds Tryz.prog 120 zsN:=kF3 zph zy zC zB (zA []) zFl
def zeR (p n:Int):Bool:=bif zcK p then win n 0 7 else false
def zoF (p n:Int):Int:=bif zeR p n then wor .i64 p (zlN .i64 1 n) else p
theorem cv7 {n:Int}(h:hasB n 8=true):wcv .u64 n=n/\ile 0 n=true:=by
 have:=of_decide_eq_true h;exact ⟨zN9 (by omega) (by omega),decide_eq_true (by omega)⟩
@[simp] abbrev zhI (p n:Int):Bool:=true
@[simp] abbrev zfo (p n:Int):Int:=zoF p n
@[simp] abbrev zjF (p n:Int):Bool:=zeR p n
def zuI:Run:=rF2 dI dI (fun b c=>((zhI b c),[aI (zfo b c),aB (zjF b c)]))
def zyU (N:Nat)(a0 a1:Int):OA :=
 (oN (zef a0) (cond (nB (zee a0)) (some [(aI a0),(aB false)]) (oN (zF a1 0 7) (cond (nB (zI a1 0 7)) (some [(aI a0),(aB false)]) (oN (ile 0 (wcv .u64 a1)) (some [(aI (wor .i64 a0 (zlN .i64 1 (wcv .u64 a1)))),(aB true)]))))))
theorem zHV (a0 a1:Int)(hc:(zhI a0 a1)=true):∃N,zyU N a0 a1=some [aI (zfo a0 a1),aB (zjF a0 a1)]:=by
 have hw:=@cv7 a1;refine ⟨0,?_⟩;unfold zyU oN nB;refine must rfl (brN (fun _=>?_) (fun _=>must rfl (brN (fun _=>?_) (fun _=>mu ?_))))
 all_goals first|rfl|(simp only [*,zfo,zjF,zoF,zeR,cT,cF]<;>rfl)|simp_all [Ty.cells,zfo,zjF,zoF,zeR]
theorem zCH:Holds Tryz.prog 124 zuI:=kF2 zph zy zC zB (zA []) zHV
def posts (c:Ctl)(n:Int):Bool:=bif zgX c then (cond (win n 0 7) (ieq (wand .i64 (zxl .i64 c.Post n) 1) 1) false) else false
@[simp] abbrev zw6 (c:Ctl)(n:Int):Bool:=true
@[simp] abbrev zsU (c:Ctl)(n:Int):Bool:=posts c n
def zzD:Run:=rF2 dC dI (fun b c=>((zw6 b c),[aB (zsU b c)]))
def zF8 (N:Nat)(a0:Ctl)(a1:Int):OA :=
 (oN (znL a0) (cond (zmr a0) (oN (zF a1 0 7) (cond (zI a1 0 7) (oN (ile 0 (wcv .u64 a1)) (some [(aB (ieq (wand .i64 (zxl .i64 a0.Post (wcv .u64 a1)) 1) 1))])) oF)) oF))
theorem zMp (a0:Ctl)(a1:Int)(hc:(zw6 a0 a1)=true):∃N,zF8 N a0 a1=some [aB (zsU a0 a1)]:=by
 have hw:=@cv7 a1;refine ⟨0,?_⟩;unfold zF8 oN;refine must rfl (br (fun _=>must rfl (br (fun _=>mu ?_) (fun _=>?_))) (fun _=>?_))
 all_goals first|rfl|(simp only [*,zsU,posts,cT,cF]<;>rfl)|simp_all [Ty.cells,zsU,posts]
theorem zHq:Holds Tryz.prog 151 zzD:=kF2 zph zy zC zB (zA []) zMp
def zbM (b:Bare)(g:Int):Bool:=bif zbJ b then hasB g (ln b.Guests) else false
theorem zcS {b:Bare}{g:Int}:(zbM b g=true)↔zbJ b=true/\hasB g (ln b.Guests)=true:=by
 unfold zbM;cases zbJ b<;>simp
@[simp] abbrev zgS (b:Bare)(g:Int):Bool:=pc (SmB b)
@[simp] abbrev zhM (b:Bare)(g:Int):Bool:=zbM b g
def zzG:Run:=rF2 (dT .bare) dI (fun b c=>((zgS b c),[aB (zhM b c)]))
def zGb (N:Nat)(a0:Bare)(a1:Int):OA :=
 (oN (zlh a0) (cond (zdQ a0) (oN (zF a1 0 (wsub .i64 (ln a0.Guests) 1)) (some [(aB (zI a1 0 (wsub .i64 (ln a0.Guests) 1)))])) oF))
theorem zMs (a0:Bare)(a1:Int)(hc:(zgS a0 a1)=true):∃N,zGb N a0 a1=some [aB (zhM a0 a1)]:=by
 have hs:=zJ.1 hc;have hl:a0.Guests.length<=1048576:=hs.2.1.1
 refine ⟨0,?_⟩;unfold zGb oN;refine must rfl (br (fun _=>must rfl ?_) (fun _=>?_))
 all_goals first|rfl|(simp only [*,zhM,zbM,cT,cF]<;>rfl)|simp_all [Ty.cells,zhM,zbM]
theorem zHt:Holds Tryz.prog 118 zzG:=kF2 zph zy zC zB (zA []) zMs
def zUT:zS:=[(120,zsN),(124,zuI),(151,zzD),(118,zzG)]++zUS
theorem zh5:zD zUT:=zk zAD (zk zCH (zk zHq (zk zHt zph)))
theorem zTT {α:Type}{l:List α}{i:Int}{d:α}(h:hasB i (ln l)=true):up l i (ix l i d)=l:=by
 obtain ⟨k,rfl,hk⟩:=zex (n:=l.length) h;unfold up;rw [zbF hk,Int.toNat_natCast];exact List.set_getElem_self hk
theorem zpk {b:Bare}{g:Int}(h:hasB g (ln b.Guests)=true):gAt b g=ix b.Guests g zq:=by
 unfold gAt;rw [h];rfl
theorem zRE {b:Bare}{g:Int}(h:hasB g (ln b.Guests)=true):zdq b g (gAt b g)=b:=by
 unfold zdq;rw [zpk h,zTT h]
def chg (b:Bare)(g:Int)(c:Bool)(x:Guest):Bare:=bif (cond (zbM b g) c false) then zdq b g x else b
def zbz (b:Bare)(g:Int)(c:Bool):Bool:=bif zbM b g then c else false
def zok (p:Int)(s:Slot):Bool:=bif hasB p 4 then zds s 8 else false
def zt1 (x:Guest)(p:Int)(s:Slot):Guest:={ x with Written:=zdk x.Written p s }
def zcY (x:Guest)(p:Int):Guest:={ x with Live:=zdk x.Live p (zbh x.Written p) }
def zid:GExit:=⟨0,0,false,0⟩
def znV (x:Guest)(v:Int):Bool:=bif win v 0 99 then (cond (ieq x.Exit.Kind 2) true (ieq x.Exit.Kind 3)) else false
def zrr (x:Guest)(v:Int):Guest:=zbK (stopped (cond (ieq x.Exit.Kind 2) { x with A:=v } x) zid)
def zrE (x:Guest):Bool:=bif ieq x.Exit.Kind 1 then true else ieq x.Exit.Kind 4
def zrF (x:Guest):Guest:=bif ieq x.Exit.Kind 1 then stopped x zid else held (stopped x zid)
def zj6 (x:Guest)(n:Int):Guest:={ x with Pending:=zoF x.Pending n }
def zz5 (x:Guest)(c:Ctl):Guest:={ x with Ctl:=c }
theorem zV7 {x:Guest}{n:Int}(h:zeR x.Pending n=false):zj6 x n=x:=by
 unfold zj6 zoF;rw [h];rfl
theorem zTE {x:Guest}(p:Int)(s:Slot)(h:SmG x):SmG (zt1 x p s):=⟨h.1,by simpa [zt1] using h.2.1,h.2.2.1,h.2.2.2⟩
theorem zDQ {x:Guest}(p:Int)(h:SmG x):SmG (zcY x p):=⟨h.1,h.2.1,by simpa [zcY] using h.2.2.1,h.2.2.2⟩
theorem zTC {x:Guest}(v:Int)(h:SmG x):SmG (zrr x v):=by
 unfold zrr;cases ieq x.Exit.Kind 2<;>exact ziA h
theorem zTD {x:Guest}(h:SmG x):SmG (zrF x):=by
 unfold zrF;cases ieq x.Exit.Kind 1
 ·exact zLl (g:=stopped x zid) h
 ·exact h
theorem zmC {b:Bare}{g:Int}{c:Bool}{x:Guest}(h:SmB b)(hx:SmG x):SmB (chg b g c x):=by
 unfold chg;cases (cond (zbM b g) c false)
 ·exact h
 ·exact zkj h hx
@[simp] abbrev zm5 (b:Bare)(g p:Int)(s:Slot):Bool:=pc (SmB b)
@[simp] abbrev zgn (b:Bare)(g p:Int)(s:Slot):Bare:=chg b g (zok p s) (zt1 (gAt b g) p s)
@[simp] abbrev zhH (b:Bare)(g p:Int)(s:Slot):Bool:=zbz b g (zok p s)
def zn8:Run:=rF4 (dT .bare) dI dI (dT .slot) (fun b c d e=>((zm5 b c d e),[aT .bare (zgn b c d e),aB (zhH b c d e)]))
def zyE (N:Nat)(a0:Bare)(a1 a2:Int)(a3:Slot):OA :=
 let y0:=(zbU a0);let y1:=(ix y0.Guests a1 zq); (oN (zdY a0) (oN (zgS y0 a1) (cond (nB (zhM y0 a1)) (some [(aT .bare y0),(aB false)]) (oN (zF a2 0 3) (cond (nB (zI a2 0 3)) (some [(aT .bare y0),(aB false)]) (oN (zoM a3 8) (cond (nB (zmv a3 8)) (some [(aT .bare y0),(aB false)]) (oN (inb a1 (ln y0.Guests)) (oN (zlC y1.Written a2 a3) (oN (inb a1 (ln y0.Guests)) (share (up y0.Guests a1 ({ y1 with Written:=(zja y1.Written a2 a3) }:Guest)) (fun x5=>(some [(aT .bare ({ y0 with Guests:=x5 }:Bare)),(aB true)])))))))))))))
theorem zHE (a0:Bare)(a1 a2:Int)(a3:Slot)(hc:(zm5 a0 a1 a2 a3)=true):∃N,zyE N a0 a1 a2 a3=some [aT .bare (zgn a0 a1 a2 a3),aB (zhH a0 a1 a2 a3)]:=by
 have hs:=zJ.1 hc;have hx:=zhs a1 hs;have hz:zbM a0 a1=true->hasB a1 (ln a0.Guests)=true:=fun h=>(zcS.1 h).2;have hz2:zbM a0 a1=true->gAt a0 a1=ix a0.Guests a1 zq:=fun h=>zpk (zcS.1 h).2;have hw:=hx.2.1
 refine ⟨0,?_⟩;unfold zyE oN nB
 conv=>zeta
 refine mu (mu (brN (fun _=>?_) (fun _=>must rfl (brN (fun _=>?_) (fun _=>must rfl (brN (fun _=>?_) (fun _=>mu (mu (mu (shr ?_))))))))))
 all_goals first|rfl|(simp only [*,zgn,zhH,chg,zbz,zok,zt1,zdq,cT,cF]<;>rfl)|simp_all [Ty.cells,zgn,zhH,chg,zbz,zok,zt1,zdq]
theorem zqx:Holds Tryz.prog 73 zn8:=kF4 zh5 zy zC zB (zA []) zHE
@[simp] abbrev zoe (b:Bare)(g p:Int):Bool:=pc (SmB b)
@[simp] abbrev zdL (b:Bare)(g p:Int):Bare:=chg b g (hasB p 4) (zcY (gAt b g) p)
@[simp] abbrev zfS (b:Bare)(g p:Int):Bool:=zbz b g (hasB p 4)
def zk8:Run:=rF3 (dT .bare) dI dI (fun b c d=>((zoe b c d),[aT .bare (zdL b c d),aB (zfS b c d)]))
def zua (N:Nat)(a0:Bare)(a1 a2:Int):OA :=
 let y1:=(zbU a0);let y2:=(inb a1 (ln y1.Guests));let y0:=(ix y1.Guests a1 zq); (oN (zdY a0) (oN (zgS y1 a1) (cond (nB (zhM y1 a1)) (some [(aT .bare y1),(aB false)]) (oN (zF a2 0 3) (cond (nB (zI a2 0 3)) (some [(aT .bare y1),(aB false)]) (oN y2 (oN y2 (oN (zlA y0.Written a2) (oN (zlC y0.Live a2 (zg7 y0.Written a2)) (oN y2 (share (up y1.Guests a1 ({ y0 with Live:=(zja y0.Live a2 (zg7 y0.Written a2)) }:Guest)) (fun x4=>(some [(aT .bare ({ y1 with Guests:=x4 }:Bare)),(aB true)])))))))))))))
theorem zC8 (a0:Bare)(a1 a2:Int)(hc:(zoe a0 a1 a2)=true):∃N,zua N a0 a1 a2=some [aT .bare (zdL a0 a1 a2),aB (zfS a0 a1 a2)]:=by
 have hs:=zJ.1 hc;have hx:=zhs a1 hs;have hz:zbM a0 a1=true->hasB a1 (ln a0.Guests)=true:=fun h=>(zcS.1 h).2;have hz2:zbM a0 a1=true->gAt a0 a1=ix a0.Guests a1 zq:=fun h=>zpk (zcS.1 h).2;have hw:=hx.2.2.1
 refine ⟨0,?_⟩;unfold zua oN nB
 conv=>zeta
 refine mu (mu (brN (fun _=>?_) (fun _=>must rfl (brN (fun _=>?_) (fun _=>mu (mu (must rfl (mu (mu (shr ?_))))))))))
 all_goals first|rfl|(simp only [*,zdL,zfS,chg,zbz,zcY,zdq,cT,cF]<;>rfl)|simp_all [Ty.cells,zdL,zfS,chg,zbz,zcY,zdq]
theorem zop:Holds Tryz.prog 76 zk8:=kF3 zh5 zy zC zB (zA []) zC8
@[simp] abbrev ziU (b:Bare)(g v:Int):Bool:=pc (SmB b)
@[simp] abbrev zez (b:Bare)(g v:Int):Bare:=chg b g (znV (gAt b g) v) (zrr (gAt b g) v)
@[simp] abbrev zfB (b:Bare)(g v:Int):Bool:=zbz b g (znV (gAt b g) v)
def zj8:Run:=rF3 (dT .bare) dI dI (fun b c d=>((ziU b c d),[aT .bare (zez b c d),aB (zfB b c d)]))
def zr1 (N:Nat)(a0:Bare)(a1 a2:Int):OA :=
 let y2:=(zbU a0);let y4:=(inb a1 (ln y2.Guests));let y1:=(⟨0,0,false,0⟩:GExit);let y0:=(ix y2.Guests a1 zq);let y3:=({ y0 with A:=a2 }:Guest); (oN (zdY a0) (oN (zgS y2 a1) (cond (nB (zhM y2 a1)) (some [(aT .bare y2),(aB false)]) (oN (zF a2 0 99) (cond (nB (zI a2 0 99)) (some [(aT .bare y2),(aB false)]) (oN y4 (cond (ieq y0.Exit.Kind 2) (oN (zdl y3 y1) (oN (zdg (zcU y3 y1)) (oN y4 (share (up y2.Guests a1 (zeZ (zcU y3 y1))) (fun x4=>(some [(aT .bare ({ y2 with Guests:=x4 }:Bare)),(aB true)])))))) (cond (ieq y0.Exit.Kind 3) (oN (zdl y0 y1) (oN (zdg (zcU y0 y1)) (oN y4 (share (up y2.Guests a1 (zeZ (zcU y0 y1))) (fun x4=>(some [(aT .bare ({ y2 with Guests:=x4 }:Bare)),(aB true)])))))) (some [(aT .bare y2),(aB false)])))))))))
theorem zAN (a0:Bare)(a1 a2:Int)(hc:(ziU a0 a1 a2)=true):∃N,zr1 N a0 a1 a2=some [aT .bare (zez a0 a1 a2),aB (zfB a0 a1 a2)]:=by
 have hs:=zJ.1 hc;have hx:=zhs a1 hs;have hz:zbM a0 a1=true->hasB a1 (ln a0.Guests)=true:=fun h=>(zcS.1 h).2;have hz2:zbM a0 a1=true->gAt a0 a1=ix a0.Guests a1 zq:=fun h=>zpk (zcS.1 h).2;have ho:_/\_/\_/\_:=hx
 refine ⟨0,?_⟩;unfold zr1 oN nB
 conv=>zeta
 refine mu (mu (brN (fun _=>?_) (fun _=>must rfl (brN (fun _=>?_) (fun _=>mu (br (fun _=>mu (mu (mu (shr ?_)))) (fun _=>br (fun _=>mu (mu (mu (shr ?_)))) (fun _=>?_))))))))
 all_goals first|rfl|(simp only [*,zez,zfB,chg,zbz,znV,zrr,zid,zdq,SmG,stopped,cT,cF]<;>rfl)|simp_all [Ty.cells,zez,zfB,chg,zbz,znV,zrr,zid,zdq,SmG,stopped]
theorem znE:Holds Tryz.prog 80 zj8:=kF3 zh5 zy zC zB (zA []) zAN
@[simp] abbrev ziW (b:Bare)(g:Int):Bool:=pc (SmB b)
@[simp] abbrev zeB (b:Bare)(g:Int):Bare:=chg b g (zrE (gAt b g)) (zrF (gAt b g))
@[simp] abbrev zfD (b:Bare)(g:Int):Bool:=zbz b g (zrE (gAt b g))
def zka:Run:=rF2 (dT .bare) dI (fun b c=>((ziW b c),[aT .bare (zeB b c),aB (zfD b c)]))
def zr3 (N:Nat)(a0:Bare)(a1:Int):OA :=
 let y2:=(zbU a0);let y3:=(inb a1 (ln y2.Guests));let y1:=(⟨0,0,false,0⟩:GExit);let y0:=(ix y2.Guests a1 zq); (oN (zdY a0) (oN (zgS y2 a1) (cond (nB (zhM y2 a1)) (some [(aT .bare y2),(aB false)]) (oN y3 (cond (ieq y0.Exit.Kind 1) (oN (zdl y0 y1) (oN y3 (share (up y2.Guests a1 (zcU y0 y1)) (fun x3=>(some [(aT .bare ({ y2 with Guests:=x3 }:Bare)),(aB true)]))))) (cond (ieq y0.Exit.Kind 4) (oN (zdl y0 y1) (oN (zkc (zcU y0 y1)) (oN y3 (share (up y2.Guests a1 (zsR (zcU y0 y1))) (fun x3=>(some [(aT .bare ({ y2 with Guests:=x3 }:Bare)),(aB true)])))))) (some [(aT .bare y2),(aB false)])))))))
theorem zAP (a0:Bare)(a1:Int)(hc:(ziW a0 a1)=true):∃N,zr3 N a0 a1=some [aT .bare (zeB a0 a1),aB (zfD a0 a1)]:=by
 have hs:=zJ.1 hc;have hx:=zhs a1 hs;have hz:zbM a0 a1=true->hasB a1 (ln a0.Guests)=true:=fun h=>(zcS.1 h).2;have hz2:zbM a0 a1=true->gAt a0 a1=ix a0.Guests a1 zq:=fun h=>zpk (zcS.1 h).2;have ho:_/\_/\_/\_:=hx
 refine ⟨0,?_⟩;unfold zr3 oN nB
 conv=>zeta
 refine mu (mu (brN (fun _=>?_) (fun _=>mu (br (fun _=>mu (mu (shr ?_))) (fun _=>br (fun _=>mu (mu (mu (shr ?_)))) (fun _=>?_))))))
 all_goals first|rfl|(simp only [*,zeB,zfD,chg,zbz,zrE,zrF,zid,zdq,SmG,stopped,cT,cF]<;>rfl)|simp_all [Ty.cells,zeB,zfD,chg,zbz,zrE,zrF,zid,zdq,SmG,stopped]
theorem znG:Holds Tryz.prog 81 zka:=kF2 zh5 zy zC zB (zA []) zAP
theorem zWS {b:Bare}{g:Int}{c:Bool}{x:Guest}(h:zbM b g=false):chg b g c x=b:=by
 unfold chg;rw [h];rfl
theorem zVq {b:Bare}{g n:Int}(h:zbM b g=true):chg b g (zeR (gAt b g).Pending n) (zj6 (gAt b g) n)=zdq b g (zj6 (gAt b g) n):=by
 unfold chg;rw [h];cases hp:zeR (gAt b g).Pending n
 ·rw [zV7 hp,zRE (zcS.1 h).2];rfl
 ·rfl
@[simp] abbrev ziV (b:Bare)(g n:Int):Bool:=pc (SmB b)
@[simp] abbrev zeA (b:Bare)(g n:Int):Bare:=chg b g (zeR (gAt b g).Pending n) (zj6 (gAt b g) n)
@[simp] abbrev zfC (b:Bare)(g n:Int):Bool:=zbz b g (zeR (gAt b g).Pending n)
def zj9:Run:=rF3 (dT .bare) dI dI (fun b c d=>((ziV b c d),[aT .bare (zeA b c d),aB (zfC b c d)]))
def zr2 (N:Nat)(a0:Bare)(a1 a2:Int):OA :=
 let y1:=(zbU a0);let y0:=(ix y1.Guests a1 zq); (oN (zdY a0) (oN (zgS y1 a1) (cond (nB (zhM y1 a1)) (some [(aT .bare y1),(aB false)]) (oN (inb a1 (ln y1.Guests)) (oN (zhI y0.Pending a2) (oN (inb a1 (ln y1.Guests)) (share (up y1.Guests a1 ({ y0 with Pending:=(zfo y0.Pending a2) }:Guest)) (fun x4=>(some [(aT .bare ({ y1 with Guests:=x4 }:Bare)),(aB (zjF y0.Pending a2))])))))))))
theorem zAO (a0:Bare)(a1 a2:Int)(hc:(ziV a0 a1 a2)=true):∃N,zr2 N a0 a1 a2=some [aT .bare (zeA a0 a1 a2),aB (zfC a0 a1 a2)]:=by
 have hs:=zJ.1 hc;have hz:zbM a0 a1=true->hasB a1 (ln a0.Guests)=true:=fun h=>(zcS.1 h).2;have hz2:zbM a0 a1=true->gAt a0 a1=ix a0.Guests a1 zq:=fun h=>zpk (zcS.1 h).2;have hj:=@zVq a0 a1 a2;have hj0:=@zWS a0 a1 (zeR (gAt a0 a1).Pending a2) (zj6 (gAt a0 a1) a2)
 refine ⟨0,?_⟩;unfold zr2 oN nB
 conv=>zeta
 refine mu (mu (brN (fun _=>?_) (fun _=>mu (must rfl (mu (shr ?_))))))
 all_goals first|rfl|(simp only [*,zeA,zfC,zbz,zdq,zj6,cT,cF]<;>rfl)|simp_all [Ty.cells,zeA,zfC,zbz,zdq,zj6]
theorem znF:Holds Tryz.prog 82 zj9:=kF3 zh5 zy zC zB (zA []) zAO
@[simp] abbrev zm4 (b:Bare)(g:Int)(c:Ctl):Bool:=pc (SmB b)
@[simp] abbrev zgm (b:Bare)(g:Int)(c:Ctl):Bare:=chg b g (zgX c) (zz5 (gAt b g) c)
@[simp] abbrev zhG (b:Bare)(g:Int)(c:Ctl):Bool:=zbz b g (zgX c)
def zn7:Run:=rF3 (dT .bare) dI dC (fun b c d=>((zm4 b c d),[aT .bare (zgm b c d),aB (zhG b c d)]))
def zyD (N:Nat)(a0:Bare)(a1:Int)(a2:Ctl):OA :=
 let y0:=(zbU a0); (oN (zdY a0) (oN (zgS y0 a1) (cond (nB (zhM y0 a1)) (some [(aT .bare y0),(aB false)]) (oN (znL a2) (cond (nB (zmr a2)) (some [(aT .bare y0),(aB false)]) (oN (inb a1 (ln y0.Guests)) (share (up y0.Guests a1 ({ (ix y0.Guests a1 zq) with Ctl:=a2 }:Guest)) (fun x4=>(some [(aT .bare ({ y0 with Guests:=x4 }:Bare)),(aB true)])))))))))
theorem zHD (a0:Bare)(a1:Int)(a2:Ctl)(hc:(zm4 a0 a1 a2)=true):∃N,zyD N a0 a1 a2=some [aT .bare (zgm a0 a1 a2),aB (zhG a0 a1 a2)]:=by
 have hs:=zJ.1 hc;have hz:zbM a0 a1=true->hasB a1 (ln a0.Guests)=true:=fun h=>(zcS.1 h).2;have hz2:zbM a0 a1=true->gAt a0 a1=ix a0.Guests a1 zq:=fun h=>zpk (zcS.1 h).2
 refine ⟨0,?_⟩;unfold zyD oN nB
 conv=>zeta
 refine mu (mu (brN (fun _=>?_) (fun _=>must rfl (brN (fun _=>?_) (fun _=>mu (shr ?_))))))
 all_goals first|rfl|(simp only [*,zgm,zhG,chg,zbz,zz5,zdq,cT,cF]<;>rfl)|simp_all [Ty.cells,zgm,zhG,chg,zbz,zz5,zdq]
theorem zqw:Holds Tryz.prog 83 zn7:=kF3 zh5 zy zC zB (zA []) zHD
def zU4 (p c v:Int):Bool:=bif hasB p 8 then (cond (hasB c 4) (win v 0 99) false) else false
def zst (b:Bare)(p c v:Int):Bool:=bif zbJ b then zU4 p c v else false
def zIF (b:Bare)(p c v:Int):Bare:=bif zst b p c v then { b with Memory:=zbm b.Memory p c v } else b
def zjg (b:Bare):Bare:=bif zbJ b then { b with Pending:=zhz b.Pending } else b
def znU (b:Bare):Int:=bif zbJ b then zpt b.Pending else -1
def ziC (b:Bare):Bool:=bif zbJ b then !ilt (zc1 b.Pending) 0 else false
def zkT (b:Bare)(g a n:Int):Bool:=bif zbM b g then (cond (win a 0 15) (zel (gAt b g).Live (zU a) n) false) else false
def zxt (b:Bare)(g a n:Int):Int:=zb5 (gAt b g).Live (zU a) n
def ztl (b:Bare)(g a v:Int):Bool:=bif zkT b g a 2 then win v 0 99 else false
def zOC (b:Bare)(g a v:Int):Bare:=bif ztl b g a v then { b with Memory:=zbm b.Memory (zxt b g a 2) (zcA a) v } else b
def zIJ (b:Bare)(g a:Int):Int:=bif zkT b g a 1 then cellAt b.Memory (zxt b g a 1) (zcA a) else 0
@[simp] abbrev zm3 (b:Bare):Bool:=pc (SmB b)
@[simp] abbrev zgl (b:Bare):Bare:=zjg b
@[simp] abbrev zhE (b:Bare):Int:=znU b
@[simp] abbrev zhF (b:Bare):Bool:=ziC b
def zn6:Run:=rF1 (dT .bare) (fun b=>((zm3 b),[aT .bare (zgl b),aI (zhE b),aB (zhF b)]))
def zyC (N:Nat)(a0:Bare):OA :=
 let y0:=(zbU a0); (oN (zdY a0) (oN (zlh y0) (cond (nB (zdQ y0)) (some [(aT .bare y0),(aI (-1)),(aB false)]) (oN (znm y0.Pending) (some [(aT .bare ({ y0 with Pending:=(zhJ y0.Pending) }:Bare)),(aI (zhK y0.Pending)),(aB (zjH y0.Pending))])))))
theorem zHC (a0:Bare)(hc:(zm3 a0)=true):∃N,zyC N a0=some [aT .bare (zgl a0),aI (zhE a0),aB (zhF a0)]:=by
 have hs:=zJ.1 hc;refine ⟨0,?_⟩;unfold zyC oN nB
 conv=>zeta
 refine mu (must rfl (brN (fun _=>?_) (fun _=>must rfl ?_)))
 all_goals first|rfl|(simp only [*,zgl,zhE,zhF,zjg,znU,ziC,zhz,zpt,cT,cF]<;>rfl)|simp_all [Ty.cells,zgl,zhE,zhF,zjg,znU,ziC,zhz,zpt]
theorem zqv:Holds Tryz.prog 88 zn6:=kF1 zh5 zy zC zB (zA []) zHC
def zUU:zS:=zUT
theorem zJp:zD zUU:=zh5
def zdf (l:List Guest)(n:Int):List Int:=idxs (fun (x:Guest)=>posts x.Ctl n) l 0
theorem zJO {α:Type}(p:α->Bool):∀(l:List α) (i:Nat),∀k∈idxs p l i,(i:Int)<=k/\k<(i:Int)+l.length
 | [],_,k,hk=>by cases hk
 | x :: l,i,k,hk=>by
  have hr:=zJO p l (i+1);simp only [List.length_cons];unfold idxs at hk;cases hp:p x
  ·rw [hp] at hk;have:=hr k hk;omega
  ·rw [hp] at hk;rcases List.mem_cons.1 hk with rfl|hk
   ·omega
   ·have:=hr k hk;omega
@[simp] abbrev zpQ (b:Bare)(n:Int):Bool:=pc (SmB b)
@[simp] abbrev zi8 (b:Bare)(n:Int):List Int:=zdf b.Guests n
def zsG:Run:=rF2 (dT .bare) dI (fun b c=>((zpQ b c),[aS .int (zi8 b c)]))
def zvq (N:Nat)(a0:Bare)(a1:Int):OA :=
 (iter (σ:=(Int×(Int×(Int×((List Int)×(lM×(lG×((List Int)×Unit)))))))) N (fun r3 s4=>let y0:=s4.2.2.2.2.2.1;let y1:=(ix y0 s4.2.1 zq).Ctl; (cond (ilt s4.2.1 (ln y0)) (oN (inb s4.2.1 (ln y0)) (oN (zw6 y1 s4.1) (cond (zsU y1 s4.1) (oN (few (ln (ap s4.2.2.2.1 [s4.2.1]))) (r3 (s4.1,((zK .i64 s4.2.1 1),(s4.2.2.1,((ap s4.2.2.2.1 [s4.2.1]),(s4.2.2.2.2.1,(y0,(s4.2.2.2.2.2.2.1,()))))))))) (r3 (s4.1,((zK .i64 s4.2.1 1),(s4.2.2.1,(s4.2.2.2.1,(s4.2.2.2.2.1,(y0,(s4.2.2.2.2.2.2.1,()))))))))))) (some [(aS .int s4.2.2.2.1)]))) (a1,(0,(a0.Pending,([],(a0.Memory,(a0.Guests,(a0.Outs,()))))))))
def zFQ:FuncId->Nat->Option Tmpl:=zA [(128,0,{ n:=28,tm:=[(1,ti),(2,.lp 0 0),(5,.sl 0 []),(6,ti)],lo:=[(0,[.sl 1 [],.sl 2 [],.sl 3 [],ti])],ro:=[(0,.int,true),(1,(.sl .int),false),(2,.guest,false),(3,.int,false)] })]
theorem zFd (a0:Bare)(a1:Int)(hc:(zpQ a0 a1)=true):∃N,zvq N a0 a1=some [aS .int (zi8 a0 a1)]:=by
 have hs:=zJ.1 hc;have hl:=zc0 hs.2.1.1;refine zc9 fun N hNN=>?_;unfold zvq oN
 conv=>zeta
 refine (zby a0.Guests (fun i (t:(List Int))=>(a1,(i:Int),a0.Pending,t,a0.Memory,a0.Guests,a0.Outs,())) _ (fun i (x:Guest) (t:List Int) κ=>bif posts x.Ctl a1 then (cond (few (ln (ap t [(i:Int)]))) (κ (ap t [(i:Int)])) none) else κ t) (fun (t:(List Int))=>(some [(.one (.s .int t))])) (fun i hi t rec=>?_) (fun t rec=>?_) _ ([]) (hNN hl.1)).trans ?_
 ·simp only [zcb hi,zbx hi,zbF hi,zbu hi hl.1,cT]
 ·simp only [zb6,cF]
 exact zl3 (fun (x:Guest)=>posts x.Ctl a1) _ a0.Guests 0 [] (by simpa using hl.2)
theorem zAw:Holds Tryz.prog 128 zsG:=kF2 zJp zy zC zB zFQ zFd
def zUV:zS:=[(128,zsG)]++zUU
theorem zJq:zD zUV:=zk zAw zJp
def zxL (n:Int)(l:List Guest)(k:Int):List Guest:=up l k (zj6 (ix l k zq) n)
def ziS (n:Int)(ks:List Int)(l:List Guest):List Guest:=ks.foldl (zxL n) l
theorem zwo (n:Int)(l:List Guest)(k:Int):(zxL n l k).length=l.length:=ze9 _ _ _
theorem zPG {n:Int}{l:List Guest}{k:Int}(hk:hasB k (ln l)=true)(h:zkN l):zkN (zxL n l k):=zxR h (zRM h hk _)
theorem zxc {n:Int}:∀(ks:List Int) {l:List Guest},(∀k∈ks,hasB k (ln l)=true)->zkN l->zkN (ziS n ks l)/\(ziS n ks l).length=l.length
 | [],_,_,h=>⟨h,rfl⟩
 | k :: ks,l,hk,h=>by
  have h1:=zPG (n:=n) (hk k (by simp)) h
  obtain ⟨g1,g2⟩:=zxc (n:=n) ks (l:=zxL n l k) (fun j hj=>by rw [ln,zwo];exact hk j (by simp [hj])) h1
  exact ⟨g1,g2.trans (zwo _ _ _)⟩
theorem zJF {ρ:Type}(n:Int)(K:List Guest->Option ρ):∀(ks:List Int) (i:Nat) (l:List Guest),(∀k∈ks,hasB k (ln l)=true) ->
 goL (fun _ k (t:List Guest) κ=>bif inb k (ln t) then (cond (inb k (ln t)) (κ (up t k (zj6 (ix t k zq) n))) none) else none) K ks i l=K (ziS n ks l)
 | [],_,_,_=>rfl
 | k :: ks,i,l,h=>by
  have hk:inb k (ln l)=true:=h k (by simp)
  simp only [goL,hk,cT];exact zJF n K ks (i+1) (zxL n l k) (fun j hj=>by rw [ln,zwo];exact h j (by simp [hj]))
def zxM (b:Bare)(n:Int):Bare:=bif ieq (ln (zdf b.Guests n)) 0 then { b with Pending:=zoF b.Pending n } else { b with Guests:=ziS n (zdf b.Guests n) b.Guests }
def zdU (b:Bare)(n:Int):Bool:=bif zbJ b then hasB n 8 else false
def zg5 (b:Bare)(n:Int):Bare:=bif zdU b n then zxM b n else b
theorem zDy {b:Bare}{n:Int}:∀k∈zdf b.Guests n,hasB k (ln b.Guests)=true:=fun k hk=>by
 have:=zJO _ _ _ k hk;exact decide_eq_true (by simp only [ln];omega)
theorem zPo {b:Bare}{n:Int}(h:ieq (ln (zdf b.Guests n)) 0=true):ziS n (zdf b.Guests n) b.Guests=b.Guests:=by
 have h1:((zdf b.Guests n).length:Int)=0:=of_decide_eq_true h;have:zdf b.Guests n=[]:=List.length_eq_zero_iff.1 (by omega)
 rw [this];rfl
theorem zPn {b:Bare}{n:Int}:(cond (ieq (ln (zdf b.Guests n)) 0) (some [AV.agg (Ty.cells .bare ⟨b.Memory,ziS n (zdf b.Guests n) b.Guests,b.Outs,zoF b.Pending n⟩),AV.one (.b true)]) (some [AV.agg (Ty.cells .bare ⟨b.Memory,ziS n (zdf b.Guests n) b.Guests,b.Outs,b.Pending⟩),AV.one (.b true)]))=some [AV.agg (Ty.cells .bare (zxM b n)),AV.one (.b true)]:=by
 unfold zxM;cases h:ieq (ln (zdf b.Guests n)) 0
 ·rfl
 ·simp only [cT,zPo h]
@[simp] abbrev zli (b:Bare)(n:Int):Bool:=pc (SmB b)
@[simp] abbrev zgF (b:Bare)(n:Int):Bare:=zg5 b n
@[simp] abbrev zik (b:Bare)(n:Int):Bool:=zdU b n
def zmk:Run:=rF2 (dT .bare) dI (fun b c=>((zli b c),[aT .bare (zgF b c),aB (zik b c)]))
def zvi (N:Nat)(a0:Bare)(a1:Int):OA :=
 let y2:=(zbU a0); (oN (zdY a0) (oN (zlh y2) (cond (nB (zdQ y2)) (some [(aT .bare y2),(aB false)]) (oN (zF a1 0 7) (cond (nB (zI a1 0 7)) (some [(aT .bare y2),(aB false)]) (oN (zpQ y2 a1) (iter (σ:=(Int×(Int×(Int×(Int×((List Int)×(lM×(lG×((List Int)×(lM×(lG×((List Int)×Unit)))))))))))) N (fun r3 s4=>let y5:=s4.2.2.2.2.2.2.2.1;let y3:=s4.2.2.2.2.1;let y1:=s4.2.2.2.2.2.2.1;let y0:=(ix y3 s4.2.1 0);let y4:=(ix y1 y0 zq); (cond (ilt s4.2.1 (ln y3)) (oN (inb s4.2.1 (ln y3)) (oN (inb s4.2.1 (ln y3)) (oN (inb y0 (ln y1)) (oN (zhI y4.Pending s4.1) (oN (inb y0 (ln y1)) (r3 (s4.1,((zK .i64 s4.2.1 1),(s4.2.2.1,(s4.2.2.2.1,(y3,(s4.2.2.2.2.2.1,((up y1 y0 ({ y4 with Pending:=(zfo y4.Pending s4.1) }:Guest)),(y5,(s4.2.2.2.2.2.2.2.2.1,(s4.2.2.2.2.2.2.2.2.2.1,(s4.2.2.2.2.2.2.2.2.2.2.1,()))))))))))))))))) (cond (ieq (ln y3) 0) (oN (zhI s4.2.2.1 s4.1) (some [(aT .bare (⟨s4.2.2.2.2.2.1,y1,y5,(zfo s4.2.2.1 s4.1)⟩:Bare)),(aB true)])) (some [(aT .bare (⟨s4.2.2.2.2.2.1,y1,y5,s4.2.2.1⟩:Bare)),(aB true)])))) (a1,(0,(y2.Pending,(0,((zi8 y2 a1),(y2.Memory,(y2.Guests,(y2.Outs,([],([],([],()))))))))))))))))))
def zFM:FuncId->Nat->Option Tmpl:=zA [(87,0,{ n:=62,tm:=[(1,ti),(2,.lp 0 0),(4,.lp 1 0),(6,.sl 0 []),(7,ti)],lo:=[(0,[.sl 1 [],.sl 2 [],.sl 3 [],ti]),(1,[.sl 4 [],.sl 5 [],.sl 6 [],ti])],ro:=[(0,.int,true),(1,(.sl .int),true),(2,.guest,true),(3,.int,true),(4,(.sl .int),true),(5,.guest,true),(6,.int,true)] })]
theorem zE4 (a0:Bare)(a1:Int)(hc:(zli a0 a1)=true):∃N,zvi N a0 a1=some [aT .bare (zgF a0 a1),aB (zik a0 a1)]:=by
 have hs:=zJ.1 hc;have hk:(zdf a0.Guests a1).length<=big:=Nat.le_trans (zAK _ _ _) (zc0 hs.2.1.1).1;refine zc9 fun N hNN=>?_;unfold zvi zgF zik zg5 zdU oN nB
 conv=>zeta
 refine must (zbc hs) (must rfl (brN (fun h1=>?_) (fun h1=>must rfl (brN (fun h2=>?_) (fun h2=>must (zbc hs) ?_)))))
 ·simp only [show zbJ a0=false from h1,cF]
 ·simp only [show zbJ a0=true from h1,show hasB a1 8=false from by first|exact h2|exact (zR3 a1).symm.trans h2,cT,cF]
 simp only [show zbJ a0=true from h1,show hasB a1 8=true from by first|exact h2|exact (zR3 a1).symm.trans h2,cT]
 refine (zby (zi8 (zbU a0) a1) (fun i (t:lG)=>(a1,(i:Int),(zbU a0).Pending,0,(zi8 (zbU a0) a1),(zbU a0).Memory,t,(zbU a0).Outs,[],[],[],())) _ (fun _ k (t:List Guest) κ=>bif inb k (ln t) then (cond (inb k (ln t)) (κ (up t k (zj6 (ix t k zq) a1))) none) else none) (fun (t:lG)=>(cond (ieq (ln (zi8 (zbU a0) a1)) 0) (cond (zhI (zbU a0).Pending a1) (some [(.agg (Ty.cells .bare (⟨(zbU a0).Memory,t,(zbU a0).Outs,(zfo (zbU a0).Pending a1)⟩:Bare))),(.one (.b true))]) none) (some [(.agg (Ty.cells .bare (⟨(zbU a0).Memory,t,(zbU a0).Outs,(zbU a0).Pending⟩:Bare))),(.one (.b true))]))) (fun i hi t rec=>?_) (fun t rec=>?_) _ ((zbU a0).Guests) (hNN hk)).trans ?_
 ·simp only [zcb hi,zbx hi,zbF hi,zbu hi hk,cT];rfl
 ·simp only [zb6,cF];rfl
 exact (zJF a1 _ _ 0 _ zDy).trans zPn
theorem zpo:Holds Tryz.prog 87 zmk:=kF2 zJq zy zC zB zFM zE4
def zP1:zS:=[(73,zn8),(76,zk8),(80,zj8),(81,zka),(82,zj9),(83,zn7),(88,zn6),(87,zmk)]++zUV
theorem zvK:zD zP1:=zk zqx (zk zop (zk znE (zk znG (zk znF (zk zqw (zk zqv (zk zpo zJq)))))))
theorem zRV {n:Int}(h:(ieq n 4||ieq n 8)=true):n=4\/n=8:=by
 rcases Bool.or_eq_true _ _ ▸ h with h|h
 ·exact .inl (of_decide_eq_true h)
 ·exact .inr (of_decide_eq_true h)
theorem zQ8 {n:Int}(h:(ieq n 8||ieq n 12)=true):n=8\/n=12:=by
 rcases Bool.or_eq_true _ _ ▸ h with h|h
 ·exact .inl (of_decide_eq_true h)
 ·exact .inr (of_decide_eq_true h)
@[simp] abbrev zgI (n:Int):Bool:=ieq n 4||ieq n 8
@[simp] abbrev zfe (n:Int):List Slot:=List.replicate n.toNat ⟨-1,0⟩
def zmn:Run:=rF1 dI (fun b=>((zgI b),[aS .slot (zfe b)]))
def zIV (N:Nat)(a0:Int):OA :=
 (oN (zm6 a0 0 24) (iter (σ:=(Int×(lS×Unit))) N (fun r2 s3=>(cond (igt s3.1 0) (oN zb2 (oN (few (ln (ap s3.2.1 [zbg]))) (r2 ((wsub .i64 s3.1 1),((ap s3.2.1 [zbg]),()))))) (some [(aS .slot s3.2.1)]))) ((znK a0 0 24),([],()))))
def zFR:FuncId->Nat->Option Tmpl:=zA [(55,0,{ n:=17,tm:=[(3,.sl 0 []),(4,ti)],lo:=[],ro:=[(0,.slot,true)] })]
theorem zFh (a0:Int)(hc:(zgI a0)=true):∃N,zIV N a0=some [aS .slot (zfe a0)]:=by
 refine ⟨30,?_⟩;have h:a0=4\/a0=8:=zRV hc;rcases h with rfl|rfl<;>(change _=_;kernel_rfl)
theorem zpq:Holds Tryz.prog 55 zmn:=kF1 zvK zy zC zB zFR zFh
@[simp] abbrev zlv (n:Int):Bool:=ieq n 8||ieq n 12
@[simp] abbrev zg6 (n:Int):List (List Int):=List.replicate n.toNat [0,0,0,0]
def zpE:Run:=rF1 dI (fun b=>((zlv b),[aS (.sl .int) (zg6 b)]))
def zOb (N:Nat)(a0:Int):OA :=
 (oN (zm6 a0 0 24) (iter (σ:=(Int×(lM×Unit))) N (fun r2 s3=>(cond (igt s3.1 0) (oN (cond (few 4) (ieq 4 4) false) (oN (few (ln (ap s3.2.1 [(rp 4 0)]))) (r2 ((wsub .i64 s3.1 1),((ap s3.2.1 [(rp 4 0)]),()))))) (some [(aS (.sl .int) s3.2.1)]))) ((znK a0 0 24),([],()))))
def zLB:FuncId->Nat->Option Tmpl:=zA [(31,0,{ n:=17,tm:=[(3,.sl 0 []),(4,ti)],lo:=[],ro:=[(0,(.sl .int),true)] })]
theorem zJ8 (a0:Int)(hc:(zlv a0)=true):∃N,zOb N a0=some [aS (.sl .int) (zg6 a0)]:=by
 refine ⟨30,?_⟩;have h:a0=8\/a0=12:=zQ8 hc;rcases h with rfl|rfl<;>(change _=_;kernel_rfl)
theorem zsk:Holds Tryz.prog 31 zpE:=kF1 zvK zy zC zB zLB zJ8
def zP2:zS:=[(55,zmn),(31,zpE)]++zP1
theorem zGk:zD zP2:=zk zpq (zk zsk zvK)
def ziz:List Slot:=List.replicate 4 ⟨-1,0⟩
def zdO (p:List Ins):Guest:=⟨p,0,0,ziz,ziz,⟨0,0,false⟩,0,⟨0,0,false,0⟩,false,[]⟩
@[simp] abbrev zlm (p:List Ins):Bool:=pc (p.length<=1048576)
@[simp] abbrev zll (p:List Ins):Guest:=zdO p
def zml:Run:=rF1 (dS .ins) (fun b=>((zlm b),[aT .guest (zll b)]))
def zvl (N:Nat)(a0:lI):OA :=
 (oN (few (ln (ap [] a0))) (oN (zgI 4) (oN (zgI 4) (some [(aT .guest (⟨(ap [] a0),0,0,(zfe 4),(zfe 4),⟨0,0,false⟩,0,⟨0,0,false,0⟩,false,[]⟩:Guest))]))))
theorem zE8 (a0:List Ins)(hc:(zlm a0)=true):∃N,zvl N a0=some [aT .guest (zll a0)]:=by
 have hs:=zJ.1 hc;refine ⟨0,?_⟩;unfold zvl oN;refine mu (must rfl (must rfl ?_))
 first|rfl|(simp only [*,zll,zdO,ziz,cT,cF]<;>rfl)|simp_all [Ty.cells,zll,zdO,ziz]
theorem zpp:Holds Tryz.prog 56 zml:=kF1 zGk zy zC zB (zA []) zE8
def zW4:zS:=[(56,zml)]++zP2
theorem zvL:zD zW4:=zk zpp zGk
def zFz:List (List Int):=List.replicate 8 [0,0,0,0]
def zWO (ps:List (List Ins)):Prop:=ps.length<=1048576/\∀p∈ps,p.length<=1048576
theorem zGM {α β ρ:Type}(m:Nat)(f:α->β)(K:List β->Option ρ):∀(l:List α) (i:Nat) (acc:List β),acc.length+l.length<=2147483648 ->
 goL (fun (i:Nat) x acc k=>bif ilt (i:Int) (m:Int) then (cond (few (ln (ap acc [f x]))) (k (ap acc [f x])) none) else K acc) K l i acc=K (acc++(l.take (m-i)).map f)
 | [],i,acc,_=>by simp [goL]
 | x :: l,i,acc,hn=>by
  simp only [List.length_cons] at hn;have hf:few (ln (ap acc [f x]))=true:=zf0 (by simp [ap];omega)
  by_cases h:i<m
  ·have hi:ilt (i:Int) (m:Int)=true:=decide_eq_true (by omega)
   simp only [goL,hi,hf,cT];rw [zGM m f K l (i+1) (ap acc [f x]) (by simp [ap];omega)]
   rw [show m-i=m-(i+1)+1 by omega]
   simp [ap]
  ·have hi:ilt (i:Int) (m:Int)=false:=decide_eq_false (by omega)
   simp only [goL,hi,cF];rw [show m-i=0 by omega]
   simp
@[simp] abbrev zwX (a:GAct):Bool:=true
@[simp] abbrev zsQ (a:GAct):Bool:=win a.Kind 1 17
def zzt:Run:=rF1 (dT .act) (fun b=>((zwX b),[aB (zsQ b)]))
def zFZ (N:Nat)(a0:GAct):OA :=
 (oN (zF a0.Kind 1 17) (some [(aB (zI a0.Kind 1 17))]))
theorem zMg (a0:GAct)(hc:(zwX a0)=true):∃N,zFZ N a0=some [aB (zsQ a0)]:=by
 refine ⟨0,?_⟩;unfold zFZ oN;refine must rfl ?_
 first|rfl|(simp only [*,zsQ,cT,cF]<;>rfl)|simp_all [Ty.cells,zsQ]
theorem zHh:Holds Tryz.prog 33 zzt:=kF1 zvL zy zC zB (zA []) zMg
@[simp] abbrev zrN (k:Int):Bool:=true
@[simp] abbrev znM (k:Int):Bool:=win k 13 17
def zuB:Run:=rF1 dI (fun b=>((zrN b),[aB (znM b)]))
def zyO (N:Nat)(a0:Int):OA :=
 (oN (zF a0 13 17) (some [(aB (zI a0 13 17))]))
theorem zHO (a0:Int)(hc:(zrN a0)=true):∃N,zyO N a0=some [aB (znM a0)]:=by
 refine ⟨0,?_⟩;unfold zyO oN;refine must rfl ?_
 first|rfl|(simp only [*,znM,cT,cF]<;>rfl)|simp_all [Ty.cells,znM]
theorem zCA:Holds Tryz.prog 35 zuB:=kF1 zvL zy zC zB (zA []) zHO
@[simp] abbrev zwY (a:GAct):Bool:=true
@[simp] abbrev zmq (a:GAct):Ctl:=⟨a.X,a.Y,ieq a.Z 1⟩
def zzu:Run:=rF1 (dT .act) (fun b=>((zwY b),[.agg (zvJ (zmq b))]))
def zF0 (N:Nat)(a0:GAct):OA :=
 (some [(.agg [(.i .i64 a0.X),(.i .i64 a0.Y),(.b (ieq a0.Z 1))])])
theorem zMh (a0:GAct)(hc:(zwY a0)=true):∃N,zF0 N a0=some [.agg (zvJ (zmq a0))]:=by
 refine ⟨0,?_⟩;unfold zF0
 first|rfl|(simp only [*,zmq,cT,cF]<;>rfl)|simp_all [Ty.cells,zmq]
theorem zHi:Holds Tryz.prog 44 zzu:=kF1 zvL zy zC zB (zA []) zMh
def zJj:zS:=[(73,zn8),(76,zk8),(80,zj8),(81,zka),(82,zj9),(83,zn7),(88,zn6),(87,zmk),(31,zpE)]++zUR
theorem zvM:zD zJj:=zk zqx (zk zop (zk znE (zk znG (zk znF (zk zqw (zk zqv (zk zpo (zk zsk zSK))))))))
def zck (x:Mon):Bare:=⟨zFz,x.Guests,x.Outs,x.Pending⟩
def zqh (x:Mon)(b:Bare):Mon:={ x with Guests:=b.Guests,Pending:=b.Pending }
def zcv (h:Host)(m:Int)(b:Bare):Host:={ h with Mons:=up h.Mons m (zqh (ix h.Mons m mZ) b) }
@[simp] abbrev zdI (x:Mon):Bool:=pc (zeU x)
@[simp] abbrev zbn (x:Mon):Bare:=zck x
def zuS:Run:=rF1 (dT .mon) (fun b=>((zdI b),[aT .bare (zbn b)]))
def zy4 (N:Nat)(a0:Mon):OA :=
 (oN (zlv 8) (oN (zet a0.Guests) (oN (few (ln (ap [] a0.Outs))) (some [(aT .bare (⟨(zg6 8),(zeJ a0.Guests),(ap [] a0.Outs),a0.Pending⟩:Bare))]))))
theorem zId (a0:Mon)(hc:(zdI a0)=true):∃N,zy4 N a0=some [aT .bare (zbn a0)]:=by
 have hs:=zJ.1 hc;refine ⟨0,?_⟩;unfold zy4 oN;exact must rfl (must (zbc ((zqm _).2 hs.2.2.2.1)) (must (zsf hs.2.2.2.2.1) rfl))
theorem zCZ:Holds Tryz.prog 74 zuS:=kF1 zvM zy zbT zgN (zA []) zId
@[simp] abbrev zdH (h:Host)(m:Int)(b:Bare):Bool:=pc (hasB m (ln h.Mons)=true/\zkN b.Guests)
@[simp] abbrev zfs (h:Host)(m:Int)(b:Bare):Host:=zcv h m b
theorem zXx {l:List Mon}{m:Int}(hm:hasB m (ln l)=true)(b:Bare):inb m (ln (up l m { ix l m mZ with Guests:=b.Guests }))=true /\
 up (up l m { ix l m mZ with Guests:=b.Guests }) m { ix (up l m { ix l m mZ with Guests:=b.Guests }) m mZ with Pending:=b.Pending }=up l m (zqh (ix l m mZ) b):=by
 obtain ⟨k,rfl,hk⟩:=zex (n:=l.length) hm;refine ⟨zx (by rw [ln,ze9];exact hm),?_⟩
 rw [zxT,zeY hk];rfl
def zod:List AV->Option (Bool×List AV)
 | [.agg [.s (.sl .int) b,.s .mon c,.s .entry d,.s .entry e],.one (.i .i64 f),.agg [.s (.sl .int) g,.s .guest h,.s .int j,.i .i64 k]]=>some ((zdH (⟨b,c,d,e⟩:Host) f (⟨g,h,j,k⟩:Bare)),[aH (zfs (⟨b,c,d,e⟩:Host) f (⟨g,h,j,k⟩:Bare))])
 | _=>none
def zrq (N:Nat)(a0:Host)(a1:Int)(a2:Bare):OA :=
 (oN (zet a2.Guests) (oN (inb a1 (ln a0.Mons)) (share (up a0.Mons a1 ({ (ix a0.Mons a1 zf) with Guests:=(zeJ a2.Guests) }:Mon)) (fun x4=>(oN (inb a1 (ln x4)) (share (up x4 a1 ({ (ix x4 a1 zf) with Pending:=a2.Pending }:Mon)) (fun x5=>(some [(aH ({ a0 with Mons:=x5 }:Host))]))))))))
theorem zKO (N:Nat)(a0:Host)(a1:Int)(a2:Bare):zOE (cQ zJj zwj zPm zTS) (zA []) N 12 75 [true,true,true,true,false,false,false,false,false] [aH a0,aI a1,aT .bare a2]=zrq N a0 a1 a2:=by kernel_rfl
theorem zIc (a0:Host)(a1:Int)(a2:Bare)(hb:zci big [aH a0,aI a1,aT .bare a2])(hc:(zdH a0 a1 a2)=true):∃N,zrq N a0 a1 a2=some [aH (zfs a0 a1 a2)]:=by
 obtain ⟨hm,hg⟩:=zJ.1 hc;obtain ⟨h1,h2⟩:=zXx hm a2;refine ⟨0,?_⟩;unfold zrq oN;refine must (zbc ((zqm _).2 hg)) (must (zx hm) (shr (must h1 (shr ?_))));have e:zeJ a2.Guests=a2.Guests:=rfl;rw [e]
 show some [AV.agg (zbE { a0 with Mons:=_ })]=some [AV.agg (zbE { a0 with Mons:=_ })]
 rw [show zf=mZ from rfl,h2]
theorem zCY:zdd Tryz.prog 75 [true,true,true,true,false,false,false,false,false] none zod:=by
 refine zEn (zda zvM zy zbT zgN) (zeW (by kernel_rfl)) (by kernel_rfl) ?_
 intro avs rs hl hr h;have hb:=zgv hr;unfold zod at h;split at h
 ·obtain ⟨hc,rfl⟩:=zdi h;obtain ⟨N,hN⟩:=zIc _ _ _ (by exact hb) hc
  exact ⟨_,N,12,(zKO N _ _ _ ).trans hN⟩
 ·cases h
def zP7:zS:=[(74,zuS)]++zJj
theorem zgP:zD zP7:=zk zCZ zvM
def zXW:zew:=[(75,([true,true,true,true,false,false,false,false,false],none,zod))]++zTS
theorem zcC:zdC zXW:=zmD zgN (by
 intro x hx;simp only [List.mem_cons,List.not_mem_nil,or_false] at hx;rcases hx with rfl
 ·exact zCY)
def zVb (h:Host)(m:Int)(cB:Bool)(B:Bare)(o0 o1:Host->Ans):OA :=
 bif zbq h then (cond (zek h m) (cond (cond (zej h m) false true) (some (o0 h)) (cond (inb m (ln h.Mons)) (cond (zdI (ix h.Mons m mZ)) (cond cB (cond (zdH h m B) (some (o1 (zcv h m B))) none) none) none) none)) none) else none
theorem zb1 {h:Host}{m:Int}:(zcc h m=true)↔zbN h=true/\hasB m (ln h.Mons)=true:=by
 unfold zcc;cases zbN h<;>simp
theorem zkn {h:Host}{m:Int}{cB:Bool}{B:Bare}{o0 o1:Host->Ans}(hs:SmH h)(hc:zcc h m=true->cB=true)(hB:zcc h m=true->SmB B):zVb h m cB B o0 o1=some (cond (zcc h m) (o1 (zcv h m B)) (o0 h)):=by
 unfold zVb;refine must (zbc ((zO h).2 hs)) (must rfl ?_);rw [show zej h m=zcc h m from rfl]
 cases h0:zcc h m
 ·rfl
 ·have h2:=(zb1.1 h0).2;exact zdx rfl (must (zx h2) (must (zbc (hs.2.1.2 _ (zbj h2 _))) (must (hc h0) (must (zbc ⟨h2,(hB h0).2.1⟩) rfl))))
structure SameB (b c:Bare):Prop where
 g:b.Guests=c.Guests
 p:b.Pending=c.Pending
 o:zbJ b=zbJ c
theorem SameB.at {b c:Bare}(h:SameB b c)(g:Int):gAt b g=gAt c g:=by unfold gAt;rw [h.g]
theorem SameB.has {b c:Bare}(h:SameB b c)(g:Int):zbM b g=zbM c g:=by unfold zbM;rw [h.g,h.o]
theorem back_eq {h:Host}{m:Int}{b c:Bare}(hg:b.Guests=c.Guests)(hp:b.Pending=c.Pending):zcv h m b=zcv h m c:=by
 unfold zcv zqh;rw [hg,hp]
theorem zlT {b c:Bare}(hS:SameB b c)(h:Host)(m g:Int)(k:Bool)(x:Guest):zcv h m (chg b g k x)=zcv h m (chg c g k x):=by
 unfold chg;rw [hS.has];cases (cond (zbM c g) k false)
 ·exact back_eq hS.g hS.p
 ·exact back_eq (by simp only [cT,zdq,hS.g]) hS.p
theorem ziF {b c:Bare}(hS:SameB b c)(g:Int)(k:Bool):zbz b g k=zbz c g k:=by
 unfold zbz;rw [hS.has]
theorem zgU {h:Host}{m:Int}(h0:zcc h m=true)(hv:zbJ (zck (ix h.Mons m mZ))=true):SameB (zck (ix h.Mons m mZ)) (zo h m):=by
 obtain ⟨h1,h2⟩:=zb1.1 h0;refine ⟨?_,?_,hv.trans (zy6 h1 h2).symm⟩<;>unfold zo zck<;>rw [h2]<;>rfl
theorem zWc:ziO zFz 8=true:=by decide
theorem zkF {h:Host}{m:Int}(h0:zcc h m=true):zbJ (zck (ix h.Mons m mZ))=true:=by
 obtain ⟨h1,h2⟩:=zb1.1 h0;have:=zy6 h1 h2;unfold zo at this;rw [h2,cT] at this;unfold zbJ at this ⊢;simp only [zck,zWc] at *
 simp_all
theorem zdR {x:Mon}(h:zeU x):SmB (zck x):=⟨show SmM zFz from ⟨by decide,by decide⟩,h.2.2.2.1,h.2.2.2.2.1⟩
def zdK (h:Host)(m:Int)(b:Bare):Host:=bif zcc h m then zcv h m b else h
def zdc (h:Host)(m:Int)(ok:Bool):Bool:=bif zcc h m then ok else false
@[simp] abbrev zhC (b:Bare)(g p:Int)(s:Slot):Bare:=chg b g (zok p s) (zt1 (gAt b g) p s)
@[simp] abbrev zjx (b:Bare)(g p:Int)(s:Slot):Bool:=zbz b g (zok p s)
@[simp] abbrev zfy (b:Bare)(g v:Int):Bare:=chg b g (znV (gAt b g) v) (zrr (gAt b g) v)
@[simp] abbrev zgz (b:Bare)(g v:Int):Bool:=zbz b g (znV (gAt b g) v)
@[simp] abbrev zfA (b:Bare)(g:Int):Bare:=chg b g (zrE (gAt b g)) (zrF (gAt b g))
@[simp] abbrev zgB (b:Bare)(g:Int):Bool:=zbz b g (zrE (gAt b g))
@[simp] abbrev zfz (b:Bare)(g n:Int):Bare:=chg b g (zeR (gAt b g).Pending n) (zj6 (gAt b g) n)
@[simp] abbrev zgA (b:Bare)(g n:Int):Bool:=zbz b g (zeR (gAt b g).Pending n)
@[simp] abbrev zhB (b:Bare)(g:Int)(c:Ctl):Bare:=chg b g (zgX c) (zz5 (gAt b g) c)
@[simp] abbrev zjw (b:Bare)(g:Int)(c:Ctl):Bool:=zbz b g (zgX c)
@[simp] abbrev zjv (b:Bare):Bare:=zjg b
@[simp] abbrev zmU (b:Bare):Int:=znU b
@[simp] abbrev zmV (b:Bare):Bool:=ziC b
@[simp] abbrev zic (b:Bare)(n:Int):Bare:=zg5 b n
@[simp] abbrev zkX (b:Bare)(n:Int):Bool:=zdU b n
@[simp] abbrev zMB (h:Host)(m:Int)(g p:Int)(s:Slot):Host:=zdK h m (zhC (zo h m) g p s)
@[simp] abbrev zMC (h:Host)(m:Int)(g p:Int)(s:Slot):Bool:=zdc h m (zjx (zo h m) g p s)
@[simp] abbrev zFs (h:Host)(m:Int)(g v:Int):Host:=zdK h m (zfy (zo h m) g v)
@[simp] abbrev zFt (h:Host)(m:Int)(g v:Int):Bool:=zdc h m (zgz (zo h m) g v)
@[simp] abbrev zFw (h:Host)(m:Int)(g:Int):Host:=zdK h m (zfA (zo h m) g)
@[simp] abbrev zFx (h:Host)(m:Int)(g:Int):Bool:=zdc h m (zgB (zo h m) g)
@[simp] abbrev zFu (h:Host)(m:Int)(g n:Int):Host:=zdK h m (zfz (zo h m) g n)
@[simp] abbrev zFv (h:Host)(m:Int)(g n:Int):Bool:=zdc h m (zgA (zo h m) g n)
@[simp] abbrev zMz (h:Host)(m:Int)(g:Int)(x:Ctl):Host:=zdK h m (zhB (zo h m) g x)
@[simp] abbrev zMA (h:Host)(m:Int)(g:Int)(x:Ctl):Bool:=zdc h m (zjw (zo h m) g x)
@[simp] abbrev zKB (h:Host)(m:Int)(n:Int):Host:=zdK h m (zic (zo h m) n)
@[simp] abbrev zKC (h:Host)(m:Int)(n:Int):Bool:=zdc h m (zkX (zo h m) n)
@[simp] abbrev zMw (h:Host)(m:Int):Host:=zdK h m (zjv (zo h m))
@[simp] abbrev zMx (h:Host)(m:Int):Int:=bif zcc h m then zmU (zo h m) else -1
@[simp] abbrev zMy (h:Host)(m:Int):Bool:=zdc h m (zmV (zo h m))
@[simp] abbrev zIf (h:Host)(m g p:Int):Bool:=zdc h m (zbz (zo h m) g (hasB p 4))
theorem zRq {b c:Bare}(hS:SameB b c)(n:Int):(zg5 b n).Guests=(zg5 c n).Guests/\(zg5 b n).Pending=(zg5 c n).Pending/\zdU b n=zdU c n:=by
 have e:zdU b n=zdU c n:=by unfold zdU;rw [hS.o]
 unfold zg5;rw [e];cases zdU c n
 ·exact ⟨hS.g,hS.p,rfl⟩
 ·unfold zxM;rw [hS.g];cases ieq (ln (zdf c.Guests n)) 0
  ·exact ⟨by simp only [cT,cF],by simp only [cT,cF,hS.p],rfl⟩
  ·exact ⟨by simp only [cT,hS.g],by simp only [cT,hS.p],rfl⟩
theorem zR6 {b c:Bare}(hS:SameB b c):(zjg b).Guests=(zjg c).Guests/\(zjg b).Pending=(zjg c).Pending/\znU b=znU c/\ziC b=ziC c:=by
 unfold zjg znU ziC;rw [hS.o,hS.p];cases zbJ c
 ·exact ⟨hS.g,hS.p,rfl,rfl⟩
 ·exact ⟨hS.g,rfl,rfl,rfl⟩
theorem zRL {b:Bare}{n:Int}(h:SmB b):SmB (zg5 b n):=by
 unfold zg5;cases zdU b n
 ·exact h
 ·unfold zxM;cases ieq (ln (zdf b.Guests n)) 0
  ·exact ⟨h.1,(zxc _ zDy h.2.1).1,h.2.2⟩
  ·exact h
theorem zTB {b:Bare}(h:SmB b):SmB (zjg b):=by
 unfold zjg;cases zbJ b
 ·exact h
 ·exact h
theorem zoW {H H':Host}{x y:Bool}(h1:H=H')(h2:x=y):some [AV.agg (zbE H),AV.one (.b x)]=some [AV.agg (zbE H'),AV.one (.b y)]:=by rw [h1,h2]
theorem zVt {H H':Host}{n k:Int}{x y:Bool}(h1:H=H')(h2:n=k)(h3:x=y):some [AV.agg (zbE H),AV.one (.i .i64 n),AV.one (.b x)]=some [AV.agg (zbE H'),AV.one (.i .i64 k),AV.one (.b y)]:=by rw [h1,h2,h3]
theorem zNQ {b:Bare}(g p:Int)(s:Slot)(hb:SmB b):SmB (zhC b g p s):=zmC hb (zTE _ _ (zhs _ hb))
theorem zTx {b c:Bare}(hS:SameB b c)(h:Host)(m:Int)(g p:Int)(s:Slot):zcv h m (zhC b g p s)=zcv h m (zhC c g p s)/\zjx b g p s=zjx c g p s:=by
 have e:=hS.at g;simp only [zhC,zjx,e];exact ⟨zlT hS _ _ _ _ _,ziF hS _ _⟩
@[simp] abbrev zrM (h:Host)(m:Int)(g p:Int)(s:Slot):Bool:=pc (zb3 h)
@[simp] abbrev zng (h:Host)(m:Int)(g p:Int)(s:Slot):Host:=zdK h m (zhC (zo h m) g p s)
@[simp] abbrev znh (h:Host)(m:Int)(g p:Int)(s:Slot):Bool:=zdc h m (zjx (zo h m) g p s)
def zuA:Run:=rF5 dH dI dI dI (dT .slot) (fun b c d e f=>((zrM b c d e f),[aH (zng b c d e f),aB (znh b c d e f)]))
def zyN (N:Nat)(a0:Host)(a1 a2 a3:Int)(a4:Slot):OA :=
 let y1:=(zi a0);let y0:=(ix y1.Mons a1 zf); (oN (zbq a0) (oN (zek y1 a1) (cond (nB (zej y1 a1)) (some [(aH y1),(aB false)]) (oN (inb a1 (ln y1.Mons)) (oN (zdI y0) (oN (zm5 (zbn y0) a2 a3 a4) (oN (zdH y1 a1 (zgn (zbn y0) a2 a3 a4)) (some [(aH (zfs y1 a1 (zgn (zbn y0) a2 a3 a4))),(aB (zhH (zbn y0) a2 a3 a4))]))))))))
theorem zHN (a0:Host)(a1 a2 a3:Int)(a4:Slot)(hc:(zrM a0 a1 a2 a3 a4)=true):∃N,zyN N a0 a1 a2 a3 a4=some [aH (zng a0 a1 a2 a3 a4),aB (znh a0 a1 a2 a3 a4)]:=by
 have hs:=(zO a0).1 (zJ.1 hc);refine ⟨0,?_⟩;have key:=zkn (h:=a0) (m:=a1) (cB:=zm5 (zck (ix a0.Mons a1 mZ)) a2 a3 a4) (B:=zgn (zck (ix a0.Mons a1 mZ)) a2 a3 a4) (o0:=fun H=>[.agg (zbE H),.one (.b false)]) (o1:=fun H=>[.agg (zbE H),.one (.b (zhH (zck (ix a0.Mons a1 mZ)) a2 a3 a4))]) hs
  (fun h0=>zbc (zdR (hs.2.1.2 _ (zbj (zb1.1 h0).2 _)))) (fun h0=>zNQ _ _ _ (zdR (hs.2.1.2 _ (zbj (zb1.1 h0).2 _))))
 refine (show zyN 0 a0 a1 a2 a3 a4=_ from key).trans ?_
 unfold zng znh zdK zdc;cases h0:zcc a0 a1
 ·rfl
 ·obtain ⟨e1,e2⟩:=zTx (zgU h0 (zkF h0)) a0 a1 a2 a3 a4;simp only [cT];exact zoW e1 e2
theorem zCz:Holds Tryz.prog 38 zuA:=kF5 zgP zy zbT zcC (zA []) zHN
theorem zDN {b:Bare}(g v:Int)(hb:SmB b):SmB (zfy b g v):=zmC hb (zTC _ (zhs _ hb))
theorem zMW {b c:Bare}(hS:SameB b c)(h:Host)(m:Int)(g v:Int):zcv h m (zfy b g v)=zcv h m (zfy c g v)/\zgz b g v=zgz c g v:=by
 have e:=hS.at g;simp only [zfy,zgz,e];exact ⟨zlT hS _ _ _ _ _,ziF hS _ _⟩
@[simp] abbrev zms (h:Host)(m:Int)(g v:Int):Bool:=pc (zb3 h)
@[simp] abbrev zi1 (h:Host)(m:Int)(g v:Int):Host:=zdK h m (zfy (zo h m) g v)
@[simp] abbrev zi2 (h:Host)(m:Int)(g v:Int):Bool:=zdc h m (zgz (zo h m) g v)
def zpB:Run:=rF4 dH dI dI dI (fun b c d e=>((zms b c d e),[aH (zi1 b c d e),aB (zi2 b c d e)]))
def zr6 (N:Nat)(a0:Host)(a1 a2 a3:Int):OA :=
 let y1:=(zi a0);let y0:=(ix y1.Mons a1 zf); (oN (zbq a0) (oN (zek y1 a1) (cond (nB (zej y1 a1)) (some [(aH y1),(aB false)]) (oN (inb a1 (ln y1.Mons)) (oN (zdI y0) (oN (ziU (zbn y0) a2 a3) (oN (zdH y1 a1 (zez (zbn y0) a2 a3)) (some [(aH (zfs y1 a1 (zez (zbn y0) a2 a3))),(aB (zfB (zbn y0) a2 a3))]))))))))
theorem zAS (a0:Host)(a1 a2 a3:Int)(hc:(zms a0 a1 a2 a3)=true):∃N,zr6 N a0 a1 a2 a3=some [aH (zi1 a0 a1 a2 a3),aB (zi2 a0 a1 a2 a3)]:=by
 have hs:=(zO a0).1 (zJ.1 hc);refine ⟨0,?_⟩;have key:=zkn (h:=a0) (m:=a1) (cB:=ziU (zck (ix a0.Mons a1 mZ)) a2 a3) (B:=zez (zck (ix a0.Mons a1 mZ)) a2 a3) (o0:=fun H=>[.agg (zbE H),.one (.b false)]) (o1:=fun H=>[.agg (zbE H),.one (.b (zfB (zck (ix a0.Mons a1 mZ)) a2 a3))]) hs
  (fun h0=>zbc (zdR (hs.2.1.2 _ (zbj (zb1.1 h0).2 _)))) (fun h0=>zDN _ _ (zdR (hs.2.1.2 _ (zbj (zb1.1 h0).2 _))))
 refine (show zr6 0 a0 a1 a2 a3=_ from key).trans ?_
 unfold zi1 zi2 zdK zdc;cases h0:zcc a0 a1
 ·rfl
 ·obtain ⟨e1,e2⟩:=zMW (zgU h0 (zkF h0)) a0 a1 a2 a3;simp only [cT];exact zoW e1 e2
theorem zv1:Holds Tryz.prog 40 zpB:=kF4 zgP zy zbT zcC (zA []) zAS
theorem zDP {b:Bare}(g:Int)(hb:SmB b):SmB (zfA b g):=zmC hb (zTD (zhs _ hb))
theorem zMY {b c:Bare}(hS:SameB b c)(h:Host)(m:Int)(g:Int):zcv h m (zfA b g)=zcv h m (zfA c g)/\zgB b g=zgB c g:=by
 have e:=hS.at g;simp only [zfA,zgB,e];exact ⟨zlT hS _ _ _ _ _,ziF hS _ _⟩
@[simp] abbrev zmu (h:Host)(m:Int)(g:Int):Bool:=pc (zb3 h)
@[simp] abbrev zi5 (h:Host)(m:Int)(g:Int):Host:=zdK h m (zfA (zo h m) g)
@[simp] abbrev zi6 (h:Host)(m:Int)(g:Int):Bool:=zdc h m (zgB (zo h m) g)
def zpD:Run:=rF3 dH dI dI (fun b c d=>((zmu b c d),[aH (zi5 b c d),aB (zi6 b c d)]))
def zr8 (N:Nat)(a0:Host)(a1 a2:Int):OA :=
 let y1:=(zi a0);let y0:=(ix y1.Mons a1 zf); (oN (zbq a0) (oN (zek y1 a1) (cond (nB (zej y1 a1)) (some [(aH y1),(aB false)]) (oN (inb a1 (ln y1.Mons)) (oN (zdI y0) (oN (ziW (zbn y0) a2) (oN (zdH y1 a1 (zeB (zbn y0) a2)) (some [(aH (zfs y1 a1 (zeB (zbn y0) a2))),(aB (zfD (zbn y0) a2))]))))))))
theorem zAU (a0:Host)(a1 a2:Int)(hc:(zmu a0 a1 a2)=true):∃N,zr8 N a0 a1 a2=some [aH (zi5 a0 a1 a2),aB (zi6 a0 a1 a2)]:=by
 have hs:=(zO a0).1 (zJ.1 hc);refine ⟨0,?_⟩;have key:=zkn (h:=a0) (m:=a1) (cB:=ziW (zck (ix a0.Mons a1 mZ)) a2) (B:=zeB (zck (ix a0.Mons a1 mZ)) a2) (o0:=fun H=>[.agg (zbE H),.one (.b false)]) (o1:=fun H=>[.agg (zbE H),.one (.b (zfD (zck (ix a0.Mons a1 mZ)) a2))]) hs
  (fun h0=>zbc (zdR (hs.2.1.2 _ (zbj (zb1.1 h0).2 _)))) (fun h0=>zDP _ (zdR (hs.2.1.2 _ (zbj (zb1.1 h0).2 _))))
 refine (show zr8 0 a0 a1 a2=_ from key).trans ?_
 unfold zi5 zi6 zdK zdc;cases h0:zcc a0 a1
 ·rfl
 ·obtain ⟨e1,e2⟩:=zMY (zgU h0 (zkF h0)) a0 a1 a2;simp only [cT];exact zoW e1 e2
theorem zv3:Holds Tryz.prog 41 zpD:=kF3 zgP zy zbT zcC (zA []) zAU
theorem zDO {b:Bare}(g n:Int)(hb:SmB b):SmB (zfz b g n):=zmC hb (zhs (b:=b) _ hb)
theorem zMX {b c:Bare}(hS:SameB b c)(h:Host)(m:Int)(g n:Int):zcv h m (zfz b g n)=zcv h m (zfz c g n)/\zgA b g n=zgA c g n:=by
 have e:=hS.at g;simp only [zfz,zgA,e];exact ⟨zlT hS _ _ _ _ _,ziF hS _ _⟩
@[simp] abbrev zmt (h:Host)(m:Int)(g n:Int):Bool:=pc (zb3 h)
@[simp] abbrev zi3 (h:Host)(m:Int)(g n:Int):Host:=zdK h m (zfz (zo h m) g n)
@[simp] abbrev zi4 (h:Host)(m:Int)(g n:Int):Bool:=zdc h m (zgA (zo h m) g n)
def zpC:Run:=rF4 dH dI dI dI (fun b c d e=>((zmt b c d e),[aH (zi3 b c d e),aB (zi4 b c d e)]))
def zr7 (N:Nat)(a0:Host)(a1 a2 a3:Int):OA :=
 let y1:=(zi a0);let y0:=(ix y1.Mons a1 zf); (oN (zbq a0) (oN (zek y1 a1) (cond (nB (zej y1 a1)) (some [(aH y1),(aB false)]) (oN (inb a1 (ln y1.Mons)) (oN (zdI y0) (oN (ziV (zbn y0) a2 a3) (oN (zdH y1 a1 (zeA (zbn y0) a2 a3)) (some [(aH (zfs y1 a1 (zeA (zbn y0) a2 a3))),(aB (zfC (zbn y0) a2 a3))]))))))))
theorem zAT (a0:Host)(a1 a2 a3:Int)(hc:(zmt a0 a1 a2 a3)=true):∃N,zr7 N a0 a1 a2 a3=some [aH (zi3 a0 a1 a2 a3),aB (zi4 a0 a1 a2 a3)]:=by
 have hs:=(zO a0).1 (zJ.1 hc);refine ⟨0,?_⟩;have key:=zkn (h:=a0) (m:=a1) (cB:=ziV (zck (ix a0.Mons a1 mZ)) a2 a3) (B:=zeA (zck (ix a0.Mons a1 mZ)) a2 a3) (o0:=fun H=>[.agg (zbE H),.one (.b false)]) (o1:=fun H=>[.agg (zbE H),.one (.b (zfC (zck (ix a0.Mons a1 mZ)) a2 a3))]) hs
  (fun h0=>zbc (zdR (hs.2.1.2 _ (zbj (zb1.1 h0).2 _)))) (fun h0=>zDO _ _ (zdR (hs.2.1.2 _ (zbj (zb1.1 h0).2 _))))
 refine (show zr7 0 a0 a1 a2 a3=_ from key).trans ?_
 unfold zi3 zi4 zdK zdc;cases h0:zcc a0 a1
 ·rfl
 ·obtain ⟨e1,e2⟩:=zMX (zgU h0 (zkF h0)) a0 a1 a2 a3;simp only [cT];exact zoW e1 e2
theorem zv2:Holds Tryz.prog 42 zpC:=kF4 zgP zy zbT zcC (zA []) zAT
theorem zNP {b:Bare}(g:Int)(x:Ctl)(hb:SmB b):SmB (zhB b g x):=zmC hb (zhs (b:=b) _ hb)
theorem zTw {b c:Bare}(hS:SameB b c)(h:Host)(m:Int)(g:Int)(x:Ctl):zcv h m (zhB b g x)=zcv h m (zhB c g x)/\zjw b g x=zjw c g x:=by
 have e:=hS.at g;simp only [zhB,zjw,e];exact ⟨zlT hS _ _ _ _ _,ziF hS _ _⟩
@[simp] abbrev zrJ (h:Host)(m:Int)(g:Int)(x:Ctl):Bool:=pc (zb3 h)
@[simp] abbrev znc (h:Host)(m:Int)(g:Int)(x:Ctl):Host:=zdK h m (zhB (zo h m) g x)
@[simp] abbrev znd (h:Host)(m:Int)(g:Int)(x:Ctl):Bool:=zdc h m (zjw (zo h m) g x)
def zux:Run:=rF4 dH dI dI dC (fun b c d e=>((zrJ b c d e),[aH (znc b c d e),aB (znd b c d e)]))
def zyK (N:Nat)(a0:Host)(a1 a2:Int)(a3:Ctl):OA :=
 let y1:=(zi a0);let y0:=(ix y1.Mons a1 zf); (oN (zbq a0) (oN (zek y1 a1) (cond (nB (zej y1 a1)) (some [(aH y1),(aB false)]) (oN (inb a1 (ln y1.Mons)) (oN (zdI y0) (oN (zm4 (zbn y0) a2 a3) (oN (zdH y1 a1 (zgm (zbn y0) a2 a3)) (some [(aH (zfs y1 a1 (zgm (zbn y0) a2 a3))),(aB (zhG (zbn y0) a2 a3))]))))))))
theorem zHK (a0:Host)(a1 a2:Int)(a3:Ctl)(hc:(zrJ a0 a1 a2 a3)=true):∃N,zyK N a0 a1 a2 a3=some [aH (znc a0 a1 a2 a3),aB (znd a0 a1 a2 a3)]:=by
 have hs:=(zO a0).1 (zJ.1 hc);refine ⟨0,?_⟩;have key:=zkn (h:=a0) (m:=a1) (cB:=zm4 (zck (ix a0.Mons a1 mZ)) a2 a3) (B:=zgm (zck (ix a0.Mons a1 mZ)) a2 a3) (o0:=fun H=>[.agg (zbE H),.one (.b false)]) (o1:=fun H=>[.agg (zbE H),.one (.b (zhG (zck (ix a0.Mons a1 mZ)) a2 a3))]) hs
  (fun h0=>zbc (zdR (hs.2.1.2 _ (zbj (zb1.1 h0).2 _)))) (fun h0=>zNP _ _ (zdR (hs.2.1.2 _ (zbj (zb1.1 h0).2 _))))
 refine (show zyK 0 a0 a1 a2 a3=_ from key).trans ?_
 unfold znc znd zdK zdc;cases h0:zcc a0 a1
 ·rfl
 ·obtain ⟨e1,e2⟩:=zTw (zgU h0 (zkF h0)) a0 a1 a2 a3;simp only [cT];exact zoW e1 e2
theorem zCw:Holds Tryz.prog 43 zux:=kF4 zgP zy zbT zcC (zA []) zHK
theorem zLj {b:Bare}(n:Int)(hb:SmB b):SmB (zic b n):=zRL hb
theorem zRB {b c:Bare}(hS:SameB b c)(h:Host)(m n:Int):zcv h m (zic b n)=zcv h m (zic c n)/\zkX b n=zkX c n:=by
 obtain ⟨e1,e2,e3⟩:=zRq hS n;exact ⟨back_eq e1 e2,e3⟩
@[simp] abbrev zpN (h:Host)(m:Int)(n:Int):Bool:=pc (zb3 h)
@[simp] abbrev zlp (h:Host)(m:Int)(n:Int):Host:=zdK h m (zic (zo h m) n)
@[simp] abbrev zlq (h:Host)(m:Int)(n:Int):Bool:=zdc h m (zkX (zo h m) n)
def zsE:Run:=rF3 dH dI dI (fun b c d=>((zpN b c d),[aH (zlp b c d),aB (zlq b c d)]))
def zvo (N:Nat)(a0:Host)(a1 a2:Int):OA :=
 let y1:=(zi a0);let y0:=(ix y1.Mons a1 zf); (oN (zbq a0) (oN (zek y1 a1) (cond (nB (zej y1 a1)) (some [(aH y1),(aB false)]) (oN (inb a1 (ln y1.Mons)) (oN (zdI y0) (oN (zli (zbn y0) a2) (oN (zdH y1 a1 (zgF (zbn y0) a2)) (some [(aH (zfs y1 a1 (zgF (zbn y0) a2))),(aB (zik (zbn y0) a2))]))))))))
theorem zFb (a0:Host)(a1 a2:Int)(hc:(zpN a0 a1 a2)=true):∃N,zvo N a0 a1 a2=some [aH (zlp a0 a1 a2),aB (zlq a0 a1 a2)]:=by
 have hs:=(zO a0).1 (zJ.1 hc);refine ⟨0,?_⟩;have key:=zkn (h:=a0) (m:=a1) (cB:=zli (zck (ix a0.Mons a1 mZ)) a2) (B:=zgF (zck (ix a0.Mons a1 mZ)) a2) (o0:=fun H=>[.agg (zbE H),.one (.b false)]) (o1:=fun H=>[.agg (zbE H),.one (.b (zik (zck (ix a0.Mons a1 mZ)) a2))]) hs
  (fun h0=>zbc (zdR (hs.2.1.2 _ (zbj (zb1.1 h0).2 _)))) (fun h0=>zLj _ (zdR (hs.2.1.2 _ (zbj (zb1.1 h0).2 _))))
 refine (show zvo 0 a0 a1 a2=_ from key).trans ?_
 unfold zlp zlq zdK zdc;cases h0:zcc a0 a1
 ·rfl
 ·obtain ⟨e1,e2⟩:=zRB (zgU h0 (zkF h0)) a0 a1 a2;simp only [cT];exact zoW e1 e2
theorem zAt:Holds Tryz.prog 46 zsE:=kF3 zgP zy zbT zcC (zA []) zFb
theorem zNO {b:Bare}(hb:SmB b):SmB (zjv b):=zTB hb
theorem zTv {b c:Bare}(hS:SameB b c)(h:Host)(m:Int):zcv h m (zjv b)=zcv h m (zjv c)/\zmU b=zmU c/\zmV b=zmV c:=by
 obtain ⟨e1,e2,e3,e4⟩:=zR6 hS;exact ⟨back_eq e1 e2,e3,e4⟩
@[simp] abbrev zrI (h:Host)(m:Int):Bool:=pc (zb3 h)
@[simp] abbrev zm8 (h:Host)(m:Int):Host:=zdK h m (zjv (zo h m))
@[simp] abbrev zm9 (h:Host)(m:Int):Int:=bif zcc h m then zmU (zo h m) else -1
@[simp] abbrev zna (h:Host)(m:Int):Bool:=zdc h m (zmV (zo h m))
def zuv:Run:=rF2 dH dI (fun b c=>((zrI b c),[aH (zm8 b c),aI (zm9 b c),aB (zna b c)]))
def zyI (N:Nat)(a0:Host)(a1:Int):OA :=
 let y1:=(zi a0);let y0:=(ix y1.Mons a1 zf); (oN (zbq a0) (oN (zek y1 a1) (cond (nB (zej y1 a1)) (some [(aH y1),(aI (-1)),(aB false)]) (oN (inb a1 (ln y1.Mons)) (oN (zdI y0) (oN (zm3 (zbn y0)) (oN (zdH y1 a1 (zgl (zbn y0))) (some [(aH (zfs y1 a1 (zgl (zbn y0)))),(aI (zhE (zbn y0))),(aB (zhF (zbn y0)))]))))))))
theorem zHI (a0:Host)(a1:Int)(hc:(zrI a0 a1)=true):∃N,zyI N a0 a1=some [aH (zm8 a0 a1),aI (zm9 a0 a1),aB (zna a0 a1)]:=by
 have hs:=(zO a0).1 (zJ.1 hc);refine ⟨0,?_⟩;have key:=zkn (h:=a0) (m:=a1) (cB:=zm3 (zck (ix a0.Mons a1 mZ))) (B:=zgl (zck (ix a0.Mons a1 mZ))) (o0:=fun H=>[.agg (zbE H),.one (.i .i64 (-1)),.one (.b false)]) (o1:=fun H=>[.agg (zbE H),.one (.i .i64 (zhE (zck (ix a0.Mons a1 mZ)))),.one (.b (zhF (zck (ix a0.Mons a1 mZ))))]) hs
  (fun h0=>zbc (zdR (hs.2.1.2 _ (zbj (zb1.1 h0).2 _)))) (fun h0=>zNO (zdR (hs.2.1.2 _ (zbj (zb1.1 h0).2 _))))
 refine (show zyI 0 a0 a1=_ from key).trans ?_
 unfold zm8 zm9 zna zdK zdc;cases h0:zcc a0 a1
 ·rfl
 ·obtain ⟨e1,e2,e3⟩:=zTv (zgU h0 (zkF h0)) a0 a1;simp only [cT];exact zVt e1 e2 e3
theorem zCu:Holds Tryz.prog 47 zuv:=kF2 zgP zy zbT zcC (zA []) zHI
def zP8:zS:=[(38,zuA),(40,zpB),(41,zpD),(42,zpC),(43,zux),(46,zsE),(47,zuv)]++zP7
theorem zql:zD zP8:=zk zCz (zk zv1 (zk zv3 (zk zv2 (zk zCw (zk zAt (zk zCu zgP))))))
def zha (h:Host)(m t:Int):Host:=bif zbN h then (cond (hasB m (ln h.Mons)) (cond (win t 0 3) { h with Mons:=up h.Mons m { ix h.Mons m mZ with Traps:=t } } h) h) else h
def zt0 (h:Host)(m t:Int):Bool:=bif zbN h then (cond (hasB m (ln h.Mons)) (win t 0 3) false) else false
@[simp] abbrev zpR (h:Host)(m t:Int):Bool:=pc (zb3 h)
@[simp] abbrev zly (h:Host)(m t:Int):Host:=zha h m t
@[simp] abbrev zlz (h:Host)(m t:Int):Bool:=zt0 h m t
def zsJ:Run:=rF3 dH dI dI (fun b c d=>((zpR b c d),[aH (zly b c d),aB (zlz b c d)]))
def zvs (N:Nat)(a0:Host)(a1 a2:Int):OA :=
 let y0:=(zi a0); (oN (zbq a0) (oN (zeb y0) (cond (nB (zea y0)) (some [(aH y0),(aB false)]) (oN (zF a1 0 (wsub .i64 (ln y0.Mons) 1)) (cond (nB (zI a1 0 (wsub .i64 (ln y0.Mons) 1))) (some [(aH y0),(aB false)]) (oN (zF a2 0 3) (cond (nB (zI a2 0 3)) (some [(aH y0),(aB false)]) (oN (inb a1 (ln y0.Mons)) (share (up y0.Mons a1 ({ (ix y0.Mons a1 zf) with Traps:=a2 }:Mon)) (fun x4=>(some [(aH ({ y0 with Mons:=x4 }:Host)),(aB true)])))))))))))
theorem zFg (a0:Host)(a1 a2:Int)(hc:(zpR a0 a1 a2)=true):∃N,zvs N a0 a1 a2=some [aH (zly a0 a1 a2),aB (zlz a0 a1 a2)]:=by
 have hs:=(zO a0).1 (zJ.1 hc);refine ⟨0,?_⟩;unfold zvs zly zlz zha zt0 oN nB
 conv=>zeta
 refine must hc (must rfl ?_);rw [show zea (zi a0)=zbN a0 from rfl]
 cases hh:zbN a0
 ·rfl
 ·refine zdx rfl (must rfl ?_);rw [show zI a1 0 (wsub .i64 (ln (zi a0).Mons) 1)=hasB a1 (ln a0.Mons) from zFX hh a1]
  cases hm:hasB a1 (ln a0.Mons)
  ·rfl
  ·refine zdx rfl (must rfl ?_);rw [show zI a2 0 3=win a2 0 3 from rfl]
   cases ht:win a2 0 3
   ·rfl
   ·exact zdx rfl (must (zx hm) rfl)
theorem zAz:Holds Tryz.prog 64 zsJ:=kF3 zql zy zbT zcC (zA []) zFg
theorem zhD {h:Host}{m p:Int}:(zbW h m p=true)↔zbN h=true/\hasB m (ln h.Mons)=true/\hasB p 8=true:=by
 unfold zbW;cases zbN h<;>cases hasB m (ln h.Mons)<;>simp
def zhU (h:Host)(m p:Int):Bool:=ieq (ix (ix h.Mons m mZ).Outer p sZ).Page (-1)
def zmb (h:Host)(m p:Int):Host:=bif zbW h m p then (cond (zhU h m p) h (zc5 h m p)) else h
def zwn (h:Host)(m p:Int):Bool:=bif zbW h m p then !zhU h m p else false
def zpw (h:Host)(m p:Int):Host:=bif zbW h m p then (cond (zhU h m p) (fetched h m p) h) else h
def zA0 (h:Host)(m p:Int):Bool:=bif zbW h m p then zhU h m p else false
@[simp] abbrev zrQ (h:Host)(m p:Int):Bool:=pc (zb3 h)
@[simp] abbrev znk (h:Host)(m p:Int):Host:=zmb h m p
@[simp] abbrev znl (h:Host)(m p:Int):Bool:=zwn h m p
@[simp] abbrev ztS (h:Host)(m p:Int):Bool:=pc (zb3 h)
@[simp] abbrev zoK (h:Host)(m p:Int):Host:=zpw h m p
@[simp] abbrev zoL (h:Host)(m p:Int):Bool:=zA0 h m p
theorem zDn {h:Host}(hs:SmH h)(hh:zbN h=true){m p:Int}(hm:hasB m (ln h.Mons)=true)(hp:hasB p 8=true) :
 (cond (ieq (ix (ix h.Mons m mZ).Outer p sZ).Page (-1)) (ieq (ix (ix h.Mons m mZ).Outer p sZ).Rights 0) false)=zhU h m p:=by
 have hf:=(zoD (zfj hh _ (zbj hm mZ)) hp).no;unfold zcz at hf;unfold zhU;rw [<- hf];cases h1:ieq (ix (ix h.Mons m mZ).Outer p sZ).Page (-1)<;>simp [noSlot,h1]
theorem zGS {h:Host}(hs:SmH h)(hh:zbN h=true){m p:Int}(hm:hasB m (ln h.Mons)=true)(hp:hasB p 8=true):inb p (ln (ix h.Mons m mZ).Outer)=true :=
 zx (by rw [ln,((zd4 hs hh).1.2 _ (zbj hm mZ)).1];exact hp)
def zuG:Run:=rF3 dH dI dI (fun b c d=>((zrQ b c d),[aH (znk b c d),aB (znl b c d)]))
def zyS (N:Nat)(a0:Host)(a1 a2:Int):OA :=
 let y1:=(zi a0);let y0:=(ix y1.Mons a1 zf).Outer; (oN (zbq a0) (oN (zkA y1 a1 a2) (cond (nB (zfU y1 a1 a2)) (some [(aH y1),(aB false)]) (oN (inb a1 (ln y1.Mons)) (oN (inb a2 (ln y0)) (oN zb2 (cond (cond (ieq (ix y0 a2 zX).Page zbg.Page) (ieq (ix y0 a2 zX).Rights zbg.Rights) false) (some [(aH y1),(aB false)]) (oN (zoS y1 a1 a2) (some [(aH (ztZ y1 a1 a2)),(aB true)])))))))))
theorem zHT (a0:Host)(a1 a2:Int)(hc:(zrQ a0 a1 a2)=true):∃N,zyS N a0 a1 a2=some [aH (znk a0 a1 a2),aB (znl a0 a1 a2)]:=by
 have hs:=(zO a0).1 (zJ.1 hc);refine ⟨0,?_⟩;unfold zyS znk znl zmb zwn oN nB
 conv=>zeta
 refine must hc (must rfl ?_);rw [show zfU (zi a0) a1 a2=zbW a0 a1 a2 from rfl]
 cases h0:zbW a0 a1 a2
 ·rfl
 ·obtain ⟨hh,hm,hp⟩:=zhD.1 h0;refine zdx rfl (must (zx hm) (must (zGS hs hh hm hp) (must rfl ?_)));rw [show (cond (ieq (ix (ix (zi a0).Mons a1 zf).Outer a2 zX).Page zbg.Page) (ieq (ix (ix (zi a0).Mons a1 zf).Outer a2 zX).Rights zbg.Rights) false)=zhU a0 a1 a2 from zDn hs hh hm hp]
  cases h1:zhU a0 a1 a2
  ·exact zdx rfl (must (zbc ⟨(zd4 hs hh).1,hm,hp⟩) rfl)
  ·rfl
theorem zCF:Holds Tryz.prog 61 zuG:=kF3 zql zy zbT zcC (zA []) zHT
def zwJ:Run:=rF3 dH dI dI (fun b c d=>((ztS b c d),[aH (zoK b c d),aB (zoL b c d)]))
def zBx (N:Nat)(a0:Host)(a1 a2:Int):OA :=
 let y1:=(zi a0);let y0:=(ix y1.Mons a1 zf).Outer; (oN (zbq a0) (oN (zkA y1 a1 a2) (cond (nB (zfU y1 a1 a2)) (some [(aH y1),(aB false)]) (oN (inb a1 (ln y1.Mons)) (oN (inb a2 (ln y0)) (oN zb2 (cond (nB (cond (ieq (ix y0 a2 zX).Page zbg.Page) (ieq (ix y0 a2 zX).Rights zbg.Rights) false)) (some [(aH y1),(aB false)]) (oN (zrh y1 a1 a2) (some [(aH (zsV y1 a1 a2)),(aB true)])))))))))
theorem zKd (a0:Host)(a1 a2:Int)(hc:(ztS a0 a1 a2)=true):∃N,zBx N a0 a1 a2=some [aH (zoK a0 a1 a2),aB (zoL a0 a1 a2)]:=by
 have hs:=(zO a0).1 (zJ.1 hc);refine ⟨0,?_⟩;unfold zBx zoK zoL zpw zA0 oN nB
 conv=>zeta
 refine must hc (must rfl ?_);rw [show zfU (zi a0) a1 a2=zbW a0 a1 a2 from rfl]
 cases h0:zbW a0 a1 a2
 ·rfl
 ·obtain ⟨hh,hm,hp⟩:=zhD.1 h0;refine zdx rfl (must (zx hm) (must (zGS hs hh hm hp) (must rfl ?_)));rw [show (cond (ieq (ix (ix (zi a0).Mons a1 zf).Outer a2 zX).Page zbg.Page) (ieq (ix (ix (zi a0).Mons a1 zf).Outer a2 zX).Rights zbg.Rights) false)=zhU a0 a1 a2 from zDn hs hh hm hp]
  cases h1:zhU a0 a1 a2
  ·rfl
  ·exact zdx rfl (must (zbc ⟨zd4 hs hh,hm,hp⟩) rfl)
theorem zEF:Holds Tryz.prog 62 zwJ:=kF3 zql zy zbT zcC (zA []) zKd
def zP9:zS:=[(64,zsJ),(61,zuG),(62,zwJ)]++zP8
theorem zGn:zD zP9:=zk zAz (zk zCF (zk zEF zql))
theorem zPI {x:Mon}{b:Bare}(h:zeU x)(hb:zkN b.Guests):zeU (zqh x b):=⟨h.1,h.2.1,h.2.2.1,hb,h.2.2.2.2⟩
theorem zBb {h:Host}{m:Int}{b:Bare}(hs:SmH h)(hm:hasB m (ln h.Mons)=true)(hb:zkN b.Guests):SmH (zcv h m b) :=
 ⟨hs.1,zgV hs.2.1 (zPI (hs.2.1.2 _ (zbj hm _)) hb),hs.2.2⟩
theorem zI2 {h:Host}{m:Int}(b:Bare)(hm:hasB m (ln h.Mons)=true):hasB m (ln (zcv h m b).Mons)=true:=by
 show hasB m (ln (up h.Mons m _))=true
 rw [ln,ze9];exact hm
theorem zVj {h:Host}{m:Int}(b:Bare)(hm:hasB m (ln h.Mons)=true):ix (zcv h m b).Mons m mZ=zqh (ix h.Mons m mZ) b:=by
 obtain ⟨k,rfl,hk⟩:=zex (n:=h.Mons.length) hm;exact zeY hk _ _
def zvT (h:Host)(m g p:Int):Host:=⟨h.Memory,up h.Mons m { ix h.Mons m mZ with Tables:=up (ix h.Mons m mZ).Tables g (zbC (ix (ix h.Mons m mZ).Tables g kZ) p) },zca h.Buffer (zdN m g) p,zca h.IoBuffer (zdN m g) p⟩
def zQD (H:Host)(m g p:Int)(o:Host->Ans):OA :=
 bif inb m (ln H.Mons) then (bif inb m (ln H.Mons) then (bif inb g (ln (ix H.Mons m mZ).Tables) then (bif ziZ (ix (ix H.Mons m mZ).Tables g kZ) p then (bif inb g (ln (ix H.Mons m mZ).Tables) then (share (up H.Mons m { ix H.Mons m mZ with Tables:=up (ix H.Mons m mZ).Tables g (zbC (ix (ix H.Mons m mZ).Tables g kZ) p) }) fun x =>
  (cond (zin m g) (cond (ze4 H.Buffer (zdN m g) p) (cond (zin m g) (cond (ze4 H.IoBuffer (zdN m g) p) (some (o ⟨H.Memory,x,zca H.Buffer (zdN m g) p,zca H.IoBuffer (zdN m g) p⟩)) none) none) none) none)) else none) else none) else none) else none) else none
theorem zQE {H:Host}{m g p:Int}{o:Host->Ans}(hs:SmH H)(hm:hasB m (ln H.Mons)=true)(hg:hasB g (ln (ix H.Mons m mZ).Tables)=true):zQD H m g p o=some (o (zvT H m g p)):=by
 have hx:=hs.2.1.2 _ (zbj hm mZ);unfold zQD;exact must (zx hm) (must (zx hm) (must (zx hg) (must (zbc (hx.2.2.2.2.2.2 _ (zbj hg _))) (must (zx hg) (shr (must rfl (must (zbc hs.2.2.1) (must rfl (must (zbc hs.2.2.2) rfl)))))))))
def zh8 (h:Host)(m g p:Int):Host:=bif zcc h m then (cond (zbz (zo h m) g (hasB p 4)) (zvT (zcv h m (chg (zo h m) g (hasB p 4) (zcY (gAt (zo h m) g) p))) m g p) h) else h
@[simp] abbrev zoh (h:Host)(m g p:Int):Bool:=pc (zb3 h)
@[simp] abbrev zjX (h:Host)(m g p:Int):Host:=zh8 h m g p
@[simp] abbrev zjY (h:Host)(m g p:Int):Bool:=zdc h m (zbz (zo h m) g (hasB p 4))
theorem zMZ {h:Host}{m:Int}(hm:hasB m (ln h.Mons)=true):(zo h m).Guests=(ix h.Mons m mZ).Guests:=by unfold zo;rw [hm];rfl
theorem zGA {h:Host}{m g:Int}{k:Bool}(hs:SmH h)(h0:zcc h m=true)(b:Bare)(hk:zbz (zo h m) g k=true):hasB g (ln (ix (zcv h m b).Mons m mZ).Tables)=true:=by
 obtain ⟨hh,hm⟩:=zb1.1 h0;rw [zVj b hm]
 show hasB g (ln (ix h.Mons m mZ).Tables)=true
 rw [ln,((zd4 hs hh).1.2 _ (zbj hm mZ)).2.2.2,<- zMZ hm];unfold zbz at hk;cases hb:zbM (zo h m) g
 ·rw [hb] at hk;cases hk
 ·exact (zcS.1 hb).2
def zqL:Run:=rF4 dH dI dI dI (fun b c d e=>((zoh b c d e),[aH (zjX b c d e),aB (zjY b c d e)]))
def zuk (N:Nat)(a0:Host)(a1 a2 a3:Int):OA :=
 let y5:=(zo7 a1 a2);let y3:=(zi a0);let y2:=(ix y3.Mons a1 zf);let y0:=(zfs y3 a1 (zdL (zbn y2) a2 a3));let y1:=(ix y0.Mons a1 zf);let y4:=(ix y1.Tables a2 zgO); (oN (zbq a0) (oN (zek y3 a1) (cond (nB (zej y3 a1)) (some [(aH y3),(aB false)]) (oN (inb a1 (ln y3.Mons)) (oN (zdI y2) (oN (zoe (zbn y2) a2 a3) (cond (nB (zfS (zbn y2) a2 a3)) (some [(aH y3),(aB false)]) (oN (zdH y3 a1 (zdL (zbn y2) a2 a3)) (oN (inb a1 (ln y0.Mons)) (oN (inb a1 (ln y0.Mons)) (oN (inb a2 (ln y1.Tables)) (oN (ziZ y4 a3) (oN (inb a2 (ln y1.Tables)) (share (up y0.Mons a1 ({ y1 with Tables:=(up y1.Tables a2 (zil y4 a3)) }:Mon)) (fun x5=>(oN (zin a1 a2) (oN (ze4 y0.Buffer y5 a3) (oN (zin a1 a2) (oN (ze4 y0.IoBuffer y5 a3) (some [(aH (⟨y0.Memory,x5,(zjB y0.Buffer y5 a3),(zjB y0.IoBuffer y5 a3)⟩:Host)),(aB true)]))))))))))))))))))))
theorem zDf (a0:Host)(a1 a2 a3:Int)(hb:zci big [aH a0,aI a1,aI a2,aI a3])(hc:(zoh a0 a1 a2 a3)=true):∃N,zuk N a0 a1 a2 a3=some [aH (zjX a0 a1 a2 a3),aB (zjY a0 a1 a2 a3)]:=by
 have hs:=(zO a0).1 (zJ.1 hc);refine ⟨0,?_⟩;unfold zuk zjX zjY zh8 zdc oN nB
 conv=>zeta
 refine must hc (must rfl ?_);rw [show zej (zi a0) a1=zcc a0 a1 from rfl]
 cases h0:zcc a0 a1
 ·rfl
 ·obtain ⟨hh,hm⟩:=zb1.1 h0;have hx:=hs.2.1.2 _ (zbj hm mZ);have hv:=zdR hx;have hS:=zgU h0 (zkF h0);have hk:zbz (zck (ix a0.Mons a1 mZ)) a2 (hasB a3 4)=zbz (zo a0 a1) a2 (hasB a3 4):=ziF hS _ _;have hB:zcv a0 a1 (zdL (zck (ix a0.Mons a1 mZ)) a2 a3)=zcv a0 a1 (chg (zo a0 a1) a2 (hasB a3 4) (zcY (gAt (zo a0 a1) a2) a3)):=by
   rw [<- hS.at];exact zlT hS _ _ _ _ _
  refine zdx rfl (must (zx hm) (must (zbc hx) (must (zbc hv) ?_)));rw [show zfS (zbn (ix (zi a0).Mons a1 zf)) a2 a3=zbz (zo a0 a1) a2 (hasB a3 4) from hk]
  cases hf:zbz (zo a0 a1) a2 (hasB a3 4)
  ·rfl
  ·have hb:SmB (zdL (zck (ix a0.Mons a1 mZ)) a2 a3):=zmC hv (zDQ _ (zhs _ hv));refine zdx rfl (must (zbc ⟨hm,hb.2.1⟩) ?_);have key:=zQE (H:=zcv a0 a1 (zdL (zck (ix a0.Mons a1 mZ)) a2 a3)) (m:=a1) (g:=a2) (p:=a3) (o:=fun H=>[.agg (zbE H),.one (.b true)]) (zBb hs hm hb.2.1) (zI2 _ hm) (zGA hs h0 _ hf);refine (show _=_ from key).trans ?_
   rw [hB];rfl
theorem zx3:Holds Tryz.prog 39 zqL:=hF4 zGn zy zbT zcC (zA []) zDf
def zQa:zS:=[(39,zqL)]++zP9
theorem zGo:zD zQa:=zk zx3 zGn
def zK5 (h:Host)(m p c v:Int):Host:={ mended h m p 2 with Memory:=zbm (mended h m p 2).Memory (ix (ix (mended h m p 2).Mons m mZ).Outer p sZ).Page c v }
def zd5 (h:Host)(m p c v:Int):Bool:=bif zbW h m p then (cond (hasB c 4) (win v 0 99) false) else false
def zj4 (h:Host)(m p c v:Int):Host:=bif zd5 h m p c v then zK5 h m p c v else h
@[simp] abbrev zpM (h:Host)(m p c v:Int):Bool:=pc (zb3 h)
@[simp] abbrev zln (h:Host)(m p c v:Int):Host:=zj4 h m p c v
@[simp] abbrev zlo (h:Host)(m p c v:Int):Bool:=zd5 h m p c v
def zU5 (H:Host)(m p c v:Int)(o:Host->Ans):OA :=
 bif zjM H m p 2 then (cond (inb m (ln (mended H m p 2).Mons)) (cond (inb p (ln (ix (mended H m p 2).Mons m mZ).Outer)) (cond (zgJ (mended H m p 2).Memory (ix (ix (mended H m p 2).Mons m mZ).Outer p sZ).Page c v) (some (o (zK5 H m p c v))) none) none) none) else none
theorem zTn {h:Host}{m p c v:Int}{o:Host->Ans}(hs:SmH h)(h0:zbW h m p=true):zU5 h m p c v o=some (o (zK5 h m p c v)):=by
 obtain ⟨hh,hm,hp⟩:=zhD.1 h0;have hf:=zd4 hs hh;obtain ⟨h1,h2⟩:=zpX (n:=2) hf hm hp;unfold zU5;refine must (zbc ⟨hf,hm,hp,.inr rfl,zoD (zfj hh _ (zbj hm mZ)) hp⟩) (must (zx h2) (must (zx ?_) (must (zbc h1.1.1) rfl)));rw [ln,(h1.2 _ (zbj h2 mZ)).1];exact hp
def zsD:Run:=rF5 dH dI dI dI dI (fun b c d e f=>((zpM b c d e f),[aH (zln b c d e f),aB (zlo b c d e f)]))
def zvn (N:Nat)(a0:Host)(a1 a2:Int)(a3 a4:Int):OA :=
 let y2:=(zi a0);let y0:=(zkB y2 a1 a2 2);let y1:=(ix y0.Mons a1 zf).Outer;let y3:=(ix y1 a2 zX).Page; (oN (zbq a0) (oN (zkA y2 a1 a2) (cond (nB (zfU y2 a1 a2)) (some [(aH y2),(aB false)]) (oN (zF a3 0 3) (cond (nB (zI a3 0 3)) (some [(aH y2),(aB false)]) (oN (zF a4 0 99) (cond (nB (zI a4 0 99)) (some [(aH y2),(aB false)]) (oN (zjM y2 a1 a2 2) (oN (inb a1 (ln y0.Mons)) (oN (inb a2 (ln y1)) (oN (zgJ y0.Memory y3 a3 a4) (some [(aH ({ y0 with Memory:=(zg8 y0.Memory y3 a3 a4) }:Host)),(aB true)]))))))))))))
theorem zFa (a0:Host)(a1 a2:Int)(a3 a4:Int)(hc:(zpM a0 a1 a2 a3 a4)=true):∃N,zvn N a0 a1 a2 a3 a4=some [aH (zln a0 a1 a2 a3 a4),aB (zlo a0 a1 a2 a3 a4)]:=by
 have hs:=(zO a0).1 (zJ.1 hc);refine ⟨0,?_⟩;unfold zvn zln zlo zj4 zd5 oN nB
 conv=>zeta
 refine must hc (must rfl ?_);rw [show zfU (zi a0) a1 a2=zbW a0 a1 a2 from rfl]
 cases h0:zbW a0 a1 a2
 ·rfl
 ·refine zdx rfl (must rfl ?_);rw [show zI a3 0 3=hasB a3 4 from zXy a3]
  cases h1:hasB a3 4
  ·rfl
  ·refine zdx rfl (must rfl ?_);rw [show zI a4 0 99=win a4 0 99 from rfl]
   cases h2:win a4 0 99
   ·rfl
   ·have key:=zTn (c:=a3) (v:=a4) (o:=fun H=>[.agg (zbE H),.one (.b true)]) hs h0;exact zdx rfl (show _=_ from key)
theorem zAs:Holds Tryz.prog 45 zsD:=kF5 zGo zy zbT zcC (zA []) zFa
def zQb:zS:=[(45,zsD)]++zQa
theorem zQc:zD zQb:=zk zAs zGo
def zQd:zS:=zQb
theorem zvN:zD zQd:=zQc
theorem zQ5 (h:Host)(b:List Entry)(m g page need:Int)(io:Bool):(lookOf h b m g page need io).2.2=zbG h m g page need:=by
 cases hl:zbG h m g page need
 ·rw [zks hl]
 ·rw [zKA hl];unfold zf2 zf3;generalize zfR b m g page need=x;cases x
  ·generalize zdV _ m g page need=y;cases y<;>rfl
  ·rfl
theorem zV9 {h:Host}{m g page need:Int}(b:List Entry)(io:Bool)(hs:SmH h)(hl:zbG h m g page need=true):SmM (lookOf h b m g page need io).1.Memory:=by
 have hg:zbw h m g=true:=by
  unfold zbG at hl;cases h1:zbw h m g
  ·rw [h1] at hl;cases hl
  ·rfl
 exact (zsm hs hg).shape.1.1
def zwb (h:Host)(m g a n:Int):Host×Int×Bool:=lookOf h h.IoBuffer m g (zU a) n true
def zfi (h:Host)(m g a v:Int):Bool:=bif win a 0 15 then (cond (win v 0 99) (zbG h m g (zU a) 2) false) else false
def zl5 (h:Host)(m g a v:Int):Host:=bif zfi h m g a v then { (zwb h m g a 2).1 with Memory:=zbm (zwb h m g a 2).1.Memory (zwb h m g a 2).2.1 (zcA a) v } else h
def zeE (h:Host)(m g a:Int):Bool:=bif win a 0 15 then zbG h m g (zU a) 1 else false
def zj5 (h:Host)(m g a:Int):Host:=bif zeE h m g a then (zwb h m g a 1).1 else h
def znH (h:Host)(m g a:Int):Int:=bif zeE h m g a then cellAt (zwb h m g a 1).1.Memory (zwb h m g a 1).2.1 (zcA a) else 0
@[simp] abbrev zrK (h:Host)(m g a v:Int):Bool:=pc (zb3 h)
@[simp] abbrev zne (h:Host)(m g a v:Int):Host:=zl5 h m g a v
@[simp] abbrev znf (h:Host)(m g a v:Int):Bool:=zfi h m g a v
@[simp] abbrev zpO (h:Host)(m g a:Int):Bool:=pc (zb3 h)
@[simp] abbrev zlr (h:Host)(m g a:Int):Host:=zj5 h m g a
@[simp] abbrev zls (h:Host)(m g a:Int):Int:=znH h m g a
@[simp] abbrev zlt (h:Host)(m g a:Int):Bool:=zeE h m g a
def zuy:Run:=rF5 dH dI dI dI dI (fun b c d e f=>((zrK b c d e f),[aH (zne b c d e f),aB (znf b c d e f)]))
def zyL (N:Nat)(a0:Host)(a1 a2:Int)(a3 a4:Int):OA :=
 let y1:=(zi a0);let y2:=(zhN y1 y1.IoBuffer a1 a2 (zcg a3) 2 true);let y0:=(zd0 y1 y1.IoBuffer a1 a2 (zcg a3) 2 true); (oN (zbq a0) (oN (zF a3 0 15) (cond (nB (zI a3 0 15)) (some [(aH y1),(aB false)]) (oN (zF a4 0 99) (cond (nB (zI a4 0 99)) (some [(aH y1),(aB false)]) (oN (zeT a3) (oN (zhO y1 y1.IoBuffer a1 a2 (zcg a3) 2 true) (cond (nB (zfq y1 y1.IoBuffer a1 a2 (zcg a3) 2 true)) (some [(aH y0),(aB false)]) (oN (zgE a3) (oN (zgJ y0.Memory y2 (zdo a3) a4) (some [(aH ({ y0 with Memory:=(zg8 y0.Memory y2 (zdo a3) a4) }:Host)),(aB true)])))))))))))
theorem zHL (a0:Host)(a1 a2:Int)(a3 a4:Int)(hc:(zrK a0 a1 a2 a3 a4)=true):∃N,zyL N a0 a1 a2 a3 a4=some [aH (zne a0 a1 a2 a3 a4),aB (znf a0 a1 a2 a3 a4)]:=by
 have hs:=(zO a0).1 (zJ.1 hc);refine ⟨0,?_⟩;unfold zyL zne znf zl5 zfi oN nB
 conv=>zeta
 refine must hc (must rfl ?_);rw [show zI a3 0 15=win a3 0 15 from rfl]
 cases h1:win a3 0 15
 ·rfl
 ·refine zdx rfl (must rfl ?_);rw [show zI a4 0 99=win a4 0 99 from rfl]
  cases h2:win a4 0 99
  ·rfl
  ·refine zdx rfl (must rfl (must hc ?_));rw [show zfq (zi a0) (zi a0).IoBuffer a1 a2 (zcg a3) 2 true=zbG a0 a1 a2 (zU a3) 2 from zQ5 _ _ _ _ _ _ _]
   cases h3:zbG a0 a1 a2 (zU a3) 2
   ·rw [show zd0 (zi a0) (zi a0).IoBuffer a1 a2 (zcg a3) 2 true=a0 from congrArg Prod.fst (zks h3)]
    rfl
   ·exact zdx rfl (must rfl (must (zbc (zV9 a0.IoBuffer true hs h3)) rfl))
theorem zCx:Holds Tryz.prog 48 zuy:=kF5 zvN zy zbT zcC (zA []) zHL
def zsF:Run:=rF4 dH dI dI dI (fun b c d e=>((zpO b c d e),[aH (zlr b c d e),aI (zls b c d e),aB (zlt b c d e)]))
def zvp (N:Nat)(a0:Host)(a1 a2 a3:Int):OA :=
 let y1:=(zi a0);let y2:=(zhN y1 y1.IoBuffer a1 a2 (zcg a3) 1 true);let y0:=(zd0 y1 y1.IoBuffer a1 a2 (zcg a3) 1 true); (oN (zbq a0) (oN (zF a3 0 15) (cond (nB (zI a3 0 15)) (some [(aH y1),(aI 0),(aB false)]) (oN (zeT a3) (oN (zhO y1 y1.IoBuffer a1 a2 (zcg a3) 1 true) (cond (nB (zfq y1 y1.IoBuffer a1 a2 (zcg a3) 1 true)) (some [(aH y0),(aI 0),(aB false)]) (oN (zgE a3) (oN (zoH y0.Memory y2 (zdo a3)) (some [(aH y0),(aI (zkb y0.Memory y2 (zdo a3))),(aB true)])))))))))
theorem zFc (a0:Host)(a1 a2 a3:Int)(hc:(zpO a0 a1 a2 a3)=true):∃N,zvp N a0 a1 a2 a3=some [aH (zlr a0 a1 a2 a3),aI (zls a0 a1 a2 a3),aB (zlt a0 a1 a2 a3)]:=by
 have hs:=(zO a0).1 (zJ.1 hc);refine ⟨0,?_⟩;unfold zvp zlr zls zlt zj5 znH zeE oN nB
 conv=>zeta
 refine must hc (must rfl ?_);rw [show zI a3 0 15=win a3 0 15 from rfl]
 cases h1:win a3 0 15
 ·rfl
 ·refine zdx rfl (must rfl (must hc ?_));rw [show zfq (zi a0) (zi a0).IoBuffer a1 a2 (zcg a3) 1 true=zbG a0 a1 a2 (zU a3) 1 from zQ5 _ _ _ _ _ _ _]
  cases h3:zbG a0 a1 a2 (zU a3) 1
  ·rw [show zd0 (zi a0) (zi a0).IoBuffer a1 a2 (zcg a3) 1 true=a0 from congrArg Prod.fst (zks h3)]
   rfl
  ·exact zdx rfl (must rfl (must rfl rfl))
theorem zAu:Holds Tryz.prog 49 zsF:=kF4 zvN zy zbT zcC (zA []) zFc
def zQe:zS:=[(48,zuy),(49,zsF)]++zQd
theorem zQf:zD zQe:=zk zCx (zk zAu zvN)
def zQg:zS:=[(55,zmn),(56,zml)]++zQe
theorem zGp:zD zQg:=zk zpq (zk zpp zQf)
def zhA:Kept:=⟨rp 4 false,ziz⟩
@[simp] abbrev zrO (n:Int):Bool:=ieq n 4
@[simp] abbrev zrf (n:Int):Kept:=zhA
def zuC:Run:=rF1 dI (fun b=>((zrO b),[aT .kept (zrf b)]))
def zLU (N:Nat)(a0:Int):OA :=
 let y0:=(ln (zfe a0)); (oN (zgI a0) (oN (cond (few y0) (ieq y0 y0) false) (some [(aT .kept (⟨(rp y0 false),(zfe a0)⟩:Kept))])))
theorem zHP (a0:Int)(hc:(zrO a0)=true):∃N,zLU N a0=some [aT .kept (zrf a0)]:=by
 refine ⟨0,?_⟩;have h:a0=4:=of_decide_eq_true hc;subst h
 change _=_
 kernel_rfl
theorem zCB:Holds Tryz.prog 57 zuC:=kF1 zGp zy zbT zcC (zA []) zHP
def zQh:zS:=[(57,zuC)]++zQg
theorem zGq:zD zQh:=zk zCB zGp
def zpZ:List Slot:=List.replicate 8 ⟨-1,0⟩
def ze8 (ps:List (List Ins)):Mon:=⟨zpZ,zFz,rp 8 false,(ps.take 2).map zdO,[],0,0,(ps.take 2).map (fun _=>zhA),0⟩
theorem zDi {α β γ ρ:Type}(m:Nat)(f:α->β)(g:α->γ)(K:List β×List γ->Option ρ):∀(l:List α) (i:Nat) (u:List β×List γ),u.1.length+l.length<=2147483648->u.2.length+l.length<=2147483648 ->
 goL (fun (i:Nat) x (u:List β×List γ) k=>bif ilt (i:Int) (m:Int) then (cond (few (ln (ap u.1 [f x]))) (cond (few (ln (ap u.2 [g x]))) (k (ap u.1 [f x],ap u.2 [g x])) none) none) else K u) K l i u=K (u.1++(l.take (m-i)).map f,u.2++(l.take (m-i)).map g)
 | [],i,u,_,_=>by simp [goL]
 | x :: l,i,u,h1,h2=>by
  simp only [List.length_cons] at h1 h2;have e1:few (ln (ap u.1 [f x]))=true:=zf0 (by simp [ap];omega)
  have e2:few (ln (ap u.2 [g x]))=true:=zf0 (by simp [ap];omega)
  by_cases h:i<m
  ·have hi:ilt (i:Int) (m:Int)=true:=decide_eq_true (by omega)
   simp only [goL,hi,e1,e2,cT];rw [zDi m f g K l (i+1) _ (by simp [ap];omega) (by simp [ap];omega)]
   rw [show m-i=m-(i+1)+1 by omega]
   simp [ap]
  ·have hi:ilt (i:Int) (m:Int)=false:=decide_eq_false (by omega)
   simp only [goL,hi,cF];rw [show m-i=0 by omega]
   simp
def zRc (u:List Guest×List Kept):OA:=some [AV.agg (Ty.cells .mon (⟨zpZ,zFz,rp 8 false,u.1,[],0,0,u.2,0⟩:Mon))]
@[simp] abbrev zoI (ps:List (List Ins)):Bool:=pc (zWO ps)
@[simp] abbrev zA7 (ps:List (List Ins)):Mon:=ze8 ps
def zwF:Run:=rF1 (dS (.sl .ins)) (fun b=>((zoI b),[aT .mon (zA7 b)]))
def zBu (N:Nat)(a0:lP):OA :=
 (oN (zgI 8) (oN (zlv 8) (oN (cond (few 8) (ieq 8 8) false) (iter (σ:=(Int×(Int×(Int×(Int×(Int×(Int×(Int×(lP×(lS×(lM×(lB×(lG×((List Int)×(lK×(lS×(lM×(lB×(lG×((List Int)×(lK×Unit))))))))))))))))))))) N (fun r2 s3=>let y8:=s3.2.2.2.2.2.2.2.2.2.2.2.2.2.2.1;let y7:=s3.2.2.2.2.2.2.2.2.2.2.2.2.2.2.2.1;let y6:=s3.2.2.2.2.2.2.2.2.2.2.2.2.2.2.2.2.1;let y5:=s3.2.2.2.2.2.2.2.2.2.2.2.2.2.2.2.2.2.1;let y4:=s3.2.2.2.2.2.2.2.2.2.2.2.2.2.2.2.2.2.2.1;let y3:=s3.2.2.2.2.2.2.2.1;let y2:=s3.2.2.2.2.2.2.2.2.2.2.2.2.2.2.2.2.2.2.2.1;let y1:=(ap y5 [(zll (ix y3 s3.1 []))]);let y0:=(aT .mon (⟨y8,y7,y6,y5,y4,s3.2.2.2.2.1,s3.2.2.2.2.2.1,y2,s3.2.2.2.2.2.2.1⟩:Mon)); (cond (ilt s3.1 (ln y3)) (cond (ilt s3.1 2) (oN (inb s3.1 (ln y3)) (oN (zlm (ix y3 s3.1 [])) (oN (few (ln y1)) (oN (zrO 4) (oN (few (ln (ap y2 [(zrf 4)]))) (r2 ((zK .i64 s3.1 1),(s3.2.1,(s3.2.2.1,(s3.2.2.2.1,(s3.2.2.2.2.1,(s3.2.2.2.2.2.1,(s3.2.2.2.2.2.2.1,(y3,(s3.2.2.2.2.2.2.2.2.1,(s3.2.2.2.2.2.2.2.2.2.1,(s3.2.2.2.2.2.2.2.2.2.2.1,(s3.2.2.2.2.2.2.2.2.2.2.2.1,(s3.2.2.2.2.2.2.2.2.2.2.2.2.1,(s3.2.2.2.2.2.2.2.2.2.2.2.2.2.1,(y8,(y7,(y6,(y1,(y4,((ap y2 [(zrf 4)]),())))))))))))))))))))))))))) (some [y0])) (some [y0]))) (0,(0,(0,(0,(0,(0,(0,(a0,([],([],([],([],([],([],((zfe 8),((zg6 8),((rp 8 false),([],([],([],()))))))))))))))))))))))))
def zLC:FuncId->Nat->Option Tmpl:=zA [(32,0,{ n:=36,tm:=[(0,.sl 0 []),(2,.lp 0 0),(3,.lp 1 0),(4,ti)],lo:=[(0,[.sl 1 [],.sl 2 [],.sl 3 [],.sl 4 [],.sl 5 [],ti,ti,.sl 6 [],ti]),(1,[.sl 7 [],.sl 8 [],.sl 9 [],.sl 10 [],.sl 11 [],ti,ti,.sl 12 [],ti])],ro:=[(0,(.sl .ins),false),(1,.slot,true),(2,(.sl .int),true),(3,.bool,true),(4,.guest,true),(5,.int,true),(6,.kept,true),(7,.slot,true),(8,(.sl .int),true),(9,.bool,true),(10,.guest,true),(11,.int,true),(12,.kept,true)] })]
theorem zJ9 (a0:List lI)(hc:(zoI a0)=true):∃N,zBu N a0=some [aT .mon (zA7 a0)]:=by
 have hs:=zJ.1 hc;have hl:=zc0 hs.1;refine zc9 fun N hNN=>?_;unfold zBu oN
 conv=>zeta
 refine must rfl (must rfl (must rfl ?_));refine (zby a0 (fun i (t:lG×lK)=>((i:Int),0,0,0,0,0,0,a0,[],[],[],[],[],[],(zfe 8),(zg6 8),(rp 8 false),t.1,[],t.2,())) _ (fun i (x:List Ins) (u:List Guest×List Kept) κ=>bif ilt (i:Int) ((2:Nat):Int) then (cond (few (ln (ap u.1 [zdO x]))) (cond (few (ln (ap u.2 [zhA]))) (κ (ap u.1 [zdO x],ap u.2 [zhA])) none) none) else zRc u) (fun (t:lG×lK)=>(some [(.agg (Ty.cells .mon (⟨(zfe 8),(zg6 8),(rp 8 false),t.1,[],0,0,t.2,0⟩:Mon)))])) (fun i hi t rec=>?_) (fun t rec=>?_) _ ([],[]) (hNN hl.1)).trans ?_
 ·simp only [zcb hi,zbx hi,zbF hi,zbu hi hl.1,cT];have hx:zlm a0[i]=true:=zbc (hs.2 _ (List.getElem_mem hi));simp only [hx,cT];rfl
 ·simp only [zb6,cF]
 exact zDi 2 zdO (fun _=>zhA) zRc a0 0 ([],[]) (by simpa using hl.2) (by simpa using hl.2)
theorem zEB:Holds Tryz.prog 32 zwF:=kF1 zGq zy zbT zcC zLC zJ9
def zQi:zS:=[(32,zwF)]++zQh
theorem zGr:zD zQi:=zk zEB zGq
def zO5:List (List Int):=List.replicate 12 [0,0,0,0]
def zem (ps:List (List (List Ins))):Host:=⟨zO5,(ps.take 3).map ze8,[],[]⟩
def zBM (ps:List (List (List Ins))):Prop:=ps.length<=1048576/\∀p∈ps,zWO p
@[simp] abbrev zrL (ps:List (List (List Ins))):Bool:=pc (zBM ps)
@[simp] abbrev zfn (ps:List (List (List Ins))):Host:=zem ps
def zNv (t:List Mon):OA:=some [AV.agg (zbE ⟨zO5,t,[],[]⟩)]
def zuz:Run:=rF1 (dS (.sl (.sl .ins))) (fun b=>((zrL b),[aH (zfn b)]))
def zyM (N:Nat)(a0:lQ):OA :=
 (oN (zlv 12) (iter (σ:=(Int×(lQ×(lM×(lN×(lE×(lE×(lM×(lN×(lE×(lE×Unit))))))))))) N (fun r2 s3=>let y1:=(ap s3.2.2.2.2.2.2.2.1 [(zA7 (ix s3.2.1 s3.1 []))]);let y0:=(aH (⟨s3.2.2.2.2.2.2.1,s3.2.2.2.2.2.2.2.1,s3.2.2.2.2.2.2.2.2.1,s3.2.2.2.2.2.2.2.2.2.1⟩:Host)); (cond (ilt s3.1 (ln s3.2.1)) (cond (ilt s3.1 3) (oN (inb s3.1 (ln s3.2.1)) (oN (zoI (ix s3.2.1 s3.1 [])) (oN (few (ln y1)) (r2 ((zK .i64 s3.1 1),(s3.2.1,(s3.2.2.1,(s3.2.2.2.1,(s3.2.2.2.2.1,(s3.2.2.2.2.2.1,(s3.2.2.2.2.2.2.1,(y1,(s3.2.2.2.2.2.2.2.2.1,(s3.2.2.2.2.2.2.2.2.2.1,())))))))))))))) (some [y0])) (some [y0]))) (0,(a0,([],([],([],([],((zg6 12),([],([],([],()))))))))))))
def zIo:FuncId->Nat->Option Tmpl:=zA [(23,0,{ n:=28,tm:=[(0,.sl 0 []),(2,.lp 0 0),(3,.lp 1 0),(4,ti)],lo:=[(0,[.sl 1 [],.sl 2 [],.sl 3 [],.sl 4 []]),(1,[.sl 5 [],.sl 6 [],.sl 7 [],.sl 8 []])],ro:=[(0,(.sl (.sl .ins)),false),(1,(.sl .int),true),(2,.mon,true),(3,.entry,true),(4,.entry,true),(5,(.sl .int),true),(6,.mon,true),(7,.entry,true),(8,.entry,true)] })]
theorem zHM (a0:List lP)(hc:(zrL a0)=true):∃N,zyM N a0=some [aH (zfn a0)]:=by
 have hs:=zJ.1 hc;have hl:=zc0 hs.1;refine zc9 fun N hNN=>?_;unfold zyM oN
 conv=>zeta
 refine must rfl ?_;refine (zby a0 (fun i (t:lN)=>((i:Int),a0,[],[],[],[],(zg6 12),t,[],[],())) _ (fun i (x:List lI) (t:List Mon) κ=>bif ilt (i:Int) ((3:Nat):Int) then (cond (few (ln (ap t [ze8 x]))) (κ (ap t [ze8 x])) none) else zNv t) (fun (t:lN)=>(some [(.agg (zbE (⟨(zg6 12),t,[],[]⟩:Host)))])) (fun i hi t rec=>?_) (fun t rec=>?_) _ ([]) (hNN hl.1)).trans ?_
 ·simp only [zcb hi,zbx hi,zbF hi,zbu hi hl.1,cT];have hx:zoI a0[i]=true:=zbc (hs.2 _ (List.getElem_mem hi));simp only [hx,cT];rfl
 ·simp only [zb6,cF]
 exact zGM 3 ze8 zNv a0 0 [] (by simpa using hl.2)
theorem zCy:Holds Tryz.prog 23 zuz:=kF1 zGr zy zbT zcC zIo zHM
def zQj:zS:=[(23,zuz)]++zQi
theorem zGs:zD zQj:=zk zCy zGr
def zgy:Nat->Nat->Kept->Kept
 | 0,_,k=>k
 | n+1,i,k=>zgy n (i+1) (zbC k (i:Int))
def zgY (k:Kept):Kept:=zgy k.Known.length 0 k
theorem zOL (k:Kept)(p:Int):(zbC k p).Known.length=k.Known.length:=by
 unfold zbC;cases zcV k p
 ·rfl
 ·exact ze9 _ _ _
theorem zrV:∀(n i:Nat) (k:Kept),SmK k->SmK (zgy n i k)
 | 0,_,_,h=>h
 | n+1,i,k,h=>zrV n (i+1) _ (zlL h)
@[simp] abbrev zog (k:Kept):Bool:=pc (SmK k)
@[simp] abbrev zrH (k:Kept):Kept:=zgY k
def zqK:Run:=rF1 (dT .kept) (fun b=>((zog b),[aT .kept (zrH b)]))
def zuj (N:Nat)(a0:Kept):OA :=
 (oN (zeH a0) (iter (σ:=(Int×(lB×(lS×(lB×(lS×Unit)))))) N (fun r2 s3=>let y0:=(⟨s3.2.1,s3.2.2.1⟩:Kept); (cond (ilt s3.1 (ln s3.2.1)) (oN (ziZ y0 s3.1) (r2 ((zK .i64 s3.1 1),((zil y0 s3.1).Known,((zil y0 s3.1).Slots,(s3.2.2.2.1,(s3.2.2.2.2.1,()))))))) (some [(aT .kept y0)]))) (0,((zcM a0).Known,((zcM a0).Slots,([],([],())))))))
def zD7:FuncId->Nat->Option Tmpl:=zA [(101,0,{ n:=17,tm:=[(1,.lp 0 0),(2,.lp 1 0),(3,ti)],lo:=[(0,[.sl 0 [],.sl 1 []]),(1,[.sl 2 [],.sl 3 []])],ro:=[(0,.bool,true),(1,.slot,true),(2,.bool,true),(3,.slot,true)] })]
theorem zDe (a0:Kept)(hc:(zog a0)=true):∃N,zuj N a0=some [aT .kept (zrH a0)]:=by
 have hs:=zJ.1 hc;have hl:=zc0 hs.1;refine zc9 fun N hNN=>?_;unfold zuj oN
 conv=>zeta
 refine must (zbO ((zsa _).2 hs)) ?_;refine (zxH a0.Known.length (fun i (k:Kept)=>((i:Int),(k.Known,(k.Slots,([],([],())))))) _ (fun i k=>SmK k/\k.Known.length=a0.Known.length) (fun i k=>some [AV.agg (Ty.cells .kept (zgy (a0.Known.length-i) i k))]) (fun i k rec hi hI hr=>?_) (fun k rec hI=>?_) N 0 a0 ⟨hs,rfl⟩ (Nat.zero_le _) (hNN hl.1)).trans rfl
 ·refine must (zcb (by rw [hI.2];exact hi)) (must (zbc hI.1) ?_)
  have q:=hr (zbC k (i:Int)) ⟨zlL hI.1,by rw [zOL];exact hI.2⟩
  rw [show a0.Known.length-i=a0.Known.length-(i+1)+1 by omega]
  rw [zbu hi hl.1];exact q
 ·refine zdx (by show ilt (a0.Known.length:Int) (ln k.Known)=false;rw [ln,hI.2];exact decide_eq_false (by omega)) ?_
  rw [Nat.sub_self];rfl
theorem zx2:Holds Tryz.prog 101 zqK:=kF1 zGs zy zbT zcC zD7 zDe
def zQk:zS:=[(101,zqK)]++zQj
theorem zGt:zD zQk:=zk zx2 zGs
def zqi:Nat->Nat->List Kept->List Kept
 | 0,_,l=>l
 | n+1,j,l=>zqi n (j+1) (up l (j:Int) (zgY (ix l (j:Int) kZ)))
def zqj (x:Mon)(n j:Nat):Mon:={ x with Tables:=zqi n j x.Tables }
def zkQ:Nat->Nat->List Mon->List Mon
 | 0,_,t=>t
 | n+1,i,t=>zkQ n (i+1) (up t (i:Int) (zqj (ix t (i:Int) mZ) (ix t (i:Int) mZ).Tables.length 0))
def cold (h:Host):Host:=⟨h.Memory,zkQ h.Mons.length 0 h.Mons,[],[]⟩
theorem zDS:∀(n j:Nat) (l:List Kept),j+n<=l.length->zvz l->zvz (zqi n j l)
 | 0,_,_,_,h=>h
 | n+1,j,l,hn,h=>by
  have hj:j<l.length:=by omega
  refine zDS n (j+1) _ (by rw [ze9];omega) (zsX h (zrV _ _ _ ?_))
  rw [zbF hj];exact h.2 _ (List.getElem_mem hj)
theorem zDU {x:Mon}(h:zeU x){n j:Nat}(hn:j+n<=x.Tables.length):zeU (zqj x n j):=⟨h.1,h.2.1,h.2.2.1,h.2.2.2.1,h.2.2.2.2.1,zDS n j _ hn h.2.2.2.2.2⟩
@[simp] abbrev zA5 (h:Host):Bool:=pc (zb3 h)
@[simp] abbrev zK9 (h:Host):Host:=cold h
def zDF:Run:=rF1 dH (fun b=>((zA5 b),[aH (zK9 b)]))
def zIR (N:Nat)(a0:Host):OA :=
 (oN (zbq a0) (iter (σ:=(Int×(lM×(lN×(lE×(lE×(lM×(lN×(lE×(lE×Unit)))))))))) N (fun r2 s3=>(cond (ilt s3.1 (ln s3.2.2.1)) (iter (σ:=(Int×(Int×(lM×(lN×(lE×(lE×(lM×(lN×(lE×(lE×Unit))))))))))) N (fun r4 s5=>let y1:=(inb s5.1 (ln s5.2.2.2.1));let y0:=(ix s5.2.2.2.1 s5.1 zf);let y2:=(ix y0.Tables s5.2.1 zgO); (oN y1 (cond (ilt s5.2.1 (ln y0.Tables)) (oN y1 (oN y1 (oN (inb s5.2.1 (ln y0.Tables)) (oN (zog y2) (oN (inb s5.2.1 (ln y0.Tables)) (share (up s5.2.2.2.1 s5.1 ({ y0 with Tables:=(up y0.Tables s5.2.1 (zrH y2)) }:Mon)) (fun x6=>(r4 (s5.1,((zK .i64 s5.2.1 1),(s5.2.2.1,(x6,(s5.2.2.2.2.1,(s5.2.2.2.2.2.1,(s5.2.2.2.2.2.2.1,(s5.2.2.2.2.2.2.2.1,(s5.2.2.2.2.2.2.2.2.1,(s5.2.2.2.2.2.2.2.2.2.1,())))))))))))))))))) (r2 ((zK .i64 s5.1 1),(s5.2.2.1,(s5.2.2.2.1,(s5.2.2.2.2.1,(s5.2.2.2.2.2.1,(s5.2.2.2.2.2.2.1,(s5.2.2.2.2.2.2.2.1,(s5.2.2.2.2.2.2.2.2.1,(s5.2.2.2.2.2.2.2.2.2.1,()))))))))))))) (s3.1,(0,(s3.2.1,(s3.2.2.1,(s3.2.2.2.1,(s3.2.2.2.2.1,(s3.2.2.2.2.2.1,(s3.2.2.2.2.2.2.1,(s3.2.2.2.2.2.2.2.1,(s3.2.2.2.2.2.2.2.2.1,()))))))))))) (some [(aH (⟨s3.2.1,s3.2.2.1,[],[]⟩:Host))]))) (0,((zi a0).Memory,((zi a0).Mons,((zi a0).Buffer,((zi a0).IoBuffer,([],([],([],([],())))))))))))
def zPN:FuncId->Nat->Option Tmpl:=zA [(65,0,{ n:=48,tm:=[(1,.lp 0 0),(2,.lp 1 0),(3,ti)],lo:=[(0,[.sl 0 [],.sl 1 [],.sl 2 [],.sl 3 []]),(1,[.sl 4 [],.sl 5 [],.sl 6 [],.sl 7 []])],ro:=[(0,(.sl .int),true),(1,.mon,true),(2,.entry,true),(3,.entry,true),(4,(.sl .int),true),(5,.mon,true),(6,.entry,true),(7,.entry,true)] }),(65,2,{ n:=48,tm:=[(1,.lp 0 0),(2,.lp 1 0),(3,ti),(4,ti)],lo:=[(0,[.sl 0 [],.sl 1 [],.sl 2 [],.sl 3 []]),(1,[.sl 4 [],.sl 5 [],.sl 6 [],.sl 7 []])],ro:=[(0,(.sl .int),true),(1,.mon,true),(2,.entry,true),(3,.entry,true),(4,(.sl .int),true),(5,.mon,true),(6,.entry,true),(7,.entry,true)] })]
theorem zO2 (a0:Host)(hc:(zA5 a0)=true):∃N,zIR N a0=some [aH (zK9 a0)]:=by
 have hs:=(zO a0).1 (zJ.1 hc);have hl:=zc0 hs.2.1.1;refine zc9 fun N hNN=>?_;unfold zIR oN
 conv=>zeta
 refine must hc ?_;refine (zxH a0.Mons.length (fun i (t:List Mon)=>((i:Int),(a0.Memory,(t,(a0.Buffer,(a0.IoBuffer,([],([],([],([],())))))))))) _ (fun i t=>znu t/\t.length=a0.Mons.length) (fun i t=>some [AV.agg (zbE ⟨a0.Memory,zkQ (a0.Mons.length-i) i t,[],[]⟩)]) (fun i t rec hi hI hr=>?_) (fun t rec hI=>?_) N 0 a0.Mons ⟨hs.2.1,rfl⟩ (Nat.zero_le _) (hNN hl.1)).trans rfl
 ·have hit:i<t.length:=by rw [hI.2];exact hi
  have hx:zeU (ix t (i:Int) mZ):=by rw [zbF hit];exact hI.1.2 _ (List.getElem_mem hit)
  have hk:=zc0 hx.2.2.2.2.2.1;refine must (zcb hit) ?_;refine (zxH (ix t (i:Int) mZ).Tables.length (fun j (u:List Mon)=>((i:Int),((j:Int),(a0.Memory,(u,(a0.Buffer,(a0.IoBuffer,([],([],([],([],())))))))))))
   _ (fun j u=>u.length=t.length/\zeU (ix u (i:Int) mZ)/\(ix u (i:Int) mZ).Tables.length=(ix t (i:Int) mZ).Tables.length)
   (fun j u=>rec (((i+1:Nat):Int),(a0.Memory,(up u (i:Int) (zqj (ix u (i:Int) mZ) ((ix t (i:Int) mZ).Tables.length-j) j),(a0.Buffer,(a0.IoBuffer,([],([],([],([],()))))))))))
   (fun j u rec1 hj hJ hr1=>?_) (fun u rec1 hJ=>?_) N 0 t ⟨rfl,hx,rfl⟩ (Nat.zero_le _) (hNN hk.1)).trans ?_
  ·have hiu:i<u.length:=by rw [hJ.1];exact hit
   have hju:j<(ix u (i:Int) mZ).Tables.length:=by rw [hJ.2.2];exact hj
   have hkj:SmK (ix (ix u (i:Int) mZ).Tables (j:Int) kZ):=by rw [zbF hju];exact hJ.2.1.2.2.2.2.2.2 _ (List.getElem_mem hju)
   refine must (zbx hiu) (must (zcb hju) (must (zbx hiu) (must (zbx hiu) (must (zbx hju) (must (zbc hkj) (must (zbx hju) (shr ?_)))))));have hn:zeU { ix u (i:Int) mZ with Tables:=up (ix u (i:Int) mZ).Tables (j:Int) (zgY (ix (ix u (i:Int) mZ).Tables (j:Int) kZ)) } :=
    ⟨hJ.2.1.1,hJ.2.1.2.1,hJ.2.1.2.2.1,hJ.2.1.2.2.2.1,hJ.2.1.2.2.2.2.1,zsX hJ.2.1.2.2.2.2.2 (zrV _ _ _ hkj)⟩
   have q:=hr1 (up u (i:Int) { ix u (i:Int) mZ with Tables:=up (ix u (i:Int) mZ).Tables (j:Int) (zgY (ix (ix u (i:Int) mZ).Tables (j:Int) kZ)) }) ⟨by rw [ze9];exact hJ.1,by rw [zeY hiu];exact hn,by rw [zeY hiu];simp only [ze9];exact hJ.2.2⟩
   rw [zbu hj hk.1];refine q.trans ?_;rw [zeY hiu,zxT,show (ix t (i:Int) mZ).Tables.length-j=(ix t (i:Int) mZ).Tables.length-(j+1)+1 by omega]
   rfl
  ·have hiu:i<u.length:=by rw [hJ.1];exact hit
   refine must (zbx hiu) (zdx (by show ilt ((ix t (i:Int) mZ).Tables.length:Int) (ln (ix u (i:Int) mZ).Tables)=false;rw [ln,hJ.2.2];exact decide_eq_false (by omega)) ?_)
   rw [zbu hi hl.1,Nat.sub_self]
   show rec (_,(a0.Memory,(u,_)))=rec (_,(a0.Memory,(up u (i:Int) (ix u (i:Int) mZ),_)))
   rw [zN6 hiu]
  ·have q:=hr (up t (i:Int) (zqj (ix t (i:Int) mZ) (ix t (i:Int) mZ).Tables.length 0)) ⟨zgV hI.1 (zDU hx (by omega)),by rw [ze9];exact hI.2⟩
   refine q.trans ?_;rw [show a0.Mons.length-i=a0.Mons.length-(i+1)+1 by omega]
   rfl
 ·refine zdx (by show ilt (a0.Mons.length:Int) (ln t)=false;rw [ln,hI.2];exact decide_eq_false (by omega)) ?_
  rw [Nat.sub_self];rfl
theorem zJJ:Holds Tryz.prog 65 zDF:=kF1 zGt zy zbT zcC zPN zO2
def zQl:zS:=[(65,zDF)]++zQk
theorem zQm:zD zQl:=zk zJJ zGt
def zQn:zS:=zQl
theorem zGu:zD zQn:=zQm
theorem zu3:∀(n i:Nat) (t:List Mon),i+n<=t.length->znu t->znu (zkQ n i t)
 | 0,_,_,_,h=>h
 | n+1,i,t,hn,h=>by
  have hi:i<t.length:=by omega
  refine zu3 n (i+1) _ (by rw [ze9];omega) (zgV h (zDU ?_ (by omega)))
  rw [zbF hi];exact h.2 _ (List.getElem_mem hi)
theorem zTF {h:Host}(hs:SmH h):SmH (cold h):=⟨hs.1,zu3 _ _ _ (by omega) hs.2.1,by simp [cold],by simp [cold]⟩
theorem zkk {h:Host}{m:Int}{b:Bare}(hs:SmH h)(hb:zcc h m=true->SmB b):SmH (zdK h m b):=by
 unfold zdK;cases h0:zcc h m
 ·exact hs
 ·exact zBb hs (zb1.1 h0).2 (hb h0).2.1
theorem zRN {h:Host}{m g p:Int}(hs:SmH h):SmH (zh8 h m g p):=by
 unfold zh8;cases h0:zcc h m
 ·exact hs
 ·cases hk:zbz (zo h m) g (hasB p 4)
  ·exact hs
  ·have hm:=(zb1.1 h0).2;have hv:=zLk hs hm;have hb:SmB (chg (zo h m) g (hasB p 4) (zcY (gAt (zo h m) g) p)):=zmC hv (zDQ _ (zhs _ hv));have h1:=zBb hs hm hb.2.1;have h2:=zI2 (chg (zo h m) g (hasB p 4) (zcY (gAt (zo h m) g) p)) hm;have h3:=zGA hs h0 (chg (zo h m) g (hasB p 4) (zcY (gAt (zo h m) g) p)) hk;have hx:=h1.2.1.2 _ (zbj h2 mZ);simp only [cT];exact ⟨h1.1,zgV h1.2.1 ⟨hx.1,hx.2.1,hx.2.2.1,hx.2.2.2.1,hx.2.2.2.2.1,zsX hx.2.2.2.2.2 (zlL (hx.2.2.2.2.2.2 _ (zbj h3 _)))⟩,Nat.le_trans (ztn _ _ _) h1.2.2.1,Nat.le_trans (ztn _ _ _) h1.2.2.2⟩
theorem zTG {h:Host}{m p c v:Int}(hs:SmH h):SmH (zj4 h m p c v):=by
 unfold zj4;cases hf:zd5 h m p c v
 ·exact hs
 ·have h0:zbW h m p=true:=by
   unfold zd5 at hf;cases hp:zbW h m p
   ·rw [hp] at hf;cases hf
   ·rfl
  obtain ⟨hh,hm,hp⟩:=zhD.1 h0;have h1:=(zpX (n:=2) (zd4 hs hh) hm hp).1.1;exact ⟨zt3 h1.1,h1.2⟩
theorem zKz {h:Host}{m g page need:Int}(b:List Entry)(io:Bool)(hs:SmH h)(hl:zbG h m g page need=true):SmH (lookOf h b m g page need io).1:=by
 have hg:zbw h m g=true:=by
  unfold zbG at hl;cases h1:zbw h m g
  ·rw [h1] at hl;cases hl
  ·rfl
 exact (zsm hs hg).shape.1
theorem zWC {h:Host}{m g a v:Int}(hs:SmH h):SmH (zl5 h m g a v):=by
 unfold zl5;cases hf:zfi h m g a v
 ·exact hs
 ·have hl:zbG h m g (zU a) 2=true:=by
   unfold zfi at hf;cases h1:win a 0 15
   ·rw [h1] at hf;cases hf
   ·cases h2:win v 0 99
    ·rw [h1,h2] at hf;cases hf
    ·rw [h1,h2] at hf;exact hf
  have h1:=zKz h.IoBuffer true hs hl;exact ⟨zt3 h1.1,h1.2⟩
theorem zTH {h:Host}{m g a:Int}(hs:SmH h):SmH (zj5 h m g a):=by
 unfold zj5;cases hf:zeE h m g a
 ·exact hs
 ·have hl:zbG h m g (zU a) 1=true:=by
   unfold zeE at hf;cases h1:win a 0 15
   ·rw [h1] at hf;cases hf
   ·rw [h1] at hf;exact hf
  exact zKz h.IoBuffer true hs hl
theorem zWD {h:Host}{m p:Int}(hs:SmH h):SmH (zmb h m p):=by
 unfold zmb;cases h0:zbW h m p
 ·exact hs
 ·obtain ⟨hh,hm,hp⟩:=zhD.1 h0;cases zhU h m p
  ·exact (zDM (zd4 hs hh).1 hm).1
  ·exact hs
theorem zXu {h:Host}{m p:Int}(hs:SmH h):SmH (zpw h m p):=by
 unfold zpw;cases h0:zbW h m p
 ·exact hs
 ·obtain ⟨hh,hm,hp⟩:=zhD.1 h0;cases zhU h m p
  ·exact hs
  ·exact (zjZ (zd4 hs hh) hm hp).1.1
theorem zRR {h:Host}{m t:Int}(hs:SmH h):SmH (zha h m t):=by
 unfold zha;cases zbN h
 ·exact hs
 ·cases hm:hasB m (ln h.Mons)
  ·exact hs
  ·cases win t 0 3
   ·exact hs
   ·have hx:zeU (ix h.Mons m mZ):=hs.2.1.2 _ (zbj hm mZ);exact ⟨hs.1,zgV hs.2.1 ⟨hx.1,hx.2.1,hx.2.2.1,hx.2.2.2.1,hx.2.2.2.2.1,hx.2.2.2.2.2⟩,hs.2.2⟩
def zps (h:Host)(a:GAct):Host:=bif ieq a.Kind 1 then (zbi h a.M a.G).1 else (cond (ieq a.Kind 2) (zMB h a.M a.G a.X ⟨a.Y,a.Z⟩) (cond (ieq a.Kind 3) (zh8 h a.M a.G a.X) (cond (ieq a.Kind 4) (zFs h a.M a.G a.X) (cond (ieq a.Kind 5) (zFw h a.M a.G) (cond (ieq a.Kind 6) (zFu h a.M a.G a.X) (cond (ieq a.Kind 7) (zMz h a.M a.G ⟨a.X,a.Y,ieq a.Z 1⟩) (cond (ieq a.Kind 8) (zj4 h a.M a.X a.Y a.Z) (cond (ieq a.Kind 9) (zKB h a.M a.X) (cond (ieq a.Kind 10) (zMw h a.M) (cond (ieq a.Kind 11) (zl5 h a.M a.G a.X a.Y) (zj5 h a.M a.G a.X)))))))))))
def zv9 (h:Host)(a:GAct):Told:=bif ieq a.Kind 1 then ⟨(zbi h a.M a.G).2,0⟩ else (cond (ieq a.Kind 2) ⟨zMC h a.M a.G a.X ⟨a.Y,a.Z⟩,0⟩ (cond (ieq a.Kind 3) ⟨zIf h a.M a.G a.X,0⟩ (cond (ieq a.Kind 4) ⟨zFt h a.M a.G a.X,0⟩ (cond (ieq a.Kind 5) ⟨zFx h a.M a.G,0⟩ (cond (ieq a.Kind 6) ⟨zFv h a.M a.G a.X,0⟩ (cond (ieq a.Kind 7) ⟨zMA h a.M a.G ⟨a.X,a.Y,ieq a.Z 1⟩,0⟩ (cond (ieq a.Kind 8) ⟨zd5 h a.M a.X a.Y a.Z,0⟩ (cond (ieq a.Kind 9) ⟨zKC h a.M a.X,0⟩ (cond (ieq a.Kind 10) ⟨zMy h a.M,zMx h a.M⟩ (cond (ieq a.Kind 11) ⟨zfi h a.M a.G a.X a.Y,0⟩ (⟨zeE h a.M a.G a.X,znH h a.M a.G a.X⟩)))))))))))
def zjy (h:Host)(a:GAct):Host:=bif ieq a.Kind 13 then zmb h a.M a.X else (cond (ieq a.Kind 14) (zpw h a.M a.X) (cond (ieq a.Kind 15) (zpm h a.M a.X) (cond (ieq a.Kind 16) (zha h a.M a.X) (cold h))))
def zDr (h:Host)(a:GAct):Told:=bif ieq a.Kind 13 then ⟨zwn h a.M a.X,0⟩ else (cond (ieq a.Kind 14) ⟨zA0 h a.M a.X,0⟩ (cond (ieq a.Kind 15) ⟨zbW h a.M a.X,0⟩ (cond (ieq a.Kind 16) ⟨zt0 h a.M a.X,0⟩ (⟨true,0⟩))))
def zdw (h:Host)(a:GAct):Host:=bif win a.Kind 1 17 then (cond (win a.Kind 13 17) (zjy h a) (zps h a)) else h
def zg1 (h:Host)(a:GAct):Told:=bif win a.Kind 1 17 then (cond (win a.Kind 13 17) (zDr h a) (zv9 h a)) else ⟨false,0⟩
theorem zRQ {h:Host}{a:GAct}(hs:SmH h):SmH (zjy h a):=by
 unfold zjy;cases ieq a.Kind 13
 ·cases ieq a.Kind 14
  ·cases ieq a.Kind 15
   ·cases ieq a.Kind 16
    ·exact zTF hs
    ·exact zRR hs
   ·exact zRO hs
  ·exact zXu hs
 ·exact zWD hs
theorem zRP {h:Host}{a:GAct}(hs:SmH h):SmH (zps h a):=by
 have hv:zcc h a.M=true->SmB (zo h a.M):=fun h0=>zLk hs (zb1.1 h0).2;unfold zps;cases ieq a.Kind 1
 ·cases ieq a.Kind 2
  ·cases ieq a.Kind 3
   ·cases ieq a.Kind 4
    ·cases ieq a.Kind 5
     ·cases ieq a.Kind 6
      ·cases ieq a.Kind 7
       ·cases ieq a.Kind 8
        ·cases ieq a.Kind 9
         ·cases ieq a.Kind 10
          ·cases ieq a.Kind 11
           ·exact zTH hs
           ·exact zWC hs
          ·exact zkk hs (fun h0=>zNO (hv h0))
         ·exact zkk hs (fun h0=>zLj _ (hv h0))
        ·exact zTG hs
       ·exact zkk hs (fun h0=>zNP _ _ (hv h0))
      ·exact zkk hs (fun h0=>zDO _ _ (hv h0))
     ·exact zkk hs (fun h0=>zDP _ (hv h0))
    ·exact zkk hs (fun h0=>zDN _ _ (hv h0))
   ·exact zRN hs
  ·exact zkk hs (fun h0=>zNQ _ _ _ (hv h0))
 ·exact (zRC a.M a.G hs).sm
theorem zNT {h:Host}{a:GAct}(hs:SmH h):SmH (zdw h a):=by
 unfold zdw;cases win a.Kind 1 17
 ·exact hs
 ·cases win a.Kind 13 17
  ·exact zRP hs
  ·exact zRQ hs
@[simp] abbrev zpV (h:Host)(a:GAct):Bool:=pc (zb3 h)
@[simp] abbrev zix (h:Host)(a:GAct):Host:=zjy h a
@[simp] abbrev zgM (h:Host)(a:GAct):Told:=zDr h a
def zsP:Run:=rF2 dH (dT .act) (fun b c=>((zpV b c),[aH (zix b c),aT .told (zgM b c)]))
def zvy (N:Nat)(a0:Host)(a1:GAct):OA :=
 (cond (ieq a1.Kind 13) (oN (zrQ a0 a1.M a1.X) (some [(aH (znk a0 a1.M a1.X)),(.agg [(.b (znl a0 a1.M a1.X)),(.i .i64 0)])])) (cond (ieq a1.Kind 14) (oN (ztS a0 a1.M a1.X) (some [(aH (zoK a0 a1.M a1.X)),(.agg [(.b (zoL a0 a1.M a1.X)),(.i .i64 0)])])) (cond (ieq a1.Kind 15) (oN (zw1 a0 a1.M a1.X) (some [(aH (zqO a0 a1.M a1.X)),(.agg [(.b (zqP a0 a1.M a1.X)),(.i .i64 0)])])) (cond (ieq a1.Kind 16) (oN (zpR a0 a1.M a1.X) (some [(aH (zly a0 a1.M a1.X)),(.agg [(.b (zlz a0 a1.M a1.X)),(.i .i64 0)])])) (oN (zA5 a0) (some [(aH (zK9 a0)),(.agg [(.b true),(.i .i64 0)])]))))))
theorem zFp (a0:Host)(a1:GAct)(hc:(zpV a0 a1)=true):∃N,zvy N a0 a1=some [aH (zix a0 a1),aT .told (zgM a0 a1)]:=by
 have hs:=zJ.1 hc;refine ⟨0,?_⟩;unfold zvy oN;refine br (fun _=>mu ?_) (fun _=>br (fun _=>mu ?_) (fun _=>br (fun _=>mu ?_) (fun _=>br (fun _=>mu ?_) (fun _=>mu ?_))))
 all_goals first|rfl|(simp only [*,zix,zgM,zjy,zDr,cT,cF]<;>rfl)|simp_all [Ty.cells,zix,zgM,zjy,zDr]
theorem zAH:Holds Tryz.prog 36 zsP:=kF2 zGu zy zbT zcC (zA []) zFp
def zQo:zS:=[(36,zsP),(33,zzt),(35,zuB),(44,zzu)]++zQn
theorem zGv:zD zQo:=zk zAH (zk zHh (zk zCA (zk zHi zGu)))
@[simp] abbrev znb (h:Host)(a:GAct):Bool:=pc (zb3 h)
@[simp] abbrev zjD (h:Host)(a:GAct):Host:=zdw h a
@[simp] abbrev zjE (h:Host)(a:GAct):Told:=zg1 h a
def zuw:Run:=rF2 dH (dT .act) (fun b c=>((znb b c),[aH (zjD b c),aT .told (zjE b c)]))
def zyJ (N:Nat)(a0:Host)(a1:GAct):OA :=
 let y0:=(⟨a1.Y,a1.Z⟩:Slot); (oN (zwX a1) (cond (nB (zsQ a1)) (oN (zbq a0) (some [(aH (zi a0)),(.agg [(.b false),(.i .i64 0)])])) (oN (zrN a1.Kind) (cond (znM a1.Kind) (oN (zpV a0 a1) (some [(aH (zix a0 a1)),(.agg [(.b (zgM a0 a1).Ok),(.i .i64 (zgM a0 a1).N)])])) (cond (ieq a1.Kind 1) (oN (zdD a0 a1.M a1.G) (some [(aH (zw3 a0 a1.M a1.G)),(.agg [(.b (zw4 a0 a1.M a1.G)),(.i .i64 0)])])) (cond (ieq a1.Kind 2) (oN (zrM a0 a1.M a1.G a1.X y0) (some [(aH (zng a0 a1.M a1.G a1.X y0)),(.agg [(.b (znh a0 a1.M a1.G a1.X y0)),(.i .i64 0)])])) (cond (ieq a1.Kind 3) (oN (zoh a0 a1.M a1.G a1.X) (some [(aH (zjX a0 a1.M a1.G a1.X)),(.agg [(.b (zjY a0 a1.M a1.G a1.X)),(.i .i64 0)])])) (cond (ieq a1.Kind 4) (oN (zms a0 a1.M a1.G a1.X) (some [(aH (zi1 a0 a1.M a1.G a1.X)),(.agg [(.b (zi2 a0 a1.M a1.G a1.X)),(.i .i64 0)])])) (cond (ieq a1.Kind 5) (oN (zmu a0 a1.M a1.G) (some [(aH (zi5 a0 a1.M a1.G)),(.agg [(.b (zi6 a0 a1.M a1.G)),(.i .i64 0)])])) (cond (ieq a1.Kind 6) (oN (zmt a0 a1.M a1.G a1.X) (some [(aH (zi3 a0 a1.M a1.G a1.X)),(.agg [(.b (zi4 a0 a1.M a1.G a1.X)),(.i .i64 0)])])) (cond (ieq a1.Kind 7) (oN (zwY a1) (oN (zrJ a0 a1.M a1.G (zmq a1)) (some [(aH (znc a0 a1.M a1.G (zmq a1))),(.agg [(.b (znd a0 a1.M a1.G (zmq a1))),(.i .i64 0)])]))) (cond (ieq a1.Kind 8) (oN (zpM a0 a1.M a1.X a1.Y a1.Z) (some [(aH (zln a0 a1.M a1.X a1.Y a1.Z)),(.agg [(.b (zlo a0 a1.M a1.X a1.Y a1.Z)),(.i .i64 0)])])) (cond (ieq a1.Kind 9) (oN (zpN a0 a1.M a1.X) (some [(aH (zlp a0 a1.M a1.X)),(.agg [(.b (zlq a0 a1.M a1.X)),(.i .i64 0)])])) (cond (ieq a1.Kind 10) (oN (zrI a0 a1.M) (some [(aH (zm8 a0 a1.M)),(.agg [(.b (zna a0 a1.M)),(.i .i64 (zm9 a0 a1.M))])])) (cond (ieq a1.Kind 11) (oN (zrK a0 a1.M a1.G a1.X a1.Y) (some [(aH (zne a0 a1.M a1.G a1.X a1.Y)),(.agg [(.b (znf a0 a1.M a1.G a1.X a1.Y)),(.i .i64 0)])])) (oN (zpO a0 a1.M a1.G a1.X) (some [(aH (zlr a0 a1.M a1.G a1.X)),(.agg [(.b (zlt a0 a1.M a1.G a1.X)),(.i .i64 (zls a0 a1.M a1.G a1.X))])])))))))))))))))))
theorem zHJ (a0:Host)(a1:GAct)(hc:(znb a0 a1)=true):∃N,zyJ N a0 a1=some [aH (zjD a0 a1),aT .told (zjE a0 a1)]:=by
 have hs:=zJ.1 hc;refine ⟨0,?_⟩;unfold zyJ oN nB
 conv=>zeta
 refine must rfl (brN (fun _=>mu ?_) (fun _=>must rfl (br (fun _=>mu ?_) (fun _=>br (fun _=>mu ?_) (fun _=>br (fun _=>mu ?_) (fun _=>br (fun _=>mu ?_) (fun _=>br (fun _=>mu ?_) (fun _=>br (fun _=>mu ?_) (fun _=>br (fun _=>mu ?_) (fun _=>br (fun _=>must rfl (mu ?_)) (fun _=>br (fun _=>mu ?_) (fun _=>br (fun _=>mu ?_) (fun _=>br (fun _=>mu ?_) (fun _=>br (fun _=>mu ?_) (fun _=>mu ?_)))))))))))))))
 all_goals first|rfl|(simp only [*,zjD,zjE,zdw,zg1,zps,zv9,cT,cF]<;>rfl)|simp_all [Ty.cells,zjD,zjE,zdw,zg1,zps,zv9]
theorem zCv:Holds Tryz.prog 24 zuw:=kF2 zGv zy zbT zcC (zA []) zHJ
def zQp:zS:=[(24,zuw)]++zQo
theorem zGw:zD zQp:=zk zCv zGv
def zwq:List GAct->Host×List Told->Host×List Told
 | [],u=>u
 | a :: l,u=>zwq l (zdw u.1 a,ap u.2 [zg1 u.1 a])
def ztw (ps:List (List (List Ins)))(l:List GAct):Host×List Told:=zwq (l.take 80) (zem ps,[])
abbrev HSt:Type:=(List Told)×(List (List Int))×(List Mon)×(List Entry)×(List Entry)
def hOf (t:HSt):Host:=⟨t.2.1,t.2.2.1,t.2.2.2.1,t.2.2.2.2⟩
def tOf (u:Host×List Told):HSt:=(u.2,u.1.Memory,u.1.Mons,u.1.Buffer,u.1.IoBuffer)
def ztD (t:HSt):OA:=some [AV.agg (zbE (hOf t)),AV.one (.s .told t.1)]
theorem zNU {ps:List (List (List Ins))}(h:zBM ps):SmH (zem ps):=by
 refine ⟨show SmM zO5 from ⟨by decide,by decide⟩,⟨?_,?_⟩,by simp [zem],by simp [zem]⟩
 ·simp only [zem,List.length_map,List.length_take];omega
 ·intro x hx;simp only [zem,List.mem_map] at hx;obtain ⟨p,hp,rfl⟩:=hx;have hps:=h.2 p (List.mem_of_mem_take hp);refine ⟨show zpZ.length<=1048576 by decide,show SmM zFz from ⟨by decide,by decide⟩,show (rp 8 false).length<=1048576 by decide,⟨?_,?_⟩,by simp [ze8],⟨?_,?_⟩⟩
  ·simp only [ze8,List.length_map,List.length_take];omega
  ·intro y hy;simp only [ze8,List.mem_map] at hy;obtain ⟨q,hq,rfl⟩:=hy;exact ⟨hps.2 q (List.mem_of_mem_take hq),show ziz.length<=1048576 by decide,show ziz.length<=1048576 by decide,by simp [zdO]⟩
  ·simp only [ze8,List.length_map,List.length_take];omega
  ·intro y hy;simp only [ze8,List.mem_map] at hy;obtain ⟨q,hq,rfl⟩:=hy;exact ⟨show (rp 4 false).length<=1048576 by decide,show ziz.length<=1048576 by decide⟩
theorem zzi {c:Host->GAct->Bool}(hc:∀h a,SmH h->c h a=true)(m:Nat):∀(l:List GAct) (i:Nat) (u:Host×List Told),SmH u.1->u.2.length+l.length<=2147483648 ->
 goL (fun (i:Nat) x (t:HSt) κ=>bif ilt (i:Int) (m:Int) then (cond (c (hOf t) x) (cond (few (ln (ap t.1 [zg1 (hOf t) x]))) (κ (ap t.1 [zg1 (hOf t) x],(zdw (hOf t) x).Memory,(zdw (hOf t) x).Mons,(zdw (hOf t) x).Buffer,(zdw (hOf t) x).IoBuffer)) none) none) else ztD t) ztD l i (tOf u)=ztD (tOf (zwq (l.take (m-i)) u))
 | [],i,u,_,_=>by simp [goL,zwq]
 | a :: l,i,u,hs,hn=>by
  simp only [List.length_cons] at hn;have hf:few (ln (ap u.2 [zg1 u.1 a]))=true:=zf0 (by simp [ap];omega)
  have hh:hOf (tOf u)=u.1:=rfl;have h2:(tOf u).1=u.2:=rfl
  by_cases h:i<m
  ·have hi:ilt (i:Int) (m:Int)=true:=decide_eq_true (by omega)
   simp only [goL,hi,hh,h2,hf,hc _ _ hs,cT];refine (zzi hc m l (i+1) (zdw u.1 a,ap u.2 [zg1 u.1 a]) (zNT hs) (by simp [ap];omega)).trans ?_
   rw [show m-i=m-(i+1)+1 by omega]
   rfl
  ·have hi:ilt (i:Int) (m:Int)=false:=decide_eq_false (by omega)
   simp only [goL,hi,cF];rw [show m-i=0 by omega]
   rfl
@[simp] abbrev zpL (ps:List (List (List Ins)))(l:List GAct):Bool:=pc (zBM ps/\l.length<=1048576)
@[simp] abbrev zpK (ps:List (List (List Ins)))(l:List GAct):Host:=(ztw ps l).1
@[simp] abbrev zw2 (ps:List (List (List Ins)))(l:List GAct):List Told:=(ztw ps l).2
def zsC:Run:=rF2 (dS (.sl (.sl .ins))) (dS .act) (fun b c=>((zpL b c),[aH (zpK b c),aS .told (zw2 b c)]))
def zvm (N:Nat)(a0:lQ)(a1:lA):OA :=
 (oN (zrL a0) (iter (σ:=(Int×(lA×(lT×(lM×(lN×(lE×(lE×(lM×(lN×(lE×(lE×Unit)))))))))))) N (fun r3 s4=>let y1:=(ix s4.2.1 s4.1 zX1);let y0:=(⟨s4.2.2.2.2.2.2.2.1,s4.2.2.2.2.2.2.2.2.1,s4.2.2.2.2.2.2.2.2.2.1,s4.2.2.2.2.2.2.2.2.2.2.1⟩:Host);let y3:=(ap s4.2.2.1 [(zjE y0 y1)]);let y2:=(zjD y0 y1); (cond (ilt s4.1 (ln s4.2.1)) (cond (ilt s4.1 80) (oN (inb s4.1 (ln s4.2.1)) (oN (znb y0 y1) (oN (few (ln y3)) (r3 ((zK .i64 s4.1 1),(s4.2.1,(y3,(s4.2.2.2.1,(s4.2.2.2.2.1,(s4.2.2.2.2.2.1,(s4.2.2.2.2.2.2.1,(y2.Memory,(y2.Mons,(y2.Buffer,(y2.IoBuffer,()))))))))))))))) (some [(aH y0),(aS .told s4.2.2.1)])) (some [(aH y0),(aS .told s4.2.2.1)]))) (0,(a1,([],([],([],([],([],((zfn a0).Memory,((zfn a0).Mons,((zfn a0).Buffer,((zfn a0).IoBuffer,())))))))))))))
def zFP:FuncId->Nat->Option Tmpl:=zA [(19,0,{ n:=39,tm:=[(1,.sl 0 []),(4,.lp 0 0),(6,.lp 1 0),(7,.sl 1 []),(8,ti)],lo:=[(0,[.sl 2 [],.sl 3 [],.sl 4 [],.sl 5 []]),(1,[.sl 6 [],.sl 7 [],.sl 8 [],.sl 9 []])],ro:=[(0,.act,false),(1,.told,true),(2,(.sl .int),true),(3,.mon,true),(4,.entry,true),(5,.entry,true),(6,(.sl .int),true),(7,.mon,true),(8,.entry,true),(9,.entry,true)] })]
theorem zE9 (a0:List lP)(a1:List GAct)(hc:(zpL a0 a1)=true):∃N,zvm N a0 a1=some [aH (zpK a0 a1),aS .told (zw2 a0 a1)]:=by
 obtain ⟨hs,hl1⟩:=zJ.1 hc;have hl:=zc0 hl1;refine zc9 fun N hNN=>?_;unfold zvm oN
 conv=>zeta
 refine must (zbc hs) ?_;refine (zby a1 (fun i (t:lT×lM×lN×lE×lE)=>((i:Int),a1,t.1,[],[],[],[],t.2.1,t.2.2.1,t.2.2.2.1,t.2.2.2.2,())) _ (fun i (x:GAct) (t:HSt) κ=>bif ilt (i:Int) ((80:Nat):Int) then (cond (znb (hOf t) x) (cond (few (ln (ap t.1 [zg1 (hOf t) x]))) (κ (ap t.1 [zg1 (hOf t) x],(zdw (hOf t) x).Memory,(zdw (hOf t) x).Mons,(zdw (hOf t) x).Buffer,(zdw (hOf t) x).IoBuffer)) none) none) else ztD t) (fun (t:lT×lM×lN×lE×lE)=>(some [(.agg (zbE (⟨t.2.1,t.2.2.1,t.2.2.2.1,t.2.2.2.2⟩:Host))),(.one (.s .told t.1))])) (fun i hi t rec=>?_) (fun t rec=>?_) _ ([],(zfn a0).Memory,(zfn a0).Mons,(zfn a0).Buffer,(zfn a0).IoBuffer) (hNN hl.1)).trans ?_
 ·simp only [zcb hi,zbx hi,zbF hi,zbu hi hl.1,cT];rfl
 ·simp only [zb6,cF]
 exact zzi (fun h a hh=>zbc ((zO h).2 hh)) 80 a1 0 (zem a0,[]) (zNU hs) (by simpa using hl.2)
theorem zAr:Holds Tryz.prog 19 zsC:=kF2 zGw zy zbT zcC zFP zE9
def zz8:zS:=[(19,zsC)]++zQp
theorem zrx:zD zz8:=zk zAr zGw
def zxn (h:Host):Prop:=∃ps l,zBM ps/\(1<=ps.length/\∀p∈ps,1<=p.length/\∀x∈p,zcZ x=true)/\h=(ztw ps l).1
theorem zTp {p:List Ins}(h:zcZ p=true):p.length<=12:=by
 unfold zcZ at h;cases hc:p.all zdJ with
 | false=>rw [hc] at h;cases h
 | true =>
  rw [hc,cT] at h;have h2:=(ze5.1 h).2;unfold ln at h2;omega
def zjo (N:Nat)(c:Cur)  : OA :=
 let y0:=({ (zfg c) with b:=c.b }:Cur); (oN (zgd c) (oN (zft y0 20) (oN (zpL (zmz c) (znQ y0 20)) (some [(.agg [(.s .u8 c.b),(.i .i64 (zeL y0 20).i),(.i .i64 (zeL y0 20).h)]),(aH (zpK (zmz c) (znQ y0 20)))]))))
theorem zKL (N:Nat)(c:Cur)  : zhS (cQ zz8 zj7 zPl zjk) (zA []) N 12 11 [false,true,true] (zbr c) []=zjo N c:=by kernel_rfl
def ziv (c:Cur)(s:Cur)(v0:Host):Prop:=(∃N,zjo N c=some (AV.agg (zbr s) :: [aH v0]))/\(s.b=c.b/\0<=s.i)/\(zxn v0)
def zdG (c:Cur)  : Bool:=pc (∃s v0,ziv c s v0)
def znq (c:Cur)  : Cur×Host:=Classical.epsilon fun r=>ziv c r.1 r.2
def znr (c:Cur)  : Cur:=bif zdG c then (znq c).1 else ⟨[],0,0⟩
def zgT (c:Cur)  : Host:=(znq c).2
theorem zzK {c:Cur}(h:zdG c=true):ziv c (znr c) (zgT c):=by
 obtain ⟨s,v0,h2⟩:=zJ.1 h;have h3:ziv c (znq c).1 (znq c).2:=Classical.epsilon_spec (p:=fun r=>ziv c r.1 r.2) ⟨(s,v0),h2⟩;unfold znr;rw [h,cT];exact h3
theorem zMR (c:Cur)(h:∃N,Ends (fun a=>∃s v0,a=(AV.agg (zbr s) :: [aH v0])/\(s.b=c.b/\0<=s.i)/\(zxn v0)) (zjo N c)):zdG c=true:=by
 obtain ⟨N,a,e,s,v0,rfl,h⟩:=h;exact zbc ⟨s,v0,⟨N,e⟩,h⟩
def zmg:List CV->List AV->Option (Bool×List CV×List AV)
 | [.s .u8 b,.i .i64 c,.i .i64 d],[]=>some ((zdG (⟨b,c,d⟩:Cur)),zbr (znr (⟨b,c,d⟩:Cur)),[aH (zgT (⟨b,c,d⟩:Cur))])
 | _,_=>none
theorem zH8 (c:Cur)(hb:zci big (.agg (zbr c) :: []))(hc:(zdG c)=true):∃N,zjo N c=some (.agg (zbr (znr c)) :: [aH (zgT c)]):=by
 exact (zzK hc).1
theorem zCU:zdS Tryz.prog 11 [false,true,true] zmg:=by
 refine zcD (zda zrx zbs zK1 zB) (zeW (by kernel_rfl)) ?_
 intro cs avs cs' rs hl hr h;have hb:=zcX hr;unfold zmg at h;split at h
 ·obtain ⟨hc,rfl,rfl⟩:=zdm h;obtain ⟨N,hN⟩:=zH8 _ (by exact hb) hc
  exact ⟨rfl,_,N,12,(zKL N _ ).trans hN⟩
 ·cases h
theorem zQQ {c:Cur}(h:zc2 c):zdG c=true:=by
 refine zMR c ⟨0,?_⟩;have h1:zc2 { zfg c with b:=c.b }:=zev h (zPu _);have g1:=(ztY (zTZ h)).2.2;have g2:=(zrT (zPT h1 (m:=20) (by omega) (by omega))).2.2
 unfold zjo oN
 conv=>zeta
 have S:zBM (zmz c):=⟨by omega,fun p hp=>by
  have g:=g1.2.2 p hp;exact ⟨by omega,fun x hx=>by have:=zTp (g.2.2 x hx);omega⟩⟩
 exact zbB (zTZ h) (zbB (zPT h1 (by omega) (by omega)) (zbB (zbc ⟨S,Nat.le_trans g2 (by decide)⟩) (ziI aH (zMT _ _) ⟨_,_,S,⟨g1.1,fun p hp=>⟨(g1.2.2 p hp).1,(g1.2.2 p hp).2.2⟩⟩,rfl⟩)))
def zU3:zc7:=[(11,([false,true,true],zmg))]++zPl
theorem ztJ:zct zU3:=zfK zK1 (by
 intro x hx;simp only [List.mem_cons,List.not_mem_nil,or_false] at hx;rcases hx with rfl
 ·exact zCU)
theorem zJD {α τ ρ:Type}{G:ρ->Prop}{body:Nat->α->τ->(τ->Option ρ)->Option ρ}{K:τ->Option ρ}(hb:∀i x t κ,(∀t,Ends G (κ t))->Ends G (body i x t κ))(hK:∀t,Ends G (K t)):∀(l:List α) (i:Nat) (t:τ),Ends G (goL body K l i t)
 | [],i,t=>hK t
 | x :: l,i,t=>hb i x t _ (fun t=>zJD hb hK l (i+1) t)
def zkI (N:Nat)(a0:List Int):OA :=
 (iter (σ:=(Int×(Int×((List Int)×(lM×(lN×(lE×(lE×Unit)))))))) N (fun r2 s3=>let y0:=(⟨s3.2.2.1,0,s3.1⟩:Cur); (cond (ilt s3.2.1 (ln s3.2.2.1)) (cond (ilt s3.2.1 4000) (oN (inb s3.2.1 (ln s3.2.2.1)) (r2 ((wand .i64 (zK .i64 (zK .i64 (zlM .i64 s3.1 131) (wcv .i64 (ix s3.2.2.1 s3.2.1 0))) 7) 1073741823),((zK .i64 s3.2.1 1),(s3.2.2.1,(s3.2.2.2.1,(s3.2.2.2.2.1,(s3.2.2.2.2.2.1,(s3.2.2.2.2.2.2.1,()))))))))) (oN (zdG y0) (some [(aH (zgT y0))]))) (oN (zdG y0) (some [(aH (zgT y0))])))) ((zK .i64 94701 (ln a0)),(0,(a0,([],([],([],([],()))))))))
def zFO:FuncId->Nat->Option Tmpl:=zA [(12,0,{ n:=32,tm:=[(0,.sl 0 []),(3,ti),(4,ti)],lo:=[(0,[.sl 1 [],.sl 2 [],.sl 3 [],.sl 4 []])],ro:=[(0,.u8,false),(1,(.sl .int),true),(2,.mon,true),(3,.entry,true),(4,.entry,true)],sk:=[(0,2,0,.lp 0 0)] })]
def zhk (a0:List Int)(v0:Host):Prop:=(∃N,zkI N a0=some [aH v0])/\(zxn v0)
def zgG (a0:List Int):Bool:=pc (∃v0,zhk a0 v0)
def zw0 (a0:List Int):Host:=Classical.epsilon fun r=>zhk a0 r
def zf6 (a0:List Int):Host:=(zw0 a0)
theorem zwZ {a0:List Int}(h:zgG a0=true):zhk a0 (zf6 a0):=by
 obtain ⟨v0,h2⟩:=zJ.1 h;have h3:zhk a0 (zw0 a0):=Classical.epsilon_spec (p:=fun r=>zhk a0 r) ⟨v0,h2⟩;exact h3
theorem zLa (a0:List Int)(h:∃N,Ends (fun a=>∃v0,a=[aH v0]/\(zxn v0)) (zkI N a0)):zgG a0=true:=by
 obtain ⟨N,a,e,v0,rfl,h⟩:=h;exact zbc ⟨v0,⟨N,e⟩,h⟩
def zsB:Run:=rF1 (dS .u8) (fun b=>((zgG b),[aH (zf6 b)]))
theorem zE7 (a0:List Int)(hc:(zgG a0)=true):∃N,zkI N a0=some [aH (zf6 a0)]:=by
 exact (zwZ hc).1
theorem zAq:Holds Tryz.prog 5 zsB:=kF1 zrx zbs ztJ zB zFO zE7
theorem zB4 {a0:List Int}(h:a0.length<=big):zgG a0=true:=by
 refine zLa a0 (zc9 fun N hNN=>?_);unfold zkI oN
 conv=>zeta
 have fin:∀t,Ends (fun a=>∃v0,a=[aH v0]/\zxn v0) (cond (zdG ⟨a0,0,t⟩) (some [aH (zgT ⟨a0,0,t⟩)]) none):=fun t =>
  have hc:zc2 ⟨a0,0,t⟩:=⟨Int.le_refl 0,h⟩
  zbB (zQQ hc) ⟨_,rfl,_,rfl,(zzK (zQQ hc)).2.2⟩
 refine (congrArg (Ends _) (zby a0 (fun i (t:Int)=>(t,(i:Int),a0,[],[],[],[],())) _ (fun i x (t:Int) κ=>bif ilt (i:Int) 4000 then κ (wand .i64 (zK .i64 (zK .i64 (zlM .i64 t 131) (wcv .i64 x)) 7) 1073741823) else (cond (zdG ⟨a0,0,t⟩) (some [aH (zgT ⟨a0,0,t⟩)]) none)) (fun (t:Int)=>(cond (zdG ⟨a0,0,t⟩) (some [aH (zgT ⟨a0,0,t⟩)]) none)) (fun i hi t rec=>?_) (fun t rec=>?_) N (zK .i64 94701 (ln a0)) (hNN h))).mpr ?_
 ·simp only [zcb hi,zbx hi,zbF hi,zbu hi h,cT]
 ·simp only [zb6,cF]
 exact zJD (fun i x t κ hk=>zcP (fun _=>hk _) (fun _=>fin t)) fin _ _ _
def zP5:zS:=[(5,zsB)]++zz8
theorem zGl:zD zP5:=zk zAq zrx
def zBO (b:Bare)(a:GAct):Bare:=bif ieq a.Kind 1 then zgh b a.G else (cond (ieq a.Kind 2) (chg b a.G (zok a.X ⟨a.Y,a.Z⟩) (zt1 (gAt b a.G) a.X ⟨a.Y,a.Z⟩)) (cond (ieq a.Kind 3) (chg b a.G (hasB a.X 4) (zcY (gAt b a.G) a.X)) (cond (ieq a.Kind 4) (chg b a.G (znV (gAt b a.G) a.X) (zrr (gAt b a.G) a.X)) (cond (ieq a.Kind 5) (chg b a.G (zrE (gAt b a.G)) (zrF (gAt b a.G))) (cond (ieq a.Kind 6) (chg b a.G (zeR (gAt b a.G).Pending a.X) (zj6 (gAt b a.G) a.X)) (cond (ieq a.Kind 7) (chg b a.G (zgX ⟨a.X,a.Y,ieq a.Z 1⟩) (zz5 (gAt b a.G) ⟨a.X,a.Y,ieq a.Z 1⟩)) (cond (ieq a.Kind 8) (zIF b a.X a.Y a.Z) (cond (ieq a.Kind 9) (zg5 b a.X) (cond (ieq a.Kind 10) (zjg b) (cond (ieq a.Kind 11) (zOC b a.G a.X a.Y) (b)))))))))))
def zBP (b:Bare)(a:GAct):Told:=bif ieq a.Kind 1 then ⟨ziE b a.G,0⟩ else (cond (ieq a.Kind 2) ⟨zbz b a.G (zok a.X ⟨a.Y,a.Z⟩),0⟩ (cond (ieq a.Kind 3) ⟨zbz b a.G (hasB a.X 4),0⟩ (cond (ieq a.Kind 4) ⟨zbz b a.G (znV (gAt b a.G) a.X),0⟩ (cond (ieq a.Kind 5) ⟨zbz b a.G (zrE (gAt b a.G)),0⟩ (cond (ieq a.Kind 6) ⟨zbz b a.G (zeR (gAt b a.G).Pending a.X),0⟩ (cond (ieq a.Kind 7) ⟨zbz b a.G (zgX ⟨a.X,a.Y,ieq a.Z 1⟩),0⟩ (cond (ieq a.Kind 8) ⟨zst b a.X a.Y a.Z,0⟩ (cond (ieq a.Kind 9) ⟨zdU b a.X,0⟩ (cond (ieq a.Kind 10) ⟨ziC b,znU b⟩ (cond (ieq a.Kind 11) ⟨ztl b a.G a.X a.Y,0⟩ (⟨zkT b a.G a.X 1,zIJ b a.G a.X⟩)))))))))))
def zBQ (l:List Bare)(a:GAct):List Bare:=bif win a.Kind 1 17 then (cond (win a.Kind 13 17) l (cond (hasB a.M (ln l)) (up l a.M (zBO (ix l a.M zLR) a)) l)) else l
def zOh (l:List Bare)(a:GAct):Told:=bif win a.Kind 1 17 then (cond (win a.Kind 13 17) ⟨false,0⟩ (cond (hasB a.M (ln l)) (zBP (ix l a.M zLR) a) (cond (ieq a.Kind 10) ⟨false,-1⟩ ⟨false,0⟩))) else ⟨false,0⟩
theorem zl {i n:Int}:hasB i n=true↔0<=i/\i<n:=by unfold hasB;exact decide_eq_true_iff
theorem zb9 {x a b:Int}:win x a b=true↔a<=x/\x<=b:=by simp [win,ige,ile]
theorem zba {x y:Int}:ieq x y=true↔x=y:=by simp [ieq]
theorem zxF {x y:Int}:ine x y=true↔x≠y:=by simp [ine]
theorem zbv {x y:Int}:ieq x y=false↔x≠y:=by simp [ieq]
theorem zbI {a b:Bool}:(cond a b false)=true↔a=true/\b=true:=by cases a<;>simp
theorem zbo {α:Type}(l:List α)(i:Int)(x:α):(up l i x).length=l.length:=by simp [up]
theorem zcT {α:Type}(l:List α)(i:Int)(x:α):ln (up l i x)=ln l:=by simp [up,ln]
theorem ztA {α:Type}{l:List α}{i:Int}(h:hasB i (ln l)=true)(d:α):∃k:Nat,∃hk:k<l.length,i=(k:Int)/\ix l i d=l[k]:=by
 rw [zl] at h;unfold ln at h;refine ⟨i.toNat,by omega,by omega,?_⟩
 simp [ix,List.getD,List.getElem?_eq_getElem (show i.toNat<l.length by omega)]
theorem zju {α:Type}{l:List α}{k:Nat}(h:k<l.length)(d:α):ix l (k:Int) d=l[k]:=by
 simp [ix,List.getD,List.getElem?_eq_getElem h]
theorem ziM {α:Type}{l:List α}{i:Int}(h:hasB i (ln l)=true)(d:α):ix l i d∈l:=by
 obtain ⟨k,hk,_,e⟩:=ztA h d;rw [e];exact List.getElem_mem hk
theorem zKE {α:Type}{l:List α}{x:α}(h:x∈l)(d:α):∃i,hasB i (ln l)=true/\ix l i d=x:=by
 obtain ⟨k,hk,e⟩:=List.mem_iff_getElem.1 h;exact ⟨(k:Int),zl.2 (by unfold ln;omega),(zju hk d).trans e⟩
theorem zT {α:Type}{l:List α}{i:Int}(h:hasB i (ln l)=true)(x d:α):ix (up l i x) i d=x:=by
 rw [zl] at h;unfold ln at h;simp [ix,up,List.getD,show i.toNat<l.length by omega]
theorem zbb {α:Type}{l:List α}{i j:Int}(hi:0<=i)(hj:0<=j)(h:i≠j)(x d:α):ix (up l i x) j d=ix l j d:=by
 have:i.toNat≠j.toNat:=by omega
 simp [ix,up,List.getD,List.getElem?_set,this]
theorem zR1 {α:Type}(l:List α)(i:Int)(x y:α):up (up l i x) i y=up l i y:=by simp [up]
theorem zFq {α:Type}{l m:List α}(d:α)(h:l.length=m.length)(e:∀i,hasB i (ln l)=true->ix l i d=ix m i d):l=m:=by
 refine List.ext_getElem h fun k h1 h2=>?_;have:=e (k:Int) (zl.2 (by unfold ln;omega))
 rwa [zju h1,zju h2] at this
theorem zBe {α:Type}{l:List α}{i:Int}(h:hasB i (ln l)=true)(d:α):up l i (ix l i d)=l:=by
 obtain ⟨k,hk,rfl,e⟩:=ztA h d;rw [e];simp [up]
def cPg (x:Mon)(q:Int):Nat:=x.Outer.countP fun s=>ieq s.Page q
def zdW (l:List Mon)(q:Int):Nat:=(l.map fun x=>cPg x q).sum
theorem zGj {α:Type}(P:α->Bool){l:List α}{i:Int}(h:hasB i (ln l)=true)(x d:α):(up l i x).countP P+(if P (ix l i d) then 1 else 0)=l.countP P+(if P x then 1 else 0):=by
 obtain ⟨k,hk,rfl,e⟩:=ztA h d;rw [e];simp only [up,Int.toNat_natCast,List.countP_set hk];have:(if P l[k]=true then 1 else 0)<=l.countP P:=by
  split
  ·rename_i hp;exact List.countP_pos_iff.2 ⟨l[k],List.getElem_mem hk,hp⟩
  ·omega
 omega
theorem zsY {l:List Mon}{m:Int}(h:hasB m (ln l)=true)(x:Mon)(q:Int):zdW (up l m x) q+cPg (ix l m mZ) q=zdW l q+cPg x q:=by
 obtain ⟨k,hk,rfl,e⟩:=ztA h mZ;rw [e]
 clear h e
 unfold up;simp only [Int.toNat_natCast]
 induction l generalizing k with
 | nil=>simp at hk
 | cons y l ih =>
  cases k with
  | zero=>simp [zdW];omega
  | succ k =>
   have:=ih k (by simpa using hk)
   simp [zdW] at this ⊢;omega
theorem zz1 {l:List Mon}{m p:Int}(hm:hasB m (ln l)=true)(hp:hasB p (ln (ix l m mZ).Outer)=true):1<=zdW l (ix (ix l m mZ).Outer p sZ).Page:=by
 have h1:1<=cPg (ix l m mZ) (ix (ix l m mZ).Outer p sZ).Page:=List.countP_pos_iff.2 ⟨_,ziM hp sZ,by simp [ieq]⟩
 have:=zsY hm (⟨[],[],[],[],[],0,0,[],0⟩:Mon) (ix (ix l m mZ).Outer p sZ).Page;have e0:cPg (⟨[],[],[],[],[],0,0,[],0⟩:Mon) (ix (ix l m mZ).Outer p sZ).Page=0:=rfl;omega
theorem zSc {l:List Mon}{m p n k:Int}{q:Int}(hm:hasB m (ln l)=true)(hp:hasB p (ln (ix l m mZ).Outer)=true)(hn:hasB n (ln l)=true)(hk:hasB k (ln (ix l n mZ).Outer)=true)(e1:(ix (ix l m mZ).Outer p sZ).Page=q)(e2:(ix (ix l n mZ).Outer k sZ).Page=q)(h:zdW l q<=1):m=n/\p=k:=by
 have hm':=zl.1 hm;have hn':=zl.1 hn;have hp':=zl.1 hp;have hk':=zl.1 hk;have hne:¬ ieq q (q+1)=true:=by simp [ieq];omega
 obtain ⟨y,hy⟩:∃y:Mon,y.Outer=up (ix l m mZ).Outer p ⟨q+1,0⟩:=⟨{ ix l m mZ with Outer:=up (ix l m mZ).Outer p ⟨q+1,0⟩ },rfl⟩;have c1:=zGj (fun s=>ieq s.Page q) hp (⟨q+1,0⟩:Slot) sZ;simp only [e1,show ieq q q=true by simp [ieq],show ieq (q+1) q=false by simp [ieq];omega,if_true,Bool.false_eq_true,if_false] at c1
 have s1:=zsY hm y q;simp only [cPg,hy] at s1;have hz:zdW (up l m y) q=0:=by omega
 apply Classical.byContradiction;intro hc;have hpos:1<=zdW (up l m y) q:=by
  by_cases hmn:m=n
  ·subst hmn;have hpk:p≠k:=fun e=>hc ⟨rfl,e⟩;have:=zz1 (l:=up l m y) (m:=m) (p:=k) (by rw [zcT];exact hm) (by rw [zT hm,hy,zcT];exact hk)
   rw [zT hm,hy,zbb hp'.1 hk'.1 hpk,e2] at this;exact this
  ·have:=zz1 (l:=up l m y) (m:=n) (p:=k) (by rw [zcT];exact hn) (by rw [zbb hm'.1 hn'.1 hmn];exact hk)
   rw [zbb hm'.1 hn'.1 hmn,e2] at this;exact this
 omega
theorem zpd {a b c:Bool}:(cond a b c)=true↔(a=true/\b=true)\/(a=false/\c=true):=by cases a<;>simp
def SOk (s:Slot):Prop:=s=noSlot\/(0<=s.Page/\s.Page<=11/\1<=s.Rights/\s.Rights<=3)
theorem zLi {a b:Slot}(h1:a.Page=b.Page)(h2:a.Rights=b.Rights):a=b:=by
 cases a;cases b;simp_all
theorem zlI {a b:Slot}:zcz a b=true↔a=b:=by
 simp only [zcz,Bool.and_eq_true,zba];exact ⟨fun h=>zLi h.1 h.2,fun h=>by rw [h];exact ⟨rfl,rfl⟩⟩
theorem znR {a b:Slot}:zcz a b=false↔a≠b:=by
 rw [<- Bool.not_eq_true,zlI]
theorem zNM {s:Slot}:zds s 12=true↔SOk s:=by
 unfold zds SOk;rw [zpd,zlI,znR];have:wsub .i64 12 1=11:=by decide
 simp only [this,zpd,zb9];simp [igt];constructor
 ·rintro (h|⟨h,⟨h1,h2⟩,h3⟩)
  ·exact .inl h
  ·exact .inr ⟨h1,h2,h3⟩
 ·intro h
  by_cases hs:s=noSlot
  ·exact .inl hs
  ·rcases h with h|⟨h1,h2,h3⟩
   ·exact .inl h
   ·exact .inr ⟨hs,⟨h1,h2⟩,h3⟩
theorem SOk.none {s:Slot}(h:SOk s)(hp:s.Page = -1):s=noSlot:=by
 rcases h with h|h
 ·exact h
 ·omega
theorem SOk.pos {s:Slot}(h:SOk s)(hp:s.Page≠-1):0<=s.Page/\s.Page<=11/\1<=s.Rights/\s.Rights<=3:=by
 rcases h with h|h
 ·rw [h] at hp;exact absurd rfl hp
 ·exact h
structure MOk (x:Mon):Prop where
 g1:1<=x.Guests.length
 g2:x.Guests.length<=2
 gt:x.Tables.length=x.Guests.length
 o8:x.Outer.length=8
 sl:∀s∈x.Outer,SOk s
 u8:x.Out.length=8
 d8:x.Dirty.length=8
 outs:x.Outs.length<=40
 pend:zcK x.Pending=true
 tr:win x.Traps 0 3=true
 own:win x.Own 0 1000000000=true
 gs:∀g∈x.Guests,zdB g=true
 fit:∀p,hasB p 8=true->zku (ix x.Outer p sZ) (ix x.Out p [])=true
theorem zIY {P:Nat->Bool}:∀{n i:Nat},zlS P n i=true↔∀j,i<=j->j<i+n->P j=true
 | 0,i=>by simp [zlS];intro j h1 h2;omega
 | n+1,i=>by
  rw [zlS,Bool.and_eq_true,zIY];constructor
  ·rintro ⟨h1,h2⟩ j hj1 hj2
   by_cases e:j=i
   ·rw [e];exact h1
   ·exact h2 j (by omega) (by omega)
  ·intro h;exact ⟨h i (by omega) (by omega),fun j h1 h2=>h j (by omega) (by omega)⟩
theorem zjO {t:List Slot}{n p:Int}:zcI t n p=true↔(∀s∈t,zds s p=true)/\ln t=n:=by
 unfold zcI;rw [zbI,List.all_eq_true,zba]
theorem zWa {x:Mon}:zd7 x=true↔MOk x:=by
 unfold zd7;simp only [zbI,zb9,zba,zjO,zIY,List.all_eq_true,ile,decide_eq_true_eq];constructor
 ·rintro ⟨⟨h1,h2⟩,h3,⟨h4,h5⟩,h6,h7,h8,h9,h10,h11,h12,h13⟩
  unfold ln at *;refine ⟨by omega,by omega,by omega,by omega,fun s hs=>zNM.1 (h4 s hs),by omega,by omega,by omega,h9,zb9.2 h10,zb9.2 h11,h12,fun p hp=>?_⟩
  have hp':=zl.1 hp;have:=h13 p.toNat (by omega) (by omega)
  unfold fits at this
  rwa [show ((p.toNat:Nat):Int)=p by omega] at this
 ·intro h;obtain ⟨h1,h2,h3,h4,h5,h6,h7,h8,h9,h10,h11,h12,h13⟩:=h;unfold ln;exact ⟨⟨by omega,by omega⟩,by omega,⟨fun s hs=>zNM.2 (h5 s hs),by omega⟩,by omega,by omega,by omega,h9,zb9.1 h10,zb9.1 h11,h12,fun j h1 h2=>h13 (j:Int) (zl.2 (by omega))⟩
theorem ztd (o:List Slot)(s:Slot)(q:Int):(s :: o).countP (fun s=>ieq s.Page q)=o.countP (fun s=>ieq s.Page q)+if s.Page=q then 1 else 0:=by
 rw [List.countP_cons];simp [ieq]
theorem zt6:∀{o:List Slot} {u:List Bool},(∀s∈o,s.Page<u.length) ->
 (∀u',zfO o u=some u'↔(∀q,0<=q->o.countP (fun s=>ieq s.Page q)+(if ix u q false then 1 else 0)<=1) /\
  u'=(o.foldl (fun u s=>bif ilt s.Page 0 then u else up u s.Page true) u))
 | [],u,h,u'=>by
  simp [zfO];exact ⟨fun h=>⟨fun q _=>by split<;>omega,h.symm⟩,fun h=>h.2.symm⟩
 | s :: o,u,h,u'=>by
  unfold zfO
  by_cases hs:s.Page<0
  ·have hl:ilt s.Page 0=true:=decide_eq_true hs;rw [hl,cond_true,zt6 (fun y hy=>h y (List.mem_cons_of_mem _ hy))];simp only [List.foldl_cons,hl,cond_true];refine and_congr (forall_congr' fun q=>forall_congr' fun hq=>?_) Iff.rfl;have e:(if s.Page=q then 1 else 0)=0:=if_neg (by omega)
   rw [ztd,e,Nat.add_zero]
  ·have hl:ilt s.Page 0=false:=decide_eq_false hs;have hlt:=h s List.mem_cons_self;have hb:hasB s.Page (ln u)=true:=zl.2 ⟨by omega,by unfold ln;omega⟩
   rw [hl,cond_false];cases hu:ix u s.Page false with
   | true =>
    rw [cond_true];constructor
    ·intro h;cases h
    ·rintro ⟨h,_⟩
     have:=h s.Page (by omega)
     rw [ztd,if_pos rfl,hu] at this;simp at this
   | false =>
    rw [cond_false,zt6 (fun y hy=>by rw [zbo];exact h y (List.mem_cons_of_mem _ hy))]
    simp only [List.foldl_cons,hl,cond_false];refine and_congr (forall_congr' fun q=>forall_congr' fun hq=>?_) Iff.rfl;rw [ztd]
    by_cases hq2:s.Page=q
    ·subst hq2;rw [zT hb,hu];simp
    ·rw [zbb (by omega) hq hq2,if_neg hq2,Nat.add_zero]
theorem zBf:∀(o:List Slot) (u:List Bool),(o.foldl (fun u s=>bif ilt s.Page 0 then u else up u s.Page true) u).length=u.length
 | [],u=>rfl
 | s :: o,u=>by
  rw [List.foldl_cons,zBf];cases ilt s.Page 0<;>simp [zbo]
theorem zFV:∀(o:List Slot) (u:List Bool) (q:Int),0<=q->(∀s∈o,s.Page<u.length)->(ix (o.foldl (fun u s=>bif ilt s.Page 0 then u else up u s.Page true) u) q false=true↔ix u q false=true\/1<=o.countP (fun s=>ieq s.Page q))
 | [],u,q,hq,h=>by simp
 | s :: o,u,q,hq,h=>by
  rw [List.foldl_cons,zFV _ _ q hq (fun y hy=>by have:=h y (List.mem_cons_of_mem _ hy);cases ilt s.Page 0<;>simpa [zbo] using this),ztd]
  by_cases hs:s.Page<0
  ·rw [show ilt s.Page 0=true from decide_eq_true hs,cond_true,if_neg (by omega),Nat.add_zero]
  ·rw [show ilt s.Page 0=false from decide_eq_false hs,cond_false]
   have hlt:=h s List.mem_cons_self;have hb:hasB s.Page (ln u)=true:=zl.2 ⟨by omega,by unfold ln;omega⟩
   by_cases hq2:s.Page=q
   ·subst hq2;rw [zT hb];simp
   ·rw [zbb (by omega) hq hq2,if_neg hq2,Nat.add_zero]
theorem ztv:∀{l:List Mon} {u:List Bool},u.length=12->(zh9 l u=true↔(∀x∈l,MOk x)/\∀q,0<=q->zdW l q+(if l≠[]/\ix u q false then 1 else 0)<=1)
 | [],u,hu=>by simp [zh9,zdW]
 | x :: l,u,hu=>by
  unfold zh9;rw [zbI,zWa];constructor
  ·rintro ⟨h1,h2⟩
   have hp:∀s∈x.Outer,s.Page<u.length:=fun s hs=>by
    rcases h1.sl s hs with h|h
    ·rw [h,hu];decide
    ·rw [hu];omega
   split at h2
   ·rename_i u' hu';obtain ⟨h3,rfl⟩:=(zt6 hp u').1 hu';rw [ztv (by rw [zBf,hu])] at h2
    obtain ⟨h4,h5⟩:=h2;refine ⟨by simpa using ⟨h1,h4⟩,fun q hq=>?_⟩
    have h6:=h3 q hq;have h7:=h5 q hq;have h8:=zFV x.Outer u q hq hp;simp only [zdW,List.map_cons,List.sum_cons] at h7 ⊢;unfold cPg at h7 ⊢;simp only [ne_eq,reduceCtorEq,not_false_eq_true,true_and]
    by_cases hl:l=[]
    ·subst hl;simpa using h6
    ·simp only [hl,ne_eq,not_false_eq_true,true_and] at h7
     by_cases hc:ix (x.Outer.foldl (fun u s=>bif ilt s.Page 0 then u else up u s.Page true) u) q false=true
     ·rw [if_pos hc] at h7;omega
     ·rw [if_neg hc] at h7;have h9:¬ (ix u q false=true\/1<=x.Outer.countP (fun s=>ieq s.Page q)):=fun e=>hc (h8.2 e);rw [not_or] at h9;rw [if_neg h9.1];omega
   ·cases h2
  ·rintro ⟨h1,h2⟩
   have hx:MOk x:=h1 x List.mem_cons_self;refine ⟨hx,?_⟩;have hp:∀s∈x.Outer,s.Page<u.length:=fun s hs=>by
    rcases hx.sl s hs with h|h
    ·rw [h,hu];decide
    ·rw [hu];omega
   have hu':=(zt6 hp _).2 ⟨fun q hq=>by
    have:=h2 q hq;simp only [zdW,List.map_cons,List.sum_cons,ne_eq,reduceCtorEq,not_false_eq_true,true_and] at this;unfold cPg at this;omega,rfl⟩
   rw [hu'];simp only;rw [ztv (by rw [zBf,hu])]
   refine ⟨fun y hy=>h1 y (List.mem_cons_of_mem _ hy),fun q hq=>?_⟩;have h3:=h2 q hq;have h8:=zFV x.Outer u q hq hp;simp only [zdW,List.map_cons,List.sum_cons,ne_eq,reduceCtorEq,not_false_eq_true,true_and] at h3 ⊢;unfold cPg at h3 ⊢;split
   ·rename_i hc;rcases h8.1 hc.2 with h|h
    ·rw [if_pos h] at h3;omega
    ·omega
   ·omega
structure HOk (h:Host):Prop where
 m12:h.Memory.length=12
 pgs:∀c∈h.Memory,zcr c=true
 n1:1<=h.Mons.length
 n3:h.Mons.length<=3
 b1:zeu h.Buffer=true
 b2:zeu h.IoBuffer=true
 mons:∀x∈h.Mons,MOk x
 uq:∀q,0<=q->zdW h.Mons q<=1
theorem zhy {h:Host}:zbN h=true↔HOk h:=by
 unfold zbN ziO;simp only [zbI,zb9,zba,List.all_eq_true];rw [ztv (by simp [rp])]
 have h0:∀q,ix (rp 12 false) q false=false:=fun q=>by
  unfold ix rp;rw [List.getD_eq_getElem?_getD,List.getElem?_replicate];split<;>rfl
 simp only [h0,Bool.false_eq_true,and_false,if_false,Nat.add_zero];unfold ln;constructor
 ·rintro ⟨⟨h1,h2⟩,⟨h3,h4⟩,h5,h6,h7,h8⟩
  exact ⟨by omega,h1,by omega,by omega,h5,h6,h7,h8⟩
 ·rintro ⟨h1,h2,h3,h4,h5,h6,h7,h8⟩
  exact ⟨⟨h2,by omega⟩,⟨by omega,by omega⟩,h5,h6,h7,h8⟩
theorem HOk.mon {h:Host}(H:HOk h){m:Int}(hm:hasB m (ln h.Mons)=true):MOk (ix h.Mons m mZ):=H.mons _ (ziM hm _)
theorem MOk.hasO {x:Mon}(H:MOk x){p:Int}(hp:hasB p 8=true):hasB p (ln x.Outer)=true:=by rw [ln,H.o8];exact hp
theorem MOk.hasU {x:Mon}(H:MOk x){p:Int}(hp:hasB p 8=true):hasB p (ln x.Out)=true:=by rw [ln,H.u8];exact hp
theorem MOk.hasD {x:Mon}(H:MOk x){p:Int}(hp:hasB p 8=true):hasB p (ln x.Dirty)=true:=by rw [ln,H.d8];exact hp
theorem MOk.slot {x:Mon}(H:MOk x){p:Int}(hp:hasB p 8=true):SOk (ix x.Outer p sZ):=H.sl _ (ziM (H.hasO hp) _)
theorem HOk.uniq {h:Host}(H:HOk h){m p n k q:Int}(hm:hasB m (ln h.Mons)=true)(hp:hasB p 8=true)(hn:hasB n (ln h.Mons)=true)(hk:hasB k 8=true)(e1:(ix (ix h.Mons m mZ).Outer p sZ).Page=q)(e2:(ix (ix h.Mons n mZ).Outer k sZ).Page=q)(hq:0<=q):m=n/\p=k :=
 zSc hm ((H.mon hm).hasO hp) hn ((H.mon hn).hasO hk) e1 e2 (H.uq q hq)
theorem HOk.up {h:Host}(H:HOk h){m:Int}(hm:hasB m (ln h.Mons)=true){x:Mon}(hx:MOk x){h':Host}(e:h'.Mons=up h.Mons m x)(m12:h'.Memory.length=12)(pgs:∀c∈h'.Memory,zcr c=true)(b1:zeu h'.Buffer=true)(b2:zeu h'.IoBuffer=true)(uq:∀q,0<=q->cPg x q<=cPg (ix h.Mons m mZ) q\/zdW h.Mons q=0/\cPg x q<=1):HOk h':=by
 refine ⟨m12,pgs,by rw [e,zbo];exact H.n1,by rw [e,zbo];exact H.n3,b1,b2,fun y hy=>?_,fun q hq=>?_⟩
 ·rw [e] at hy;unfold E.up at hy;rcases List.mem_or_eq_of_mem_set hy with h|h
  ·exact H.mons y h
  ·rw [h];exact hx
 ·rw [e];have h1:=zsY hm x q;have h2:=H.uq q hq;have h3:=uq q hq;omega
structure KOk (k:Kept) (inner outer:List Slot):Prop where
 l1:k.Known.length=inner.length
 l2:k.Slots.length=inner.length
 at':∀i,hasB i (ln inner)=true->ix k.Slots i sZ=bif ix k.Known i false then zbd (ix inner i sZ) outer else noSlot
def TOk (x:Mon):Prop:=∀g,hasB g (ln x.Guests)=true->KOk (ix x.Tables g kZ) (ix x.Guests g gZ).Live x.Outer
structure Rt (h:Host):Prop where
 t:∀m,hasB m (ln h.Mons)=true->TOk (ix h.Mons m mZ)
 e1:∀e∈h.Buffer,zcm h e=true
 e2:∀e∈h.IoBuffer,zcm h e=true
structure Safe (h:Host):Prop where
 ok:HOk h
 rt:Rt h
theorem znw {a b:Slot}:below' a b=true↔a=noSlot\/(a.Page=b.Page/\enough b.Rights a.Rights=true):=by
 unfold below';rw [zpd,zlI,znR,zbI,zba]
 by_cases h:a=noSlot<;>simp [h]
theorem zR2 (x:Int):wand .i64 0 x=0:=by
 unfold wand;have:(BitVec.ofInt 64 0 &&& BitVec.ofInt 64 x)=0#64:=by
  rw [show BitVec.ofInt 64 0=0#64 from rfl,BitVec.zero_and]
 show IntKind.wrap .i64 ((BitVec.ofInt 64 0 &&& BitVec.ofInt 64 x).toNat:Int)=0
 rw [this];rfl
theorem zSb {a:Slot}(h:below' a noSlot=true):a=noSlot:=by
 rcases znw.1 h with h|⟨h1,h2⟩
 ·exact h
 ·refine zLi h1 ?_;unfold enough at h2;rw [show noSlot.Rights=0 from rfl,zR2] at h2
  simp only [zbI,zba] at h2;exact h2.2.2.symm
theorem zep {h:Host}{e:Entry}:zcm h e=true↔hasB (zcL e.Tag) (ln h.Mons)=true/\hasB (zdj e.Tag) (ln (ix h.Mons (zcL e.Tag) mZ).Guests)=true /\
 below' ⟨e.Host,e.Rights⟩ (zbd (zbh (ix (ix h.Mons (zcL e.Tag) mZ).Guests (zdj e.Tag) gZ).Live e.Page) (ix h.Mons (zcL e.Tag) mZ).Outer)=true:=by
 unfold zcm;rw [zbI,zbI]
theorem zG5 {o:List Slot}{p q:Int}{s:Slot}(hp:0<=p)(h:q≠p):zbh (up o p s) q=zbh o q:=by
 unfold zbh;rw [zcT];cases hq:hasB q (ln o) with
 | false=>rfl
 | true=>rw [cond_true,cond_true,zbb hp (zl.1 hq).1 (Ne.symm h)]
theorem zBY {s:Slot}{o:List Slot}{p:Int}{t:Slot}(hp:0<=p)(h:s.Page≠p):zbd s (up o p t)=zbd s o:=by
 unfold zbd;rw [zG5 hp h]
theorem zOk {s:Slot}{o:List Slot}:zbd s o=noSlot\/(zbd s o).Page=(zbh o s.Page).Page:=by
 unfold zbd;cases ieq s.Page (-1)<;>cases ieq (zbh o s.Page).Page (-1)<;>cases ieq (zc8 s.Rights (zbh o s.Page).Rights) 0<;>simp
theorem zh6 (k:Kept)(q:Int):(zbC k q).Known.length=k.Known.length/\(zbC k q).Slots.length=k.Slots.length:=by
 unfold zbC;cases zcV k q<;>simp [zbo]
theorem zuo:∀(l:List Int) (k:Kept),(zdv k l).Known.length=k.Known.length/\(zdv k l).Slots.length=k.Slots.length
 | [],k=>⟨rfl,rfl⟩
 | q :: l,k=>by
  have h1:=zuo l (zbC k q);have h2:=zh6 k q;exact ⟨h1.1.trans h2.1,h1.2.trans h2.2⟩
theorem zry {k:Kept}{q i:Int}(hl:k.Known.length=k.Slots.length)(hi:hasB i (ln k.Known)=true) :
 ix (zbC k q).Known i false=(cond (ieq q i) false (ix k.Known i false))/\ix (zbC k q).Slots i sZ=(cond (ieq q i) noSlot (ix k.Slots i sZ)):=by
 have hi':hasB i (ln k.Slots)=true:=by unfold ln at hi ⊢;rwa [<- hl]
 unfold zbC zcV
 by_cases e:q=i
 ·subst e;simp only [hi,hi',cond_true,ieq,beq_self_eq_true];exact ⟨zT hi _ _,zT hi' _ _⟩
 ·rw [show ieq q i=false from zbv.2 e]
  by_cases hq:hasB q (ln k.Known)=true
  ·have hq':hasB q (ln k.Slots)=true:=by unfold ln at hq ⊢;rwa [<- hl]
   simp only [hq,hq',cond_true,cond_false];exact ⟨zbb (zl.1 hq).1 (zl.1 hi).1 e _ _,zbb (zl.1 hq).1 (zl.1 hi).1 e _ _⟩
  ·rw [Bool.not_eq_true] at hq;simp [hq]
theorem zvV:∀(l:List Int) {k:Kept} {i:Int},k.Known.length=k.Slots.length->hasB i (ln k.Known)=true ->
 (i∈l->ix (zdv k l).Known i false=false/\ix (zdv k l).Slots i sZ=noSlot) /\
 (i∉l->ix (zdv k l).Known i false=ix k.Known i false/\ix (zdv k l).Slots i sZ=ix k.Slots i sZ)
 | [],k,i,hl,hi=>⟨fun h=>by simp at h,fun _=>⟨rfl,rfl⟩⟩
 | q :: l,k,i,hl,hi=>by
  have h2:=zh6 k q;have h3:=zry (q:=q) hl hi;have ih:=zvV l (k:=zbC k q) (i:=i) (by rw [h2.1,h2.2,hl]) (by unfold ln at hi ⊢;rwa [h2.1])
  show (_->ix (zdv (zbC k q) l).Known i false=_/\ix (zdv (zbC k q) l).Slots i sZ=_)/\(_->ix (zdv (zbC k q) l).Known i false=_/\ix (zdv (zbC k q) l).Slots i sZ=_)
  by_cases hm:i∈l
  ·refine ⟨fun _=>ih.1 hm,fun h=>absurd (List.mem_cons_of_mem _ hm) h⟩
  ·rw [(ih.2 hm).1,(ih.2 hm).2,h3.1,h3.2]
   by_cases e:q=i
   ·subst e;simp [ieq]
   ·rw [zbv.2 e];simp [hm,Ne.symm e]
theorem zAL {α:Type}{P:α->Bool}{d:α}:∀{l:List α} {n:Nat} {i:Int},i∈idxs P l n↔∃k:Nat,∃h:k<l.length,i=((n+k:Nat):Int)/\P l[k]=true
 | [],n,i=>by simp [idxs]
 | x :: l,n,i=>by
  have ih:=@zAL α P d l (n+1) i;unfold idxs;constructor
  ·intro h;cases hx:P x with
   | true =>
    rw [hx,cond_true,List.mem_cons] at h;rcases h with h|h
    ·exact ⟨0,by simp,by simpa using h,hx⟩
    ·obtain ⟨k,h1,h2,h3⟩:=ih.1 h;exact ⟨k+1,by simpa using h1,by rw [h2];congr 1;omega,by simpa using h3⟩
   | false =>
    rw [hx,cond_false] at h;obtain ⟨k,h1,h2,h3⟩:=ih.1 h;exact ⟨k+1,by simpa using h1,by rw [h2];congr 1;omega,by simpa using h3⟩
  ·rintro ⟨k,h1,h2,h3⟩
   cases k with
   | zero =>
    simp only [List.getElem_cons_zero] at h3;rw [h3,cond_true,h2];exact List.mem_cons_self
   | succ k =>
    have:=ih.2 ⟨k,by simpa using h1,by rw [h2];congr 1;omega,by simpa using h3⟩
    cases P x
    ·exact this
    ·exact List.mem_cons_of_mem _ this
theorem zLP {l:List Slot}{p i:Int}:i∈zxk l p↔hasB i (ln l)=true/\(ix l i sZ).Page=p:=by
 unfold zxk;rw [zAL (d:=sZ)];constructor
 ·rintro ⟨k,h1,rfl,h3⟩
  rw [Nat.zero_add,zju h1];exact ⟨zl.2 (by unfold ln;omega),zba.1 h3⟩
 ·rintro ⟨h1,h2⟩
  obtain ⟨k,hk,rfl,e⟩:=ztA h1 sZ;exact ⟨k,hk,by simp,by rw [e] at h2;exact zba.2 h2⟩
theorem zOX {k:Kept}{inner outer:List Slot}(h:KOk k inner outer){p:Int}(hp:0<=p)(s:Slot):KOk (ziJ k inner p) inner (up outer p s):=by
 have hl:=zuo (zxk inner p) k;refine ⟨hl.1.trans h.l1,hl.2.trans h.l2,fun i hi=>?_⟩;have hi':hasB i (ln k.Known)=true:=by unfold ln at hi ⊢;rwa [h.l1]
 have ha:=zvV (zxk inner p) (by rw [h.l1,h.l2]) hi'
 unfold ziJ
 by_cases hc:(ix inner i sZ).Page=p
 ·have:=ha.1 (zLP.2 ⟨hi,hc⟩);rw [this.1,this.2];rfl
 ·have:=ha.2 (fun h=>hc (zLP.1 h).2);rw [this.1,this.2,h.at' i hi,zBY hp hc]
theorem zxf (gs:List Guest)(p:Int):∀(n:Nat) (ts:List Kept),(zkl gs p n ts).length=ts.length
 | 0,ts=>rfl
 | n+1,ts=>by rw [zkl,zbo,zxf gs p n]
theorem zFK (gs:List Guest)(p:Int):∀(n:Nat) (ts:List Kept),n<=ts.length->∀i,0<=i->ix (zkl gs p n ts) i kZ=if i<n then ziJ (ix ts i kZ) (ix gs i gZ).Live p else ix ts i kZ
 | 0,ts,_,i,hi=>by rw [if_neg (by omega)];rfl
 | n+1,ts,hn,i,hi=>by
  rw [zkl]
  by_cases e:i=n
  ·subst e;rw [zT (by rw [ln,zxf];exact zl.2 (by omega)),if_pos (by omega),zFK gs p n ts (by omega) _ hi,if_neg (by omega)]
  ·rw [zbb (by omega) hi (Ne.symm e),zFK gs p n ts (by omega) i hi]
   by_cases h:i<n
   ·rw [if_pos h,if_pos (by omega)]
   ·rw [if_neg h,if_neg (by omega)]
def zhb (x:Mon)(p:Int)(s:Slot):Mon:={ zp1 x p x.Tables.length with Outer:=up x.Outer p s }
theorem zRK {x:Mon}(h:TOk x)(ht:x.Tables.length=x.Guests.length){p:Int}(hp:0<=p)(s:Slot):TOk (zhb x p s):=by
 intro g hg;have hg':hasB g (ln x.Guests)=true:=hg
 show KOk (ix (zkl x.Guests p x.Tables.length x.Tables) g kZ) (ix x.Guests g gZ).Live (up x.Outer p s)
 rw [zFK _ _ _ _ (Nat.le_refl _) _ (zl.1 hg').1,if_pos (by have:=zl.1 hg';unfold ln at this;omega)]
 exact zOX (h g hg') hp s
theorem zon (h:Host)(m p:Int)(s:Slot):(zbX h m p s).Mons=up h.Mons m (zhb (ix h.Mons m mZ) p s):=by
 unfold zbX;cases ine (ix (ix h.Mons m zf).Outer p zX).Page (-1)<;>rfl
theorem zrU (h:Host)(m p:Int)(s:Slot):(zbX h m p s).Memory=h.Memory:=by
 unfold zbX;cases ine (ix (ix h.Mons m zf).Outer p zX).Page (-1)<;>rfl
theorem zG7 (h:Host)(m p:Int)(s:Slot):(zbX h m p s).Buffer=(cond (ieq (ix (ix h.Mons m mZ).Outer p sZ).Page (-1)) h.Buffer (flushed h.Buffer (ix (ix h.Mons m mZ).Outer p sZ).Page)) /\
 (zbX h m p s).IoBuffer=(cond (ieq (ix (ix h.Mons m mZ).Outer p sZ).Page (-1)) h.IoBuffer (flushed h.IoBuffer (ix (ix h.Mons m mZ).Outer p sZ).Page)):=by
 unfold zbX
 by_cases e:(ix (ix h.Mons m zf).Outer p zX).Page = -1
 ·rw [show ine (ix (ix h.Mons m zf).Outer p zX).Page (-1)=false by simp [ine,e],show ieq (ix (ix h.Mons m mZ).Outer p sZ).Page (-1)=true from zba.2 e]
  exact ⟨rfl,rfl⟩
 ·rw [show ine (ix (ix h.Mons m zf).Outer p zX).Page (-1)=true from zxF.2 e,show ieq (ix (ix h.Mons m mZ).Outer p sZ).Page (-1)=false from zbv.2 e]
  exact ⟨rfl,rfl⟩
theorem zB7 {h h':Host}{m p:Int}{s:Slot}(hm:hasB m (ln h.Mons)=true)(hp:hasB p (ln (ix h.Mons m mZ).Outer)=true){x:Mon}(hM:h'.Mons=up h.Mons m x)(hG:x.Guests=(ix h.Mons m mZ).Guests)(hO:x.Outer=up (ix h.Mons m mZ).Outer p s){e:Entry}(he:zcm h e=true)(hn:(ix (ix h.Mons m mZ).Outer p sZ).Page = -1\/e.Host≠(ix (ix h.Mons m mZ).Outer p sZ).Page):zcm h' e=true:=by
 obtain ⟨h1,h2,h3⟩:=zep.1 he;rw [zep,hM,zcT];refine ⟨h1,?_⟩
 by_cases hc:m=zcL e.Tag
 ·rw [<- hc] at h1 h2 h3 ⊢;rw [zT hm,hG,hO];refine ⟨h2,?_⟩
  by_cases hq:(zbh (ix (ix h.Mons m mZ).Guests (zdj e.Tag) gZ).Live e.Page).Page=p
  ·have key:zbd (zbh (ix (ix h.Mons m mZ).Guests (zdj e.Tag) gZ).Live e.Page) (ix h.Mons m mZ).Outer=noSlot\/e.Host≠(zbd (zbh (ix (ix h.Mons m mZ).Guests (zdj e.Tag) gZ).Live e.Page) (ix h.Mons m mZ).Outer).Page:=by
    rcases zOk (s:=zbh (ix (ix h.Mons m mZ).Guests (zdj e.Tag) gZ).Live e.Page) (o:=(ix h.Mons m mZ).Outer) with hz|hz
    ·exact .inl hz
    ·rw [hq] at hz;have hs:zbh (ix h.Mons m mZ).Outer p=ix (ix h.Mons m mZ).Outer p sZ:=by unfold zbh;rw [hp];rfl
     rw [hs] at hz;rcases hn with hn|hn
     ·left
      unfold zbd;rw [hq,hs,hn,show ieq (-1) (-1)=true from rfl]
      cases ieq p (-1)<;>rfl
     ·exact .inr (by rw [hz];exact hn)
   have hno:(⟨e.Host,e.Rights⟩:Slot)=noSlot:=by
    rcases key with key|key
    ·rw [key] at h3;exact zSb h3
    ·rcases znw.1 h3 with h|h
     ·exact h
     ·exact absurd h.1 key
   rw [hno];exact znw.2 (.inl rfl)
  ·rw [zBY (zl.1 hp).1 hq];exact h3
 ·rw [zbb (zl.1 hm).1 (zl.1 h1).1 hc];exact ⟨h2,h3⟩
theorem ztM {h:Host}(H:Rt h){m p:Int}(hm:hasB m (ln h.Mons)=true)(hp:hasB p (ln (ix h.Mons m mZ).Outer)=true)(ht:(ix h.Mons m mZ).Tables.length=(ix h.Mons m mZ).Guests.length)(s:Slot):Rt (zbX h m p s):=by
 have hb:=zG7 h m p s;have hM:=zon h m p s;have key:∀(b:List Entry),(∀e∈b,zcm h e=true)->∀e∈(cond (ieq (ix (ix h.Mons m mZ).Outer p sZ).Page (-1)) b (flushed b (ix (ix h.Mons m mZ).Outer p sZ).Page)),zcm (zbX h m p s) e=true:=by
  intro b hb e he
  by_cases ho:(ix (ix h.Mons m mZ).Outer p sZ).Page = -1
  ·rw [zba.2 ho,cond_true] at he;exact zB7 hm hp hM rfl rfl (hb e he) (.inl ho)
  ·rw [zbv.2 ho,cond_false] at he;obtain ⟨he1,he2⟩:=List.mem_filter.1 he;exact zB7 hm hp hM rfl rfl (hb e he1) (.inr (by simpa [ieq] using he2))
 refine ⟨fun k hk=>?_,fun e he=>key _ H.e1 e (by rwa [hb.1] at he),fun e he=>key _ H.e2 e (by rwa [hb.2] at he)⟩
 rw [hM] at hk ⊢;rw [zcT] at hk
 by_cases hc:m=k
 ·subst hc;rw [zT hm];exact zRK (H.t m hm) ht (zl.1 hp).1 s
 ·rw [zbb (zl.1 hm).1 (zl.1 hk).1 hc];exact H.t k hk
theorem zGf:∀(l pre:List Entry),allI (alone (pre++l)) l pre.length=true↔(∀x∈l,∀y∈pre,sameKey x y=false)/\l.Pairwise (fun y x=>sameKey x y=false)
 | [],pre=>by simp [allI]
 | x :: l,pre=>by
  have ih:=zGf l (pre++[x]);rw [List.append_assoc,List.singleton_append,List.length_append,List.length_singleton] at ih;rw [allI,Bool.and_eq_true,ih,List.pairwise_cons];have h1:alone (pre++x :: l) pre.length x=true↔∀y∈pre,sameKey x y=false:=by
   unfold alone;rw [List.take_left' rfl,List.all_eq_true];simp
  rw [h1];constructor
  ·rintro ⟨h2,h3,h4⟩
   refine ⟨fun z hz y hy=>?_,fun z hz=>h3 z hz x (by simp),h4⟩
   rcases List.mem_cons.1 hz with rfl|hz
   ·exact h2 y hy
   ·exact h3 z hz y (by simp [hy])
  ·rintro ⟨h2,h3,h4⟩
   refine ⟨fun y hy=>h2 x (by simp) y hy,fun z hz y hy=>?_,h4⟩
   rcases List.mem_append.1 hy with hy|hy
   ·exact h2 z (by simp [hz]) y hy
   ·rw [List.mem_singleton.1 hy];exact h3 z hz
theorem zxp {l:List Entry}:zeu l=true↔l.Pairwise (fun y x=>sameKey x y=false)/\l.length<=6:=by
 unfold zeu;have:=zGf l [];simp only [List.nil_append,List.length_nil] at this;have h0:ile (ln l) 6=true↔l.length<=6:=by
  rw [ile,decide_eq_true_eq,ln];omega
 rw [zbI,this,h0];simp
theorem ztc {l:List Entry}(h:zeu l=true)(P:Entry->Bool):zeu (l.filter P)=true:=by
 rw [zxp] at h ⊢;exact ⟨h.1.sublist List.filter_sublist,Nat.le_trans (List.length_filter_le _ _) h.2⟩
theorem zy7 {l:List Entry}(h:zeu l=true)(p:Int):zeu (flushed l p)=true:=ztc h _
theorem zI4 {x x':Mon}{p:Int}(hp:hasB p (ln x.Outer)=true){s:Slot}(h:x'.Outer=up x.Outer p s)(q:Int):cPg x' q+(if (ix x.Outer p sZ).Page=q then 1 else 0)=cPg x q+(if s.Page=q then 1 else 0):=by
 have:=zGj (fun s=>ieq s.Page q) hp s sZ;simp only [zba] at this;unfold cPg;rw [h];exact this
theorem zl0 {s:Slot}(hs:SOk s){c:List Int}:zku s c=true↔(s.Page = -1->zcr c=true)/\(s.Page≠-1->enough s.Rights 1=true/\c=[]):=by
 unfold zku
 by_cases e:s=noSlot
 ·rw [zlI.2 e,cond_true,e];simp [noSlot]
 ·rw [znR.2 e,cond_false,zbI];have:s.Page≠-1:=fun h=>e (hs.none h);have h0:ile (ln c) 0=true↔c=[]:=by
   rw [ile,decide_eq_true_eq,ln,<- List.length_eq_zero_iff];omega
  rw [h0];exact ⟨fun h=>⟨fun h'=>absurd h' this,fun _=>h⟩,fun h=>h.2 this⟩
structure Chg (x x':Mon) (p:Int) (s:Slot) (c:List Int):Prop where
 o:x'.Outer=up x.Outer p s
 u:x'.Out=up x.Out p c
 g:x'.Guests=x.Guests
 t:x'.Tables.length=x.Tables.length
 d:x'.Dirty.length=x.Dirty.length
 a1:x'.Outs=x.Outs
 a2:x'.Pending=x.Pending
 a3:x'.Traps=x.Traps
 a4:x'.Own=x.Own
theorem MOk.chg {x x':Mon}(H:MOk x){p:Int}(hp:hasB p 8=true){s:Slot}{c:List Int}(k:Chg x x' p s c)(hs:SOk s)(hf:zku s c=true):MOk x':=by
 refine ⟨by rw [k.g];exact H.g1,by rw [k.g];exact H.g2,by rw [k.t,k.g];exact H.gt,by rw [k.o,zbo];exact H.o8,fun y hy=>?_,by rw [k.u,zbo];exact H.u8,by rw [k.d];exact H.d8,by rw [k.a1];exact H.outs,by rw [k.a2];exact H.pend,by rw [k.a3];exact H.tr,by rw [k.a4];exact H.own,by rw [k.g];exact H.gs,fun q hq=>?_⟩
 ·rw [k.o] at hy;rcases List.mem_or_eq_of_mem_set hy with h|h
  ·exact H.sl y h
  ·rw [h];exact hs
 ·rw [k.o,k.u]
  by_cases e:p=q
  ·subst e;rw [zT (H.hasO hp),zT (H.hasU hp)];exact hf
  ·rw [zbb (zl.1 hp).1 (zl.1 hq).1 e,zbb (zl.1 hp).1 (zl.1 hq).1 e];exact H.fit q hq
structure Like (h r:Host):Prop where
 len:r.Mons.length=h.Mons.length
 g:∀i,hasB i (ln h.Mons)=true->(ix r.Mons i mZ).Guests=(ix h.Mons i mZ).Guests
 o:∀i,hasB i (ln h.Mons)=true->(ix r.Mons i mZ).Outs=(ix h.Mons i mZ).Outs
 p:∀i,hasB i (ln h.Mons)=true->(ix r.Mons i mZ).Pending=(ix h.Mons i mZ).Pending
 tr:∀i,hasB i (ln h.Mons)=true->(ix r.Mons i mZ).Traps=(ix h.Mons i mZ).Traps
 ow:∀i,hasB i (ln h.Mons)=true->(ix r.Mons i mZ).Own=(ix h.Mons i mZ).Own
 pg:∀i k,hasB i (ln h.Mons)=true->hasB k 8=true->zcu r i k=zcu h i k
theorem Like.refl (h:Host):Like h h:=⟨rfl,fun _ _=>rfl,fun _ _=>rfl,fun _ _=>rfl,fun _ _=>rfl,fun _ _=>rfl,fun _ _ _ _=>rfl⟩
theorem Like.trans {a b c:Host}(x:Like a b)(y:Like b c):Like a c:=by
 have k:∀i,hasB i (ln a.Mons)=true->hasB i (ln b.Mons)=true:=fun i hi=>by unfold ln at hi ⊢;rwa [x.len]
 exact ⟨y.len.trans x.len,fun i h=>(y.g i (k i h)).trans (x.g i h),fun i h=>(y.o i (k i h)).trans (x.o i h),fun i h=>(y.p i (k i h)).trans (x.p i h),fun i h=>(y.tr i (k i h)).trans (x.tr i h),fun i h=>(y.ow i (k i h)).trans (x.ow i h),fun i q h hq=>(y.pg i q (k i h) hq).trans (x.pg i q h hq)⟩
theorem Like.has {h r:Host}(k:Like h r){i:Int}:hasB i (ln r.Mons)=hasB i (ln h.Mons):=by unfold ln;rw [k.len]
theorem zm0 {h r:Host}{m:Int}:∀(n i:Nat),(∀k:Nat,i<=k->k<i+n->zcu r m (k:Int)=zcu h m (k:Int))->zb7 r m n i=zb7 h m n i
 | 0,i,_=>rfl
 | n+1,i,h=>by
  rw [zb7,zb7,h i (by omega) (by omega),zm0 n (i+1) (fun k h1 h2=>h k (by omega) (by omega))]
theorem Like.seen {h r:Host}(k:Like h r)(m:Int):zo r m=zo h m:=by
 unfold zo;rw [k.has];cases hm:hasB m (ln h.Mons) with
 | false=>rfl
 | true =>
  simp only [cond_true];rw [k.g m hm,k.o m hm,k.p m hm,zm0 8 0 (fun j h1 h2=>k.pg m j hm (zl.2 (by omega)))]
theorem zkv {h:Host}{m p:Int}(hm:hasB m (ln h.Mons)=true)(hp:hasB p 8=true)(ho:hasB p (ln (ix h.Mons m mZ).Outer)=true) :
 zcu h m p=bif ieq (ix (ix h.Mons m mZ).Outer p sZ).Page (-1) then zb4 (ix h.Mons m mZ).Out p else zb4 h.Memory (ix (ix h.Mons m mZ).Outer p sZ).Page:=by
 unfold zcu;have:zbh (ix h.Mons m mZ).Outer p=ix (ix h.Mons m mZ).Outer p sZ:=by unfold zbh;rw [ho];rfl
 rw [hm,hp,cond_true,cond_true,this]
 by_cases e:(ix (ix h.Mons m mZ).Outer p sZ).Page = -1
 ·rw [zba.2 e,show ine (ix (ix h.Mons m mZ).Outer p sZ).Page (-1)=false by simp [ine,e]];rfl
 ·rw [zbv.2 e,show ine (ix (ix h.Mons m mZ).Outer p sZ).Page (-1)=true from zxF.2 e];rfl
theorem zif {m:List (List Int)}{p:Int}(h:hasB p (ln m)=true):zb4 m p=ix m p []:=by unfold zb4;rw [h];rfl
theorem zGT {m:List (List Int)}(h:∀c∈m,zcr c=true)(p:Int):zcr (zb4 m p)=true:=by
 unfold zb4;cases hp:hasB p (ln m) with
 | false=>rfl
 | true=>exact h _ (ziM hp _)
theorem zrl {h r:Host}(H:HOk h){m p:Int}(hm:hasB m (ln h.Mons)=true)(hp:hasB p 8=true){x:Mon}{s:Slot}{c:List Int}(hM:r.Mons=up h.Mons m x)(k:Chg (ix h.Mons m mZ) x p s c)(hs:SOk s)(hf:zku s c=true)(m12:r.Memory.length=12)(pgs:∀c∈r.Memory,zcr c=true)(b1:zeu r.Buffer=true)(b2:zeu r.IoBuffer=true)(uq:0<=s.Page->s.Page=(ix (ix h.Mons m mZ).Outer p sZ).Page\/zdW h.Mons s.Page=0):HOk r:=by
 refine H.up hm ((H.mon hm).chg hp k hs hf) hM m12 pgs b1 b2 fun q hq=>?_;have h1:=zI4 ((H.mon hm).hasO hp) k.o q
 by_cases e:s.Page=q
 ·have e2:=uq (by omega)
  rw [if_pos e] at h1;rcases e2 with e2|e2
  ·rw [if_pos (by omega)] at h1;left;omega
  ·right
   rw [e] at e2;refine ⟨e2,?_⟩;have:=zsY hm x q;have h4:cPg (ix h.Mons m mZ) q<=zdW h.Mons q:=by
    have:=zsY hm (⟨[],[],[],[],[],0,0,[],0⟩:Mon) q;have e0:cPg (⟨[],[],[],[],[],0,0,[],0⟩:Mon) q=0:=rfl;omega
   omega
 ·rw [if_neg e] at h1
  left
  split at h1<;>omega
theorem zqA {h r:Host}(H:HOk h){m p:Int}(hm:hasB m (ln h.Mons)=true)(hp:hasB p 8=true){x:Mon}{s:Slot}{c:List Int}(hM:r.Mons=up h.Mons m x)(k:Chg (ix h.Mons m mZ) x p s c)(hpg:(cond (ieq s.Page (-1)) c (zb4 r.Memory s.Page))=zcu h m p)(hmem:∀i q,hasB i (ln h.Mons)=true->hasB q 8=true->¬ (i=m/\q=p)->(ix (ix h.Mons i mZ).Outer q sZ).Page≠-1->zb4 r.Memory (ix (ix h.Mons i mZ).Outer q sZ).Page=zb4 h.Memory (ix (ix h.Mons i mZ).Outer q sZ).Page):Like h r:=by
 have hm0:=(zl.1 hm).1;have hp0:=(zl.1 hp).1;have e:∀{α:Type} (F:Mon->α),F x=F (ix h.Mons m mZ)->∀i,hasB i (ln h.Mons)=true->F (ix r.Mons i mZ)=F (ix h.Mons i mZ):=by
  intro α F hF i hi;rw [hM]
  by_cases e:m=i
  ·subst e;rw [zT hm];exact hF
  ·rw [zbb hm0 (zl.1 hi).1 e]
 refine ⟨by rw [hM,zbo],e Mon.Guests k.g,e Mon.Outs k.a1,e Mon.Pending k.a2,e Mon.Traps k.a3,e Mon.Own k.a4,fun i q hi hq=>?_⟩
 have hi':hasB i (ln r.Mons)=true:=by rw [hM,zcT];exact hi
 have hO:=(H.mon hi).hasO hq;have hO':hasB q (ln (ix r.Mons i mZ).Outer)=true:=by
  rw [hM]
  by_cases e:m=i
  ·subst e;rw [zT hm,k.o,zcT];exact hO
  ·rw [zbb hm0 (zl.1 hi).1 e];exact hO
 rw [zkv hi' hq hO']
 by_cases e:m=i
 ·subst e;rw [hM,zT hm,k.o,k.u]
  by_cases e2:p=q
  ·subst e2;rw [zT ((H.mon hm).hasO hp),<- hpg];cases ieq s.Page (-1)
   ·rfl
   ·rw [cond_true,cond_true,zif (by rw [zcT];exact (H.mon hm).hasU hp),zT ((H.mon hm).hasU hp)]
  ·rw [zbb hp0 (zl.1 hq).1 e2,zkv hm hq hO]
   by_cases e3:(ix (ix h.Mons m mZ).Outer q sZ).Page = -1
   ·rw [zba.2 e3,cond_true,cond_true,zif (by rw [zcT];exact (H.mon hm).hasU hq),zif ((H.mon hm).hasU hq),zbb hp0 (zl.1 hq).1 e2]
   ·rw [zbv.2 e3,cond_false,cond_false,hmem m q hm hq (fun h=>e2 h.2.symm) e3]
 ·rw [hM,zbb hm0 (zl.1 hi).1 e,zkv hi hq hO]
  by_cases e3:(ix (ix h.Mons i mZ).Outer q sZ).Page = -1
  ·rw [zba.2 e3,cond_true,cond_true]
  ·rw [zbv.2 e3,cond_false,cond_false,hmem i q hi hq (fun h=>e h.1.symm) e3]
structure Op (h r:Host):Prop where
 ok:HOk r
 like:Like h r
 rt:Rt h->Rt r
theorem Op.refl {h:Host}(H:HOk h):Op h h:=⟨H,Like.refl h,id⟩
theorem Op.trans {a b c:Host}(x:Op a b)(y:Op b c):Op a c:=⟨y.ok,x.like.trans y.like,fun h=>y.rt (x.rt h)⟩
theorem Op.safe {h r:Host}(k:Op h r)(s:Safe h):Safe r:=⟨k.ok,k.rt s.rt⟩
theorem zDC {h r:Host}(H:Rt h){m:Int}(hm:hasB m (ln h.Mons)=true){x:Mon}(hM:r.Mons=up h.Mons m x)(hb1:r.Buffer=h.Buffer)(hb2:r.IoBuffer=h.IoBuffer)(hl:x.Guests.length=(ix h.Mons m mZ).Guests.length)(hv:∀g,hasB g (ln (ix h.Mons m mZ).Guests)=true->(ix x.Guests g gZ).Live=(ix (ix h.Mons m mZ).Guests g gZ).Live)(ht:x.Tables=(ix h.Mons m mZ).Tables)(ho:x.Outer=(ix h.Mons m mZ).Outer):Rt r:=by
 have hm0:=(zl.1 hm).1;have hg:∀g,hasB g (ln x.Guests)=hasB g (ln (ix h.Mons m mZ).Guests):=fun g=>by unfold ln;rw [hl]
 have key:∀e,zcm h e=true->zcm r e=true:=by
  intro e he;obtain ⟨h1,h2,h3⟩:=zep.1 he;rw [zep,hM,zcT];refine ⟨h1,?_⟩
  by_cases hc:m=zcL e.Tag
  ·rw [<- hc] at h1 h2 h3 ⊢;rw [zT hm,hg,hv _ h2,ho];exact ⟨h2,h3⟩
  ·rw [zbb hm0 (zl.1 h1).1 hc];exact ⟨h2,h3⟩
 refine ⟨fun k hk=>?_,fun e he=>key e (H.e1 e (by rwa [hb1] at he)),fun e he=>key e (H.e2 e (by rwa [hb2] at he))⟩
 rw [hM] at hk ⊢;rw [zcT] at hk
 by_cases hc:m=k
 ·subst hc;rw [zT hm];intro g hgg;rw [hg] at hgg;rw [ht,hv g hgg,ho];exact H.t m hm g hgg
 ·rw [zbb hm0 (zl.1 hk).1 hc];exact H.t k hk
theorem zlJ {h h1:Host}{m p:Int}{s:Slot}{x:Mon}(hm:hasB m (ln h.Mons)=true)(e:h1.Mons=up h.Mons m x):(zbX h1 m p s).Mons=up h.Mons m (zhb x p s):=by
 rw [zon,e,zT hm,zR1]
theorem zvG {x x1:Mon}{p:Int}{s:Slot}{c:List Int}(ho:x1.Outer=x.Outer)(hu:x1.Out=up x.Out p c)(hg:x1.Guests=x.Guests)(ht:x1.Tables=x.Tables)(hd:x1.Dirty.length=x.Dirty.length)(h1:x1.Outs=x.Outs)(h2:x1.Pending=x.Pending)(h3:x1.Traps=x.Traps)(h4:x1.Own=x.Own):Chg x (zhb x1 p s) p s c :=
 ⟨by show up x1.Outer p s=_;rw [ho],hu,hg,by show (zkl x1.Guests p x1.Tables.length x1.Tables).length=_;rw [zxf,ht],hd,h1,h2,h3,h4⟩
theorem zp0 {h:Host}{m p:Int}{s:Slot}(h1:zeu h.Buffer=true)(h2:zeu h.IoBuffer=true):zeu (zbX h m p s).Buffer=true/\zeu (zbX h m p s).IoBuffer=true:=by
 have:=zG7 h m p s;rw [this.1,this.2];cases ieq (ix (ix h.Mons m mZ).Outer p sZ).Page (-1)
 ·exact ⟨zy7 h1 _,zy7 h2 _⟩
 ·exact ⟨h1,h2⟩
theorem zX7 {h:Host}(H:HOk h){s:Slot}(hs:SOk s)(hp:s.Page≠-1):hasB s.Page (ln h.Memory)=true:=by
 have:=hs.pos hp;exact zl.2 ⟨this.1,by unfold ln;rw [H.m12];omega⟩
theorem zND {h:Host}(H:HOk h){m p:Int}(hm:hasB m (ln h.Mons)=true)(hp:hasB p 8=true)(hn:(ix (ix h.Mons m mZ).Outer p sZ).Page≠-1):Op h (zc5 h m p):=by
 have X:=H.mon hm;have hM:(zc5 h m p).Mons=up h.Mons m (zhb { ix h.Mons m mZ with Out:=up (ix h.Mons m mZ).Out p (zb4 h.Memory (ix (ix h.Mons m mZ).Outer p sZ).Page) } p noSlot):=zlJ hm rfl;have k:Chg (ix h.Mons m mZ) (zhb { ix h.Mons m mZ with Out:=up (ix h.Mons m mZ).Out p (zb4 h.Memory (ix (ix h.Mons m mZ).Outer p sZ).Page) } p noSlot) p noSlot (zb4 h.Memory (ix (ix h.Mons m mZ).Outer p sZ).Page):=zvG rfl rfl rfl rfl rfl rfl rfl rfl rfl;have hmem:(zc5 h m p).Memory=h.Memory:=zrU _ _ _ _;have hb:=zp0 (h:=ziR h m p) (m:=m) (p:=p) (s:=noSlot) H.b1 H.b2;refine ⟨zrl H hm hp hM k (.inl rfl) ((zl0 (.inl rfl)).2 ⟨fun _=>zGT H.pgs _,fun h=>absurd rfl h⟩) (by rw [hmem];exact H.m12) (by rw [hmem];exact H.pgs) hb.1 hb.2 (fun h=>absurd h (by decide)),
  zqA H hm hp hM k ?_ (fun i q _ _ _ _=>by rw [hmem]),fun R=>?_⟩
 ·rw [zkv hm hp (X.hasO hp),zbv.2 hn];rfl
 ·have R1:Rt (ziR h m p):=zDC (x:={ ix h.Mons m mZ with Out:=up (ix h.Mons m mZ).Out p (zb4 h.Memory (ix (ix h.Mons m mZ).Outer p sZ).Page) }) R hm rfl rfl rfl rfl (fun _ _=>rfl) rfl rfl;have hm1:hasB m (ln (ziR h m p).Mons)=true:=by show hasB m (ln (up h.Mons m _))=true;rw [zcT];exact hm
  have e1:ix (ziR h m p).Mons m mZ={ ix h.Mons m mZ with Out:=up (ix h.Mons m mZ).Out p (zb4 h.Memory (ix (ix h.Mons m mZ).Outer p sZ).Page) }:=zT hm _ _;exact ztM R1 hm1 (by rw [e1];exact X.hasO hp) (by rw [e1];exact X.gt) noSlot
theorem zzc {o:List Slot}{q:Int}:zkU o q=none↔o.countP (fun s=>ieq s.Page q)=0:=by
 unfold zkU;rw [List.findIdx?_eq_none_iff,List.countP_eq_zero];simp
theorem zL6 {o:List Slot}{q:Int}{k:Nat}(h:zkU o q=some k):∃hk:k<o.length,o[k].Page=q:=by
 unfold zkU at h;rw [List.findIdx?_eq_some_iff_getElem] at h;obtain ⟨hk,h1,_⟩:=h;exact ⟨hk,zba.1 h1⟩
theorem ztF {q:Int}:∀(l:List Mon) (i:Nat),((zf5 q l i).1<0↔zdW l q=0)/\(¬ (zf5 q l i).1<0->∃a b:Nat,∃ha:a<l.length,∃hb:b<l[a].Outer.length,zf5 q l i=(((i+a:Nat):Int),(b:Int))/\l[a].Outer[b].Page=q)
 | [],i=>⟨by simp [zf5,zdW],fun h=>absurd (show (-1:Int)<0 by decide) h⟩
 | x :: l,i=>by
  have ih:=ztF (q:=q) l (i+1);unfold zf5;split
  ·rename_i k hk;obtain ⟨h1,h2⟩:=zL6 hk;refine ⟨⟨fun h=>by simp at h;omega,fun h=>?_⟩,fun _=>⟨0,k,by simp,h1,by simp,h2⟩⟩
   exfalso;simp only [zdW,List.map_cons,List.sum_cons] at h;have h3:x.Outer.countP (fun s=>ieq s.Page q)=0:=by unfold cPg at h;omega
   rw [zzc.2 h3] at hk;cases hk
  ·rename_i hk;have h3:=zzc.1 hk;refine ⟨?_,fun h=>?_⟩
   ·rw [ih.1];simp only [zdW,List.map_cons,List.sum_cons];unfold cPg;omega
   ·obtain ⟨a,b,ha,hb,e,hp⟩:=ih.2 h;exact ⟨a+1,b,by simpa using ha,by simpa using hb,by rw [e];simp;omega,by simpa using hp⟩
theorem zAZ {h:Host}{q:Int}(hq:0<=q):(zbt h q).1<0↔zdW h.Mons q=0:=by
 unfold zbt;rw [show ilt q 0=false from decide_eq_false (by omega),cond_false]
 exact (ztF h.Mons 0).1
theorem zTi {h:Host}(H:HOk h){q:Int}(hq:0<=q)(hn:¬ (zbt h q).1<0):hasB (zbt h q).1 (ln h.Mons)=true/\hasB (zbt h q).2 8=true/\(ix (ix h.Mons (zbt h q).1 mZ).Outer (zbt h q).2 sZ).Page=q:=by
 unfold zbt at hn ⊢;rw [show ilt q 0=false from decide_eq_false (by omega),cond_false] at hn ⊢
 obtain ⟨a,b,ha,hb,e,hp⟩:=(ztF h.Mons 0).2 hn;rw [e,Nat.zero_add];have h8:=(H.mons _ (List.getElem_mem ha)).o8;exact ⟨zl.2 (by unfold ln;simp;omega),zl.2 (by simp;omega),by rw [zju ha,zju hb];exact hp⟩
theorem zJN {P:Nat->Bool}:∀{n i:Nat} {q:Int},q∈zrB P n i↔∃k:Nat,q=(k:Int)/\i<=k/\k<i+n/\P k=true
 | 0,i,q=>by simp [zrB];intro k _ _ _;omega
 | n+1,i,q=>by
  have ih:=@zJN P n (i+1) q;unfold zrB;constructor
  ·intro h;cases hx:P i with
   | true =>
    rw [hx,cond_true,List.mem_cons] at h;rcases h with h|h
    ·exact ⟨i,h,by omega,by omega,hx⟩
    ·obtain ⟨k,h1,h2,h3,h4⟩:=ih.1 h;exact ⟨k,h1,by omega,by omega,h4⟩
   | false =>
    rw [hx,cond_false] at h;obtain ⟨k,h1,h2,h3,h4⟩:=ih.1 h;exact ⟨k,h1,by omega,by omega,h4⟩
  ·rintro ⟨k,h1,h2,h3,h4⟩
   by_cases e:k=i
   ·subst e;rw [h4,cond_true,h1];exact List.mem_cons_self
   ·have:=ih.2 ⟨k,h1,by omega,by omega,h4⟩
    cases P i
    ·exact this
    ·exact List.mem_cons_of_mem _ this
theorem zAh {h:Host}{q:Int}:q∈zcp h↔hasB q (ln h.Memory)=true/\zdW h.Mons q=0:=by
 unfold zcp;rw [zJN];constructor
 ·rintro ⟨k,rfl,h1,h2,h3⟩
  exact ⟨zl.2 (by unfold ln;omega),(zAZ (by omega)).1 (of_decide_eq_true h3)⟩
 ·rintro ⟨h1,h2⟩
  have h1':=zl.1 h1;unfold ln at h1';refine ⟨q.toNat,by omega,by omega,by omega,?_⟩
  rw [show ((q.toNat:Nat):Int)=q by omega]
  exact decide_eq_true ((zAZ h1'.1).2 h2)
theorem zON {h:Host}(hn:zcp h≠[]):hasB (ix (zcp h) 0 0) (ln h.Memory)=true/\zdW h.Mons (ix (zcp h) 0 0)=0:=by
 refine zAh.1 (ziM (zl.2 ⟨by omega,?_⟩) 0)
 unfold ln;have:=List.length_pos_iff.2 hn;omega
structure But (h r:Host) (m p:Int):Prop where
 ne:∀i k,hasB i (ln h.Mons)=true->hasB k 8=true->¬ (i=m/\k=p)->ix (ix r.Mons i mZ).Outer k sZ=ix (ix h.Mons i mZ).Outer k sZ
theorem zz0 {h r:Host}{m p:Int}(hm:hasB m (ln h.Mons)=true)(hp:hasB p 8=true){x:Mon}{s:Slot}(hM:r.Mons=up h.Mons m x)(ho:x.Outer=up (ix h.Mons m mZ).Outer p s):But h r m p:=by
 refine ⟨fun i k hi hk hc=>?_⟩;rw [hM]
 by_cases e:m=i
 ·subst e;rw [zT hm,ho,zbb (zl.1 hp).1 (zl.1 hk).1 (fun e=>hc ⟨rfl,e.symm⟩)]
 ·rw [zbb (zl.1 hm).1 (zl.1 hi).1 e]
theorem zRD {h:Host}(H:HOk h){m p:Int}(hm:hasB m (ln h.Mons)=true)(hp:hasB p 8=true):But h (zc5 h m p) m p/\ix (ix (zc5 h m p).Mons m mZ).Outer p sZ=noSlot:=by
 have hM:(zc5 h m p).Mons=up h.Mons m (zhb { ix h.Mons m mZ with Out:=up (ix h.Mons m mZ).Out p (zb4 h.Memory (ix (ix h.Mons m mZ).Outer p sZ).Page) } p noSlot):=zlJ hm rfl;refine ⟨zz0 hm hp hM rfl,?_⟩;rw [hM,zT hm];exact zT ((H.mon hm).hasO hp) _ _
structure Roomy (h r:Host):Prop where
 op:Op h r
 free:zcp r≠[]
 sl:∀i k,hasB i (ln h.Mons)=true->hasB k 8=true->ix (ix r.Mons i mZ).Outer k sZ=ix (ix h.Mons i mZ).Outer k sZ\/ix (ix r.Mons i mZ).Outer k sZ=noSlot
 dirt:∀i,(ix r.Mons i mZ).Dirty=(ix h.Mons i mZ).Dirty
theorem zEh {h r:Host}{m:Int}(hm:hasB m (ln h.Mons)=true){x:Mon}(hM:r.Mons=up h.Mons m x)(hd:x.Dirty=(ix h.Mons m mZ).Dirty)(i:Int):(ix r.Mons i mZ).Dirty=(ix h.Mons i mZ).Dirty:=by
 rw [hM]
 by_cases e:i.toNat=m.toNat
 ·have:∀l:List Mon,ix l i mZ=ix l m mZ:=fun l=>by unfold ix;rw [e]
  rw [this,this,zT hm,hd]
 ·unfold ix up;simp [List.getD,List.getElem?_set,Ne.symm e]
theorem roomy {h:Host}(H:HOk h):Roomy h (zd8 h):=by
 unfold zd8
 by_cases hf:zcp h=[]
 ·rw [show ieq (ln (zcp h)) 0=true by rw [hf];rfl,cond_true]
  have hn:¬ (zbt h 0).1<0:=fun hc=>by
   have:(0:Int)∈zcp h:=zAh.2 ⟨zl.2 (by unfold ln;rw [H.m12];omega),(zAZ (by omega)).1 hc⟩
   rw [hf] at this;cases this
  obtain ⟨h1,h2,h3⟩:=zTi H (by omega) hn
  have k:=zND H h1 h2 (by rw [h3];decide)
  have hs:=zRD H h1 h2;refine ⟨k,fun hc=>?_,fun i q hi hq=>?_,fun i=>zEh (x:=zhb { ix h.Mons (zbt h 0).1 mZ with Out:=up (ix h.Mons (zbt h 0).1 mZ).Out (zbt h 0).2 (zb4 h.Memory (ix (ix h.Mons (zbt h 0).1 mZ).Outer (zbt h 0).2 sZ).Page) } (zbt h 0).2 noSlot) h1 (zlJ h1 rfl) rfl i⟩
  ·have:(0:Int)∈zcp (zc5 h (zbt h 0).1 (zbt h 0).2):=by
    refine zAh.2 ⟨zl.2 (by unfold ln;rw [k.ok.m12];omega),?_⟩
    have hM:(zc5 h (zbt h 0).1 (zbt h 0).2).Mons=up h.Mons (zbt h 0).1 (zhb { ix h.Mons (zbt h 0).1 mZ with Out:=up (ix h.Mons (zbt h 0).1 mZ).Out (zbt h 0).2 (zb4 h.Memory (ix (ix h.Mons (zbt h 0).1 mZ).Outer (zbt h 0).2 sZ).Page) } (zbt h 0).2 noSlot):=zlJ h1 rfl;have c1:=zsY h1 (zhb { ix h.Mons (zbt h 0).1 mZ with Out:=up (ix h.Mons (zbt h 0).1 mZ).Out (zbt h 0).2 (zb4 h.Memory (ix (ix h.Mons (zbt h 0).1 mZ).Outer (zbt h 0).2 sZ).Page) } (zbt h 0).2 noSlot) 0;rw [<- hM] at c1;have c2:=zI4 (x':=zhb { ix h.Mons (zbt h 0).1 mZ with Out:=up (ix h.Mons (zbt h 0).1 mZ).Out (zbt h 0).2 (zb4 h.Memory (ix (ix h.Mons (zbt h 0).1 mZ).Outer (zbt h 0).2 sZ).Page) } (zbt h 0).2 noSlot) ((H.mon h1).hasO h2) (s:=noSlot) rfl 0;rw [if_pos h3,if_neg (by decide)] at c2
    have c3:=H.uq 0 (by omega)
    omega
   rw [hc] at this;cases this
  ·by_cases e:i=(zbt h 0).1/\q=(zbt h 0).2
   ·rw [e.1,e.2];exact .inr hs.2
   ·exact .inl (hs.1.ne i q hi hq e)
 ·have:ieq (ln (zcp h)) 0=false:=zbv.2 (by unfold ln;have:=List.length_pos_iff.2 hf;omega)
  rw [this,cond_false];exact ⟨Op.refl H,hf,fun i k hi hk=>.inl rfl,fun _=>rfl⟩
theorem zM5 {m:List (List Int)}{p:Int}{c:List Int}(hp:hasB p (ln m)=true)(hc:zcr c=true):zhf m p c=up m p c:=by unfold zhf;rw [hp,hc];rfl
theorem zwm {m:List (List Int)}{p q:Int}{c:List Int}(hp:0<=p)(h:q≠p):zb4 (up m p c) q=zb4 m q:=by
 unfold zb4;rw [zcT];cases hq:hasB q (ln m) with
 | false=>rfl
 | true=>rw [cond_true,cond_true,zbb hp (zl.1 hq).1 (Ne.symm h)]
theorem zwl {m:List (List Int)}{p:Int}{c:List Int}(hp:hasB p (ln m)=true):zb4 (up m p c) p=c:=by rw [zif (by rw [zcT];exact hp),zT hp]
theorem zPa {h:Host}(H:HOk h){m p to:Int}(hm:hasB m (ln h.Mons)=true)(hp:hasB p 8=true)(hn:(ix (ix h.Mons m mZ).Outer p sZ).Page = -1)(ht:hasB to (ln h.Memory)=true)(hf:zdW h.Mons to=0) :
 Op h (zfh h m p to)/\But h (zfh h m p to) m p/\ix (ix (zfh h m p to).Mons m mZ).Outer p sZ=⟨to,3⟩/\∀i,(ix (zfh h m p to).Mons i mZ).Dirty=(ix h.Mons i mZ).Dirty:=by
 have X:=H.mon hm;have ht':=zl.1 ht;unfold ln at ht';rw [H.m12] at ht';have hM:(zfh h m p to).Mons=up h.Mons m (zhb { ix h.Mons m mZ with Out:=up (ix h.Mons m mZ).Out p [] } p ⟨to,3⟩):=zlJ hm rfl;have k:Chg (ix h.Mons m mZ) (zhb { ix h.Mons m mZ with Out:=up (ix h.Mons m mZ).Out p [] } p ⟨to,3⟩) p ⟨to,3⟩ []:=zvG rfl rfl rfl rfl rfl rfl rfl rfl rfl;have hfit:=((zl0 (X.slot hp)).1 (X.fit p hp)).1 hn;have hmem:(zfh h m p to).Memory=up h.Memory to (ix (ix h.Mons m mZ).Out p []):=by
  show (zbX (landing h m p to) m p ⟨to,3⟩).Memory=_
  rw [zrU];exact zM5 ht hfit
 have hs:SOk ⟨to,3⟩:=.inr ⟨ht'.1,by show to<=11;omega,by show (1:Int)<=3;omega,by show (3:Int)<=3;omega⟩
 have hb:=zp0 (h:=landing h m p to) (m:=m) (p:=p) (s:=⟨to,3⟩) H.b1 H.b2;refine ⟨⟨zrl H hm hp hM k hs ((zl0 hs).2 ⟨fun h=>absurd h (by show to≠-1;omega),fun _=>⟨show enough 3 1=true by decide,rfl⟩⟩) (by rw [hmem,zbo];exact H.m12) (fun c hc=>?_) hb.1 hb.2 (fun _=>.inr hf),
  zqA H hm hp hM k ?_ (fun i q hi hq hc hne=>?_),fun R=>?_⟩,zz0 hm hp hM rfl,?_,fun i=>zEh (x:=zhb { ix h.Mons m mZ with Out:=up (ix h.Mons m mZ).Out p [] } p ⟨to,3⟩) hm hM rfl i⟩
 ·rw [hmem] at hc;rcases List.mem_or_eq_of_mem_set hc with h1|h1
  ·exact H.pgs c h1
  ·rw [h1];exact hfit
 ·rw [zkv hm hp (X.hasO hp),zba.2 hn,cond_true,zif (X.hasU hp)];rw [show ieq (⟨to,3⟩:Slot).Page (-1)=false from zbv.2 (by show to≠-1;omega),cond_false,hmem]
  exact zwl ht
 ·rw [hmem];refine zwm ht'.1 (fun e=>?_);have:=zz1 hi ((H.mon hi).hasO hq);rw [e] at this;omega
 ·have R1:Rt (landing h m p to):=zDC (x:={ ix h.Mons m mZ with Out:=up (ix h.Mons m mZ).Out p [] }) R hm rfl rfl rfl rfl (fun _ _=>rfl) rfl rfl;have hm1:hasB m (ln (landing h m p to).Mons)=true:=by show hasB m (ln (up h.Mons m _))=true;rw [zcT];exact hm
  have e1:ix (landing h m p to).Mons m mZ={ ix h.Mons m mZ with Out:=up (ix h.Mons m mZ).Out p [] }:=zT hm _ _;exact ztM R1 hm1 (by rw [e1];exact X.hasO hp) (by rw [e1];exact X.gt) _
 ·rw [hM,zT hm];exact zT (X.hasO hp) _ _
theorem zDq {h:Host}(H:HOk h){m p:Int}(hm:hasB m (ln h.Mons)=true)(hp:hasB p 8=true)(hn:(ix (ix h.Mons m mZ).Outer p sZ).Page = -1) :
 Op h (fetched h m p)/\(∃to,0<=to/\to<=11/\ix (ix (fetched h m p).Mons m mZ).Outer p sZ=⟨to,3⟩)/\∀i,(ix (fetched h m p).Mons i mZ).Dirty=(ix h.Mons i mZ).Dirty:=by
 have R:=roomy H;have hm1:hasB m (ln (zd8 h).Mons)=true:=by rw [R.op.like.has];exact hm
 have hn1:(ix (ix (zd8 h).Mons m mZ).Outer p sZ).Page = -1:=by
  rcases R.sl m p hm hp with h1|h1<;>rw [h1]
  ·exact hn
  ·rfl
 obtain ⟨h1,h2⟩:=zON R.free;obtain ⟨k1,k2,k3,k4⟩:=zPa R.op.ok hm1 hp hn1 h1 h2;have h1':=zl.1 h1;unfold ln at h1';rw [R.op.ok.m12] at h1';exact ⟨R.op.trans k1,⟨_,h1'.1,by omega,k3⟩,fun i=>(k4 i).trans (R.dirt i)⟩
theorem zkC {o:List Slot}{p:Int}(h:hasB p (ln o)=true):zbh o p=ix o p sZ:=by unfold zbh;rw [h];rfl
theorem zih {h:Host}(H:HOk h){m p:Int}(hm:hasB m (ln h.Mons)=true)(hp:hasB p 8=true) :
 (cond (ieq (ix (ix h.Mons m mZ).Outer p sZ).Page (-1)) (ix (ix h.Mons m mZ).Out p []) (zb4 h.Memory (ix (ix h.Mons m mZ).Outer p sZ).Page))=zcu h m p:=by
 rw [zkv hm hp ((H.mon hm).hasO hp),zif ((H.mon hm).hasU hp)]
structure Mark (x y:Mon):Prop where
 o:y.Outer=x.Outer
 u:y.Out=x.Out
 g:y.Guests=x.Guests
 t:y.Tables=x.Tables
 d:y.Dirty.length=x.Dirty.length
 a1:y.Outs=x.Outs
 a2:y.Pending=x.Pending
 a3:y.Traps=x.Traps
 a4:y.Own=x.Own
theorem zNC {h:Host}(H:HOk h){m:Int}(hm:hasB m (ln h.Mons)=true){y:Mon}(k:Mark (ix h.Mons m mZ) y):Op h { h with Mons:=up h.Mons m y }/\∀i q,ix (ix (up h.Mons m y) i mZ).Outer q sZ=ix (ix h.Mons i mZ).Outer q sZ:=by
 have X:=H.mon hm;have h0:hasB 0 8=true:=by decide
 have c:Chg (ix h.Mons m mZ) y 0 (ix (ix h.Mons m mZ).Outer 0 sZ) (ix (ix h.Mons m mZ).Out 0 []):=⟨by rw [zBe (X.hasO h0),k.o],by rw [zBe (X.hasU h0),k.u],k.g,by rw [k.t],k.d,k.a1,k.a2,k.a3,k.a4⟩
 refine ⟨⟨zrl H hm h0 rfl c (X.slot h0) (X.fit 0 h0) H.m12 H.pgs H.b1 H.b2 (fun _=>.inl rfl),zqA H hm h0 rfl c (zih H hm h0) (fun _ _ _ _ _ _=>rfl),
  fun R=>zDC R hm rfl rfl rfl (by rw [k.g]) (fun g _=>by rw [k.g]) k.t k.o⟩,fun i q=>?_⟩
 by_cases e:i.toNat=m.toNat
 ·have:∀l:List Mon,ix l i mZ=ix l m mZ:=fun l=>by unfold ix;rw [e]
  rw [this,this,zT hm,k.o]
 ·have:ix (up h.Mons m y) i mZ=ix h.Mons i mZ:=by
   unfold ix up;simp [List.getD,List.getElem?_set,Ne.symm e]
  rw [this]
theorem zDp {h:Host}(H:HOk h){m:Int}(hm:hasB m (ln h.Mons)=true)(p:Int):Op h (zbQ h m p)/\∀i q,ix (ix (zbQ h m p).Mons i mZ).Outer q sZ=ix (ix h.Mons i mZ).Outer q sZ :=
 zNC H hm ⟨rfl,rfl,rfl,rfl,zbo _ _ _,rfl,rfl,rfl,rfl⟩
theorem zRj {h:Host}(H:HOk h){m:Int}(hm:hasB m (ln h.Mons)=true)(p:Int):Op h (zmE h m p)/\∀i q,ix (ix (zmE h m p).Mons i mZ).Outer q sZ=ix (ix h.Mons i mZ).Outer q sZ :=
 zNC H hm ⟨rfl,rfl,rfl,rfl,zbo _ _ _,rfl,rfl,rfl,rfl⟩
theorem rights {r:Int}(h0:1<=r)(h3:r<=3):r=1\/r=2\/r=3:=by omega
theorem MOk.enough1 {x:Mon}(X:MOk x){p:Int}(hp:hasB p 8=true)(hn:(ix x.Outer p sZ).Page≠-1):(ix x.Outer p sZ).Rights=1\/(ix x.Outer p sZ).Rights=3:=by
 have h1:=(((zl0 (X.slot hp)).1 (X.fit p hp)).2 hn).1;have h2:=(X.slot hp).pos hn;rcases rights h2.2.2.1 h2.2.2.2 with e|e|e
 ·exact .inl e
 ·rw [e] at h1;exact absurd h1 (by decide)
 ·exact .inr e
theorem zGQ {h:Host}(H:HOk h){m p:Int}(hm:hasB m (ln h.Mons)=true)(hp:hasB p 8=true)(hn:(ix (ix h.Mons m mZ).Outer p sZ).Page≠-1){r:Int}(hr:r=1\/r=3) :
 Op h (zbX h m p ⟨(ix (ix h.Mons m mZ).Outer p sZ).Page,r⟩)/\But h (zbX h m p ⟨(ix (ix h.Mons m mZ).Outer p sZ).Page,r⟩) m p /\
  ix (ix (zbX h m p ⟨(ix (ix h.Mons m mZ).Outer p sZ).Page,r⟩).Mons m mZ).Outer p sZ=⟨(ix (ix h.Mons m mZ).Outer p sZ).Page,r⟩/\∀i,(ix (zbX h m p ⟨(ix (ix h.Mons m mZ).Outer p sZ).Page,r⟩).Mons i mZ).Dirty=(ix h.Mons i mZ).Dirty:=by
 have X:=H.mon hm;have hpos:=(X.slot hp).pos hn;have hM:=zon h m p ⟨(ix (ix h.Mons m mZ).Outer p sZ).Page,r⟩;have k:Chg (ix h.Mons m mZ) (zhb (ix h.Mons m mZ) p ⟨(ix (ix h.Mons m mZ).Outer p sZ).Page,r⟩) p ⟨(ix (ix h.Mons m mZ).Outer p sZ).Page,r⟩ (ix (ix h.Mons m mZ).Out p []) :=
  zvG rfl (zBe (X.hasU hp) _).symm rfl rfl rfl rfl rfl rfl rfl
 have hs:SOk ⟨(ix (ix h.Mons m mZ).Outer p sZ).Page,r⟩:=.inr ⟨hpos.1,hpos.2.1,by show 1<=r;omega,by show r<=3;omega⟩
 have hfit:=((zl0 (X.slot hp)).1 (X.fit p hp)).2 hn;have hb:=zp0 (h:=h) (m:=m) (p:=p) (s:=⟨(ix (ix h.Mons m mZ).Outer p sZ).Page,r⟩) H.b1 H.b2;have hmem:=zrU h m p ⟨(ix (ix h.Mons m mZ).Outer p sZ).Page,r⟩;refine ⟨⟨zrl H hm hp hM k hs ((zl0 hs).2 ⟨fun h=>absurd h hn,fun _=>⟨?_,hfit.2⟩⟩) (by rw [hmem];exact H.m12) (by rw [hmem];exact H.pgs) hb.1 hb.2 (fun _=>.inl rfl),
  zqA H hm hp hM k (by rw [hmem];exact zih H hm hp) (fun i q _ _ _ _=>by rw [hmem]),fun R=>ztM R hm (X.hasO hp) X.gt _⟩,zz0 hm hp hM rfl,?_,fun i=>zEh hm hM rfl i⟩
 ·show enough r 1=true
  rcases hr with rfl|rfl<;>decide
 ·rw [hM,zT hm];exact zT (X.hasO hp) _ _
structure Mended (h r:Host) (m p n:Int):Prop where
 op:Op h r
 inn:(ix (ix r.Mons m mZ).Outer p sZ).Page≠-1
 ri:ieq (wand .i64 n 2) 0=false->(ix (ix r.Mons m mZ).Outer p sZ).Rights=3
 dt:ieq (wand .i64 n 2) 0=false->ix (ix r.Mons m mZ).Dirty p false=true
 d0:ieq (wand .i64 n 2) 0=true->(ix r.Mons m mZ).Dirty=(ix h.Mons m mZ).Dirty
 dk:∀k,hasB k 8=true->k≠p->ix (ix r.Mons m mZ).Dirty k false=ix (ix h.Mons m mZ).Dirty k false
 dm:∀i,hasB i (ln h.Mons)=true->i≠m->(ix r.Mons i mZ).Dirty=(ix h.Mons i mZ).Dirty
theorem zKR {h:Host}(H:HOk h){m p:Int}(n:Int)(hm:hasB m (ln h.Mons)=true)(hp:hasB p 8=true)(hn:(ix (ix h.Mons m mZ).Outer p sZ).Page≠-1):Mended h (ziP h m p n) m p n:=by
 unfold ziP;cases hw:ieq (wand .i64 n 2) 0 with
 | true=>exact ⟨Op.refl H,hn,fun e=>(Bool.noConfusion (hw.symm.trans e)),fun e=>(Bool.noConfusion (hw.symm.trans e)),fun _=>rfl,fun _ _ _=>rfl,fun _ _ _=>rfl⟩
 | false =>
  rw [cond_false];obtain ⟨k1,k2⟩:=zDp H hm p;have hm1:hasB m (ln (zbQ h m p).Mons)=true:=by rw [k1.like.has];exact hm
  have hn1:(ix (ix (zbQ h m p).Mons m mZ).Outer p sZ).Page≠-1:=by rw [k2];exact hn
  have hd:(ix (zbQ h m p).Mons m mZ).Dirty=up (ix h.Mons m mZ).Dirty p true:=by
   show (ix (up h.Mons m _) m mZ).Dirty=_
   rw [zT hm]
  have hd2:∀i,hasB i (ln h.Mons)=true->i≠m->(ix (zbQ h m p).Mons i mZ).Dirty=(ix h.Mons i mZ).Dirty:=fun i hi hc=>by
   show (ix (up h.Mons m _) i mZ).Dirty=_
   rw [zbb (zl.1 hm).1 (zl.1 hi).1 (Ne.symm hc)]
  have he:=(k1.ok.mon hm1).enough1 hp hn1;have hD:∀r:Host,(∀i,(ix r.Mons i mZ).Dirty=(ix (zbQ h m p).Mons i mZ).Dirty)->Op (zbQ h m p) r->(ix (ix r.Mons m mZ).Outer p sZ).Page≠-1->(ix (ix r.Mons m mZ).Outer p sZ).Rights=3->Mended h r m p n:=by
   intro r h1 h2 h3 h4;refine ⟨k1.trans h2,h3,fun _=>h4,fun _=>?_,fun e=>(Bool.noConfusion (hw.symm.trans e)),fun k hk hc=>?_,fun i hi hc=>by rw [h1,hd2 i hi hc]⟩
   ·rw [h1,hd,zT ((H.mon hm).hasD hp)]
   ·rw [h1,hd,zbb (zl.1 hp).1 (zl.1 hk).1 (Ne.symm hc)]
  unfold opened;rcases he with e|e
  ·rw [e,show ieq (wand .i64 1 2) 0=true by decide,cond_true]
   obtain ⟨o1,o2,o3,o4⟩:=zGQ k1.ok hm1 hp hn1 (r:=3) (.inr rfl);exact hD _ o4 o1 (by rw [o3];exact hn1) (by rw [o3])
  ·rw [e,show ieq (wand .i64 3 2) 0=false by decide,cond_false]
   exact hD _ (fun _=>rfl) (Op.refl k1.ok) hn1 e
theorem zGP {h:Host}(H:HOk h){m p:Int}(n:Int)(hm:hasB m (ln h.Mons)=true)(hp:hasB p 8=true):Mended h (mended h m p n) m p n:=by
 unfold mended
 by_cases e:(ix (ix h.Mons m mZ).Outer p sZ).Page = -1
 ·rw [zba.2 e,cond_true];obtain ⟨k1,⟨to,t1,t2,t3⟩,k3⟩:=zDq H hm hp e;have K:=zKR k1.ok n (by rw [k1.like.has];exact hm) hp (by rw [t3];show to≠-1;omega)
  exact ⟨k1.trans K.op,K.inn,K.ri,K.dt,fun e=>by rw [K.d0 e,k3],fun k hk hc=>by rw [K.dk k hk hc,k3],fun i hi hc=>by rw [K.dm i (by rw [k1.like.has];exact hi) hc,k3]⟩
 ·rw [zbv.2 e,cond_false];exact zKR H n hm hp e
theorem zk2 {h:Host}{m p:Int}:zbW h m p=true↔HOk h/\hasB m (ln h.Mons)=true/\hasB p 8=true:=by
 unfold zbW;rw [zbI,zbI,zhy]
theorem zPb {h:Host}(H:HOk h)(m p:Int):Op h (zmb h m p):=by
 unfold zmb;cases hh:zbW h m p with
 | false=>exact Op.refl H
 | true =>
  obtain ⟨_,hm,hp⟩:=zk2.1 hh;rw [cond_true];unfold zhU
  by_cases e:(ix (ix h.Mons m mZ).Outer p sZ).Page = -1
  ·rw [zba.2 e];exact Op.refl H
  ·rw [zbv.2 e];exact zND H hm hp e
theorem zRi {h:Host}(H:HOk h)(m p:Int):Op h (zpw h m p):=by
 unfold zpw;cases hh:zbW h m p with
 | false=>exact Op.refl H
 | true =>
  obtain ⟨_,hm,hp⟩:=zk2.1 hh;rw [cond_true];unfold zhU
  by_cases e:(ix (ix h.Mons m mZ).Outer p sZ).Page = -1
  ·rw [zba.2 e];exact (zDq H hm hp e).1
  ·rw [zbv.2 e];exact Op.refl H
theorem zRh {h:Host}(H:HOk h)(m p:Int):Op h (zpm h m p):=by
 unfold zpm;cases hh:zbW h m p with
 | false=>exact Op.refl H
 | true =>
  obtain ⟨_,hm,hp⟩:=zk2.1 hh;rw [cond_true];obtain ⟨k1,k2⟩:=zRj H hm p;cases e:zcz (ix (ix h.Mons m zf).Outer p zX) noSlot with
  | true=>exact k1
  | false =>
   rw [cond_false];have hn:(ix (ix h.Mons m mZ).Outer p sZ).Page≠-1:=fun h1=>znR.1 e (((H.mon hm).slot hp).none h1);have:=zGQ k1.ok (m:=m) (p:=p) (by rw [k1.like.has];exact hm) hp (by rw [k2];exact hn) (r:=1) (.inl rfl)
   rw [k2 m p] at this;exact k1.trans this.1
structure KeepP (x y:Mon):Prop where
 o:y.Outer=x.Outer
 u:y.Out=x.Out
theorem zDv {h r:Host}{m:Int}(hm:hasB m (ln h.Mons)=true){y:Mon}(hM:r.Mons=up h.Mons m y)(hmem:r.Memory=h.Memory)(k:KeepP (ix h.Mons m mZ) y)(i q:Int):zcu r i q=zcu h i q:=by
 unfold zcu;rw [hM,zcT,hmem];cases hi:hasB i (ln h.Mons) with
 | false=>rfl
 | true =>
  by_cases e:m=i
  ·subst e;rw [zT hm,k.o,k.u]
  ·rw [zbb (zl.1 hm).1 (zl.1 hi).1 e]
theorem zpW {h r:Host}{m:Int}(hm:hasB m (ln h.Mons)=true){y:Mon}(hM:r.Mons=up h.Mons m y)(hmem:r.Memory=h.Memory)(k:KeepP (ix h.Mons m mZ) y)(i:Int) :
 zo r i=bif ieq i m then ⟨(zo h i).Memory,y.Guests,y.Outs,y.Pending⟩ else zo h i:=by
 have hp:zb7 r i 8 0=zb7 h i 8 0:=zm0 8 0 (fun j _ _=>zDv hm hM hmem k i j);unfold zo;rw [hp,hM,zcT]
 by_cases e:i=m
 ·subst e;rw [hm,zba.2 rfl,zT hm];rfl
 ·rw [zbv.2 e,cond_false];cases hi:hasB i (ln h.Mons) with
  | false=>rfl
  | true=>rw [zbb (zl.1 hm).1 (zl.1 hi).1 (Ne.symm e)]
theorem zib {x y:Mon}(X:MOk x)(k:KeepP x y)(g:y.Guests.length=x.Guests.length)(t:y.Tables.length=x.Tables.length)(d:y.Dirty.length=x.Dirty.length)(o:y.Outs.length<=40)(p:zcK y.Pending=true)(tr:win y.Traps 0 3=true)(ow:win y.Own 0 1000000000=true)(gs:∀g∈y.Guests,zdB g=true):MOk y :=
 ⟨by rw [g];exact X.g1,by rw [g];exact X.g2,by rw [t,g];exact X.gt,by rw [k.o];exact X.o8,by rw [k.o];exact X.sl,by rw [k.u];exact X.u8,by rw [d];exact X.d8,o,p,tr,ow,gs,by rw [k.o,k.u];exact X.fit⟩
theorem zJI {h:Host}(H:HOk h){m:Int}(hm:hasB m (ln h.Mons)=true){y:Mon}(k:KeepP (ix h.Mons m mZ) y)(hy:MOk y):HOk { h with Mons:=up h.Mons m y } :=
 H.up hm hy rfl H.m12 H.pgs H.b1 H.b2 fun q _=>.inl (by unfold cPg;rw [k.o];exact Nat.le_refl _)
theorem zri {h:Host}(S:Safe h){m:Int}(hm:hasB m (ln h.Mons)=true){y:Mon}(k:KeepP (ix h.Mons m mZ) y)(hy:MOk y)(hg:y.Guests.length=(ix h.Mons m mZ).Guests.length)(hv:∀g,hasB g (ln (ix h.Mons m mZ).Guests)=true->(ix y.Guests g gZ).Live=(ix (ix h.Mons m mZ).Guests g gZ).Live)(ht:y.Tables=(ix h.Mons m mZ).Tables):Safe { h with Mons:=up h.Mons m y } :=
 ⟨zJI S.ok hm k hy,zDC S.rt hm rfl rfl rfl hg hv ht k.o⟩
theorem zIj {h:Host}(S:Safe h)(m t:Int):Safe (zha h m t)/\∀i,zo (zha h m t) i=zo h i:=by
 unfold zha;rw [zhy.2 S.ok,cond_true];cases hm:hasB m (ln h.Mons) with
 | false=>exact ⟨S,fun _=>rfl⟩
 | true =>
  cases ht:win t 0 3 with
  | false=>exact ⟨S,fun _=>rfl⟩
  | true =>
   have X:=S.ok.mon hm;have k:KeepP (ix h.Mons m mZ) { ix h.Mons m mZ with Traps:=t }:=⟨rfl,rfl⟩;refine ⟨zri S hm k (zib X k rfl rfl rfl X.outs X.pend ht X.own X.gs) rfl (fun _ _=>rfl) rfl,fun i=>?_⟩;rw [cond_true,cond_true];refine (zpW (h:=h) (r:={ h with Mons:=up h.Mons m { ix h.Mons m mZ with Traps:=t } }) hm rfl rfl k i).trans ?_
   by_cases e:i=m
   ·subst e;rw [zba.2 rfl,cond_true];unfold zo;rw [hm];rfl
   ·rw [zbv.2 e];rfl
theorem zzf:∀(n i:Nat) (k:Kept),(zgy n i k).Known.length=k.Known.length/\(zgy n i k).Slots.length=k.Slots.length
 | 0,i,k=>⟨rfl,rfl⟩
 | n+1,i,k=>by
  have h1:=zzf n (i+1) (zbC k (i:Int));have h2:=zh6 k (i:Int);exact ⟨h1.1.trans h2.1,h1.2.trans h2.2⟩
theorem zCd:∀(n i:Nat) (k:Kept),k.Known.length=k.Slots.length->∀j,hasB j (ln k.Known)=true ->
 ((i:Int)<=j/\j<((i+n:Nat):Int)->ix (zgy n i k).Known j false=false/\ix (zgy n i k).Slots j sZ=noSlot) /\
 (¬ ((i:Int)<=j/\j<((i+n:Nat):Int))->ix (zgy n i k).Known j false=ix k.Known j false/\ix (zgy n i k).Slots j sZ=ix k.Slots j sZ)
 | 0,i,k,_,j,_=>⟨fun h=>by omega,fun _=>⟨rfl,rfl⟩⟩
 | n+1,i,k,hl,j,hj=>by
  have h2:=zh6 k (i:Int);have h3:=zry (q:=(i:Int)) hl hj;have ih:=zCd n (i+1) (zbC k (i:Int)) (by rw [h2.1,h2.2,hl]) j (by unfold ln at hj ⊢;rwa [h2.1])
  rw [zgy]
  by_cases hc:((i+1:Nat):Int)<=j/\j<((i+1+n:Nat):Int)
  ·exact ⟨fun _=>ih.1 hc,fun h=>absurd (by omega) h⟩
  ·rw [(ih.2 hc).1,(ih.2 hc).2,h3.1,h3.2]
   by_cases e:(i:Int)=j
   ·rw [zba.2 e];exact ⟨fun _=>⟨rfl,rfl⟩,fun h=>absurd (by omega) h⟩
   ·rw [zbv.2 e];exact ⟨fun h=>absurd (by omega) hc,fun _=>⟨rfl,rfl⟩⟩
theorem zHx {k:Kept}{inner outer:List Slot}(h:KOk k inner outer):KOk (zgY k) inner outer:=by
 have hl:=zzf k.Known.length 0 k;refine ⟨hl.1.trans h.l1,hl.2.trans h.l2,fun i hi=>?_⟩;have hi':hasB i (ln k.Known)=true:=by unfold ln at hi ⊢;rwa [h.l1]
 have hi2:=zl.1 hi';unfold ln at hi2;have:=(zCd k.Known.length 0 k (by rw [h.l1,h.l2]) i hi').1 ⟨by omega,by omega⟩
 unfold zgY;rw [this.1,this.2];rfl
theorem zBX:∀(n j:Nat) (l:List Kept),(zqi n j l).length=l.length
 | 0,_,_=>rfl
 | n+1,j,l=>by rw [zqi,zBX n,zbo]
theorem zI8:∀(n j:Nat) (l:List Kept),j+n<=l.length->∀g,0<=g->ix (zqi n j l) g kZ=if (j:Int)<=g/\g<((j+n:Nat):Int) then zgY (ix l g kZ) else ix l g kZ
 | 0,j,l,_,g,hg=>by rw [if_neg (by omega)];rfl
 | n+1,j,l,hl,g,hg=>by
  rw [zqi,zI8 n (j+1) _ (by rw [zbo];omega) g hg]
  by_cases e:(j:Int)=g
  ·subst e;rw [if_neg (by omega),if_pos (by omega),zT (zl.2 ⟨by omega,by unfold ln;omega⟩)]
  ·rw [zbb (by omega) hg e]
   by_cases h:((j+1:Nat):Int)<=g/\g<((j+1+n:Nat):Int)
   ·rw [if_pos h,if_pos (by omega)]
   ·rw [if_neg h,if_neg (by omega)]
theorem zBW:∀(n i:Nat) (l:List Mon),(zkQ n i l).length=l.length
 | 0,_,_=>rfl
 | n+1,i,l=>by rw [zkQ,zBW n,zbo]
theorem zGi:∀(n i:Nat) (l:List Mon),i+n<=l.length->∀m,0<=m->ix (zkQ n i l) m mZ=if (i:Int)<=m/\m<((i+n:Nat):Int) then zqj (ix l m mZ) (ix l m mZ).Tables.length 0 else ix l m mZ
 | 0,i,l,_,m,hm=>by rw [if_neg (by omega)];rfl
 | n+1,i,l,hl,m,hm=>by
  rw [zkQ,zGi n (i+1) _ (by rw [zbo];omega) m hm]
  by_cases e:(i:Int)=m
  ·subst e;rw [if_neg (by omega),if_pos (by omega),zT (zl.2 ⟨by omega,by unfold ln;omega⟩)]
  ·rw [zbb (by omega) hm e]
   by_cases h:((i+1:Nat):Int)<=m/\m<((i+1+n:Nat):Int)
   ·rw [if_pos h,if_pos (by omega)]
   ·rw [if_neg h,if_neg (by omega)]
theorem zSh (h:Host){m:Int}(hm:hasB m (ln h.Mons)=true):ix (cold h).Mons m mZ=zqj (ix h.Mons m mZ) (ix h.Mons m mZ).Tables.length 0:=by
 have:=zl.1 hm;unfold ln at this
 show ix (zkQ h.Mons.length 0 h.Mons) m mZ=_
 rw [zGi _ _ _ (by omega) m this.1,if_pos (by omega)]
theorem zsc (h:Host):(cold h).Mons.length=h.Mons.length:=zBW _ _ _
theorem zz3 (h:Host)(m:Int):hasB m (ln (cold h).Mons)=hasB m (ln h.Mons):=by unfold ln;rw [zsc]
theorem zVk {l l':List Mon}(hl:l'.length=l.length)(h:∀m,hasB m (ln l)=true->(ix l' m mZ).Outer=(ix l m mZ).Outer)(q:Int):zdW l' q=zdW l q:=by
 have:l'.map (fun x=>cPg x q)=l.map (fun x=>cPg x q):=by
  refine List.ext_getElem (by simp [hl]) fun k h1 h2=>?_
  simp only [List.length_map] at h1 h2;have:=h (k:Int) (zl.2 ⟨by omega,by unfold ln;omega⟩)
  rw [zju h1,zju h2] at this;simp [cPg,this]
 unfold zdW;rw [this]
theorem zWl {h:Host}(H:HOk h):Op h (cold h):=by
 have hx:∀m,hasB m (ln h.Mons)=true->ix (cold h).Mons m mZ=zqj (ix h.Mons m mZ) (ix h.Mons m mZ).Tables.length 0:=fun m hm=>zSh h hm;have hpg:∀i q,zcu (cold h) i q=zcu h i q:=by
  intro i q;unfold zcu;rw [zz3];cases hi:hasB i (ln h.Mons) with
  | false=>rfl
  | true=>rw [hx i hi];rfl
 refine ⟨⟨H.m12,H.pgs,by rw [zsc];exact H.n1,by rw [zsc];exact H.n3,rfl,rfl,fun y hy=>?_,fun q hq=>?_⟩,⟨zsc h,fun i hi=>by rw [hx i hi];rfl,fun i hi=>by rw [hx i hi];rfl,fun i hi=>by rw [hx i hi];rfl,fun i hi=>by rw [hx i hi];rfl,fun i hi=>by rw [hx i hi];rfl,fun i k _ _=>hpg i k⟩,fun R=>⟨fun m hm=>?_,fun e he=>(by cases he),fun e he=>(by cases he)⟩⟩
 ·obtain ⟨m,hm,rfl⟩:=zKE hy mZ;rw [zz3] at hm;rw [hx m hm];have X:=H.mon hm;have k:KeepP (ix h.Mons m mZ) (zqj (ix h.Mons m mZ) (ix h.Mons m mZ).Tables.length 0):=⟨rfl,rfl⟩;exact zib X k rfl (zBX _ _ _) rfl X.outs X.pend X.tr X.own X.gs
 ·rw [zVk (l:=h.Mons) (zsc h) (fun m hm=>by rw [hx m hm];rfl)]
  exact H.uq q hq
 ·rw [zz3] at hm;rw [hx m hm];have X:=H.mon hm;intro g hg
  show KOk (ix (zqi (ix h.Mons m mZ).Tables.length 0 (ix h.Mons m mZ).Tables) g kZ) (ix (ix h.Mons m mZ).Guests g gZ).Live (ix h.Mons m mZ).Outer
  have hg':hasB g (ln (ix h.Mons m mZ).Guests)=true:=hg;have hg2:=zl.1 hg';unfold ln at hg2;have hgt:=X.gt;rw [zI8 _ _ _ (by omega) g hg2.1,if_pos (by omega)]
  exact zHx (R.t m hm g hg')
theorem zLu {m g:Int}(hm:win m 0 2=true)(hg:win g 0 1=true):zcL (zdN m g)=m/\zdj (zdN m g)=g/\1<=zdN m g/\zdN m g<=6:=by
 have h1:=zb9.1 hm;have h2:=zb9.1 hg;have e1:m=0\/m=1\/m=2:=by omega
 have e2:g=0\/g=1:=by omega
 rcases e1 with rfl|rfl|rfl<;>rcases e2 with rfl|rfl<;>decide
theorem HOk.tag {h:Host}(H:HOk h){m g:Int}(hm:hasB m (ln h.Mons)=true)(hg:hasB g (ln (ix h.Mons m mZ).Guests)=true):win m 0 2=true/\win g 0 1=true:=by
 have h1:=zl.1 hm;have h2:=zl.1 hg;have h3:=H.n3;have h4:=(H.mon hm).g2;unfold ln at h1 h2;exact ⟨zb9.2 (by omega),zb9.2 (by omega)⟩
theorem zeS {r:Int}:zco r=true↔r=0\/r=1\/r=2\/r=3:=by
 unfold zco ige ile;rw [Bool.and_eq_true,decide_eq_true_eq,decide_eq_true_eq];omega
theorem zny {a b:Int}(h:enough a b=true):zco a=true/\zco b=true:=by
 unfold enough at h;rw [zbI,zbI] at h;exact ⟨h.1,h.2.1⟩
theorem zJu {a b c:Int}(h1:enough a b=true)(h2:enough b c=true):enough a c=true:=by
 have ha:=zeS.1 (zny h1).1;have hb:=zeS.1 (zny h1).2;have hc:=zeS.1 (zny h2).2;rcases ha with rfl|rfl|rfl|rfl<;>rcases hb with rfl|rfl|rfl|rfl<;>rcases hc with rfl|rfl|rfl|rfl<;>revert h1 h2<;>decide
theorem zLZ {a b n:Int}(hn:n=1\/n=2)(h1:enough a n=true)(h2:enough b n=true):zc8 a b≠0/\enough (zc8 a b) n=true:=by
 have ha:=zeS.1 (zny h1).1;have hb:=zeS.1 (zny h2).1;rcases hn with rfl|rfl<;>rcases ha with rfl|rfl|rfl|rfl<;>rcases hb with rfl|rfl|rfl|rfl<;>revert h1 h2<;>decide
theorem both_ok (a b:Int):zco (zc8 a b)=true:=by
 unfold zc8;cases ha:zco a with
 | false=>rfl
 | true =>
  cases hb:zco b with
  | false=>rfl
  | true =>
   have ha:=zeS.1 ha;have hb:=zeS.1 hb;rcases ha with rfl|rfl|rfl|rfl<;>rcases hb with rfl|rfl|rfl|rfl<;>decide
theorem zL4 {a:Int}(h:zco a=true):enough a a=true:=by
 rcases zeS.1 h with rfl|rfl|rfl|rfl<;>decide
theorem zmM {n:Int}(hn:n=1\/n=2):enough 0 n=false:=by rcases hn with rfl|rfl<;>decide
theorem zOl {s:Slot}{o:List Slot}(h1:s.Page≠-1)(h2:(zbh o s.Page).Page≠-1):zbd s o=bif ieq (zc8 s.Rights (zbh o s.Page).Rights) 0 then noSlot else ⟨(zbh o s.Page).Page,zc8 s.Rights (zbh o s.Page).Rights⟩:=by
 unfold zbd;rw [zbv.2 h1,zbv.2 h2];rfl
theorem zlW {s:Slot}{o:List Slot}{n:Int}(hn:n=1\/n=2)(h:enough (zbd s o).Rights n=true):s.Page≠-1/\(zbh o s.Page).Page≠-1/\(zbd s o).Page=(zbh o s.Page).Page:=by
 unfold zbd at h ⊢
 by_cases e1:s.Page = -1
 ·rw [zba.2 e1,cond_true] at h;rw [show noSlot.Rights=0 from rfl,zmM hn] at h;cases h
 ·rw [zbv.2 e1,cond_false] at h ⊢
  by_cases e2:(zbh o s.Page).Page = -1
  ·rw [zba.2 e2,cond_true] at h;rw [show noSlot.Rights=0 from rfl,zmM hn] at h;cases h
  ·rw [zbv.2 e2,cond_false] at h ⊢
   by_cases e3:zc8 s.Rights (zbh o s.Page).Rights=0
   ·rw [zba.2 e3,cond_true] at h;rw [show noSlot.Rights=0 from rfl,zmM hn] at h;cases h
   ·rw [zbv.2 e3];exact ⟨e1,e2,rfl⟩
theorem zI9 {s:Slot}{o:List Slot}{n:Int}(hn:n=1\/n=2)(h1:s.Page≠-1)(h2:(zbh o s.Page).Page≠-1)(h3:enough s.Rights n=true)(h4:enough (zbh o s.Page).Rights n=true) :
 (zbd s o).Page=(zbh o s.Page).Page/\enough (zbd s o).Rights n=true:=by
 have:=zLZ hn h3 h4;rw [zOl h1 h2,zbv.2 this.1];exact ⟨rfl,this.2⟩
theorem zOm (s:Slot)(o:List Slot):zco (zbd s o).Rights=true:=by
 unfold zbd;cases ieq s.Page (-1)<;>cases ieq (zbh o s.Page).Page (-1)<;>cases ieq (zc8 s.Rights (zbh o s.Page).Rights) 0<;>first|rfl|exact both_ok _ _
theorem zto {b:List Entry}{t p:Int}{e:Entry}:e∈zca b t p↔e∈b/\¬ (e.Tag=t/\e.Page=p):=by
 unfold zca;rw [List.mem_filter];refine and_congr Iff.rfl ?_;unfold zwk
 by_cases h:e.Tag=t
 ·rw [show ine e.Tag t=false by simp [ine,h],cond_false,zxF];simp [h]
 ·rw [zxF.2 h];simp [h]
theorem zTq {b:List Entry}{e x:Entry}(h:x∈zpy b e):x∈b\/x=e:=by
 unfold zpy ap at h;have:x∈zca b e.Tag e.Page++[e]:=by
  cases hc:igt (ln (zca b e.Tag e.Page++[e])) 6 with
  | true=>rw [hc,cond_true] at h;exact List.mem_of_mem_drop h
  | false=>rw [hc,cond_false] at h;exact h
 rcases List.mem_append.1 this with h|h
 ·exact .inl (zto.1 h).1
 ·exact .inr (List.mem_singleton.1 h)
theorem zX0 {n:Nat}(h:n<=100):wsub .i64 (n:Int) 6=(n:Int)-6:=by
 unfold wsub IntKind.wrap;simp [IntKind.signed,IntKind.bits];omega
theorem zNe {b:List Entry}(h:zeu b=true)(e:Entry):zeu (zpy b e)=true:=by
 have h1:=zxp.1 h;have hl:(zca b e.Tag e.Page).length<=6:=Nat.le_trans (List.length_filter_le _ _) h1.2;have hp:(zca b e.Tag e.Page++[e]).Pairwise (fun y x=>sameKey x y=false):=by
  rw [List.pairwise_append];refine ⟨h1.1.sublist List.filter_sublist,List.pairwise_singleton _ _,fun x hx y hy=>?_⟩;rw [List.mem_singleton.1 hy];have:=(zto.1 hx).2;unfold sameKey
  by_cases e1:e.Tag=x.Tag
  ·rw [zba.2 e1,cond_true,zbv];exact fun e2=>this ⟨e1.symm,e2.symm⟩
  ·rw [zbv.2 e1];rfl
 unfold zpy ap;cases hc:igt (ln (zca b e.Tag e.Page++[e])) 6 with
 | true =>
  rw [cond_true,zxp];refine ⟨hp.sublist (List.drop_sublist _ _),?_⟩;unfold dp ln;rw [List.length_append,List.length_singleton,zX0 (by omega),List.length_drop,List.length_append,List.length_singleton]
  omega
 | false =>
  rw [cond_false,zxp];refine ⟨hp,?_⟩;have:=of_decide_eq_false hc;unfold ln at this;omega
theorem zQ3 {h r:Host}{m:Int}(hm:hasB m (ln h.Mons)=true){y:Mon}(hM:r.Mons=up h.Mons m y)(hmem:r.Memory=h.Memory)(k:KeepP (ix h.Mons m mZ) y)(g:y.Guests=(ix h.Mons m mZ).Guests)(o:y.Outs=(ix h.Mons m mZ).Outs)(p:y.Pending=(ix h.Mons m mZ).Pending)(t:y.Traps=(ix h.Mons m mZ).Traps)(w:y.Own=(ix h.Mons m mZ).Own):Like h r:=by
 have e:∀{α:Type} (F:Mon->α),F y=F (ix h.Mons m mZ)->∀i,hasB i (ln h.Mons)=true->F (ix r.Mons i mZ)=F (ix h.Mons i mZ):=by
  intro α F hF i hi;rw [hM]
  by_cases e:m=i
  ·subst e;rw [zT hm];exact hF
  ·rw [zbb (zl.1 hm).1 (zl.1 hi).1 e]
 exact ⟨by rw [hM,zbo],e Mon.Guests g,e Mon.Outs o,e Mon.Pending p,e Mon.Traps t,e Mon.Own w,fun i q _ _=>zDv hm hM hmem k i q⟩
theorem zTs {h:Host}(R:Rt h){m g:Int}(hm:hasB m (ln h.Mons)=true)(ht:hasB g (ln (ix h.Mons m mZ).Tables)=true){k:Kept}(hk:KOk k (ix (ix h.Mons m mZ).Guests g gZ).Live (ix h.Mons m mZ).Outer) :
 Rt { h with Mons:=up h.Mons m { ix h.Mons m mZ with Tables:=up (ix h.Mons m mZ).Tables g k } }:=by
 have key:∀e,zcm h e=true->zcm { h with Mons:=up h.Mons m { ix h.Mons m mZ with Tables:=up (ix h.Mons m mZ).Tables g k } } e=true:=by
  intro e he;obtain ⟨h1,h2,h3⟩:=zep.1 he;rw [zep]
  show hasB (zcL e.Tag) (ln (up h.Mons m _))=true/\hasB (zdj e.Tag) (ln (ix (up h.Mons m _) (zcL e.Tag) mZ).Guests)=true/\below' _ (zbd (zbh (ix (ix (up h.Mons m _) (zcL e.Tag) mZ).Guests (zdj e.Tag) gZ).Live e.Page) (ix (up h.Mons m _) (zcL e.Tag) mZ).Outer)=true
  rw [zcT];refine ⟨h1,?_⟩
  by_cases hc:m=zcL e.Tag
  ·rw [<- hc] at h1 h2 h3 ⊢;rw [zT hm];exact ⟨h2,h3⟩
  ·rw [zbb (zl.1 hm).1 (zl.1 h1).1 hc];exact ⟨h2,h3⟩
 refine ⟨fun i hi=>?_,fun e he=>key e (R.e1 e he),fun e he=>key e (R.e2 e he)⟩
 show TOk (ix (up h.Mons m _) i mZ)
 have hi':hasB i (ln h.Mons)=true:=by
  have:hasB i (ln (up h.Mons m { ix h.Mons m mZ with Tables:=up (ix h.Mons m mZ).Tables g k }))=true:=hi
  rwa [zcT] at this
 by_cases hc:m=i
 ·subst hc;rw [zT hm];intro j hj
  by_cases e:g=j
  ·subst e
   show KOk (ix (up _ g k) g kZ) _ _
   rw [zT ht];exact hk
  ·show KOk (ix (up _ g k) j kZ) _ _
   rw [zbb (zl.1 ht).1 (zl.1 hj).1 e];exact R.t m hm j hj
 ·rw [zbb (zl.1 hm).1 (zl.1 hi').1 hc];exact R.t i hi'
theorem zTe {h:Host}(H:HOk h){m g:Int}(hm:hasB m (ln h.Mons)=true)(ht:hasB g (ln (ix h.Mons m mZ).Tables)=true){k:Kept}(hk:Rt h->KOk k (ix (ix h.Mons m mZ).Guests g gZ).Live (ix h.Mons m mZ).Outer) :
 Op h { h with Mons:=up h.Mons m { ix h.Mons m mZ with Tables:=up (ix h.Mons m mZ).Tables g k } }:=by
 have X:=H.mon hm;have kp:KeepP (ix h.Mons m mZ) { ix h.Mons m mZ with Tables:=up (ix h.Mons m mZ).Tables g k }:=⟨rfl,rfl⟩;exact ⟨zJI H hm kp (zib X kp rfl (zbo _ _ _) rfl X.outs X.pend X.tr X.own X.gs),zQ3 (y:={ ix h.Mons m mZ with Tables:=up (ix h.Mons m mZ).Tables g k }) hm rfl rfl kp rfl rfl rfl rfl rfl,fun R=>zTs R hm ht (hk R)⟩
theorem zC3 {k:Kept}{inner outer:List Slot}(h:KOk k inner outer)(p:Int):KOk (filled k inner outer p) inner outer:=by
 unfold filled zcV;cases h1:hasB p (ln k.Known) with
 | false=>exact h
 | true =>
  have hs:hasB p (ln k.Slots)=true:=by unfold ln at h1 ⊢;rw [h.l2,<- h.l1];exact h1
  have hi:hasB p (ln inner)=true:=by unfold ln at h1 ⊢;rw [<- h.l1];exact h1
  rw [cond_true,hs,cond_true,hi,cond_true];refine ⟨by rw [zbo];exact h.l1,by rw [zbo];exact h.l2,fun i hi'=>?_⟩
  by_cases e:p=i
  ·subst e
   show ix (up _ p _) p sZ=bif ix (up _ p true) p false then _ else _
   rw [zT hs,zT h1];rfl
  ·show ix (up _ p _) i sZ=bif ix (up _ p true) i false then _ else _
   rw [zbb (zl.1 hs).1 (zl.1 hi').1 e,zbb (zl.1 hs).1 (zl.1 hi').1 e];exact h.at' i hi'
theorem zWm {h:Host}(H:HOk h){m g:Int}(hm:hasB m (ln h.Mons)=true)(hg:hasB g (ln (ix h.Mons m mZ).Guests)=true)(page:Int):Op h (zcW h m g page) :=
 zTe H hm (by unfold ln;rw [(H.mon hm).gt];exact hg) fun R=>zC3 (R.t m hm g hg) page
theorem zPV {k:Kept}{inner outer:List Slot}(h:KOk k inner outer){p:Int}(hp:hasB p (ln inner)=true):zd2 k p=bif ix k.Known p false then zbd (ix inner p sZ) outer else noSlot:=by
 have h1:hasB p (ln k.Known)=true:=by unfold ln at hp ⊢;rw [h.l1];exact hp
 have h2:hasB p (ln k.Slots)=true:=by unfold ln at hp ⊢;rw [h.l2];exact hp
 unfold zd2 zia zcV;rw [h1,h2,cond_true,cond_true,h.at' p hp];cases ix k.Known p false<;>rfl
theorem zOg {k:Kept}{inner outer:List Slot}(h:KOk k inner outer){p:Int}(hp:hasB p (ln inner)=true):zd2 (filled k inner outer p) p=zbd (ix inner p sZ) outer:=by
 rw [zPV (zC3 h p) hp];have h1:hasB p (ln k.Known)=true:=by unfold ln at hp ⊢;rw [h.l1];exact hp
 have h2:hasB p (ln k.Slots)=true:=by unfold ln at hp ⊢;rw [h.l2];exact hp
 have:ix (filled k inner outer p).Known p false=true:=by
  unfold filled zcV;rw [h1,h2,hp];exact zT h1 _ _
 rw [this];rfl
theorem zXl {h:Host}(H:HOk h){m g page:Int}(io:Bool)(he:Rt h->zcm h (zIz h m g page)=true):Op h (zqC h m g page io):=by
 have hl:∀(b1 b2:List Entry),Like h ⟨h.Memory,h.Mons,b1,b2⟩:=fun _ _=>⟨rfl,fun _ _=>rfl,fun _ _=>rfl,fun _ _=>rfl,fun _ _=>rfl,fun _ _=>rfl,fun _ _ _ _=>rfl⟩;have key:∀(b:List Entry),(∀e∈b,zcm h e=true)->Rt h->∀e∈zpy b (zIz h m g page),zcm h e=true:=by
  intro b hb R e hx;rcases zTq hx with hx|hx
  ·exact hb e hx
  ·rw [hx];exact he R
 unfold zqC;cases io
 ·exact ⟨⟨H.m12,H.pgs,H.n1,H.n3,zNe H.b1 _,H.b2,H.mons,H.uq⟩,hl _ _,fun R=>⟨R.t,fun e hx=>key _ R.e1 R e hx,R.e2⟩⟩
 ·exact ⟨⟨H.m12,H.pgs,H.n1,H.n3,H.b1,zNe H.b2 _,H.mons,H.uq⟩,hl _ _,fun R=>⟨R.t,R.e1,fun e hx=>key _ R.e2 R e hx⟩⟩
theorem zSR {b:List Entry}{t p:Int}{e:Entry}(h:zxz b t p=some e):e∈b/\e.Tag=t/\e.Page=p:=by
 unfold zxz at h;have h1:=List.find?_some h;rw [zbI,zba,zba] at h1;exact ⟨List.mem_of_find?_eq_some h,h1⟩
theorem zhh {h:Host}{m g:Int}:zbw h m g=true↔HOk h/\hasB m (ln h.Mons)=true/\hasB g (ln (ix h.Mons m mZ).Guests)=true:=by
 unfold zbw;rw [zbI,zbI,zhy]
structure GOk (x:Guest):Prop where
 prog:zcZ x.Prog=true
 a:win x.A 0 99=true
 pc:win x.Pc 0 12=true
 w:zcI x.Written 4 8=true
 l:zcI x.Live 4 8=true
 ctl:zgX x.Ctl=true
 pend:zcK x.Pending=true
 ex:zhg x.Exit=true
 seen:ile (ln x.Seen) 40=true
theorem zo0 {x:Guest}:zdB x=true↔GOk x:=by
 unfold zdB;simp only [Bool.and_eq_true];exact ⟨fun ⟨a,b,c,d,e,f,g,h,i⟩=>⟨a,b,c,d,e,f,g,h,i⟩,fun ⟨a,b,c,d,e,f,g,h,i⟩=>⟨a,b,c,d,e,f,g,h,i⟩⟩
theorem zRJ {s:Slot}:zds s 8=true↔s=noSlot\/(0<=s.Page/\s.Page<=7/\1<=s.Rights/\s.Rights<=3):=by
 unfold zds;rw [zpd,zlI,znR];have:wsub .i64 8 1=7:=by decide
 simp only [this,zpd,zb9];simp [igt];constructor
 ·rintro (h|⟨h,⟨h1,h2⟩,h3⟩)
  ·exact .inl h
  ·exact .inr ⟨h1,h2,h3⟩
 ·intro h
  by_cases hs:s=noSlot
  ·exact .inl hs
  ·rcases h with h|⟨h1,h2,h3⟩
   ·exact .inl h
   ·exact .inr ⟨hs,⟨h1,h2⟩,h3⟩
theorem HOk.guest {h:Host}(H:HOk h){m g:Int}(hm:hasB m (ln h.Mons)=true)(hg:hasB g (ln (ix h.Mons m mZ).Guests)=true):GOk (ix (ix h.Mons m mZ).Guests g gZ):=zo0.1 ((H.mon hm).gs _ (ziM hg _))
structure Walked (l:List Slot) (p n q:Int):Prop where
 hp:hasB p (ln l)=true
 pg:(ix l p sZ).Page=q
 q8:hasB q 8=true
 en:enough (ix l p sZ).Rights n=true
theorem walked {x:Guest}(X:GOk x){p n:Int}(hw:zel x.Live p n=true):Walked x.Live p n (zb5 x.Live p n):=by
 have e:zb5 x.Live p n=(zbh x.Live p).Page:=by unfold zb5;rw [hw];rfl
 unfold zel at hw
 by_cases h1:(zbh x.Live p).Page = -1
 ·rw [zba.2 h1] at hw;cases hw
 ·rw [zbv.2 h1,cond_false,zbI] at hw;have hp:hasB p (ln x.Live)=true:=by
   cases hp:hasB p (ln x.Live) with
   | true=>rfl
   | false=>exact absurd (by unfold zbh;rw [hp];rfl) h1
  rw [zkC hp] at e h1 hw;rw [e];have hs:=zRJ.1 ((zjO.1 X.l).1 _ (ziM hp sZ));refine ⟨hp,rfl,?_,hw.1⟩;rcases hs with hs|hs
  ·rw [hs] at h1;exact absurd rfl h1
  ·exact zl.2 (by omega)
structure Looked (h r:Host) (m g page need q host:Int):Prop where
 op:Op h r
 inn:(ix (ix r.Mons m mZ).Outer q sZ).Page=host
 ne:host≠-1
 en:enough (zbd (ix (ix (ix h.Mons m mZ).Guests g gZ).Live page sZ) (ix r.Mons m mZ).Outer).Rights need=true
 cp:(zbd (ix (ix (ix h.Mons m mZ).Guests g gZ).Live page sZ) (ix r.Mons m mZ).Outer).Page=host
 dk:∀k,hasB k 8=true->k≠q->ix (ix r.Mons m mZ).Dirty k false=ix (ix h.Mons m mZ).Dirty k false
 dq:need=2->ix (ix r.Mons m mZ).Dirty q false=true
 d1:need=1->(ix r.Mons m mZ).Dirty=(ix h.Mons m mZ).Dirty
 dm:∀i,hasB i (ln h.Mons)=true->i≠m->(ix r.Mons i mZ).Dirty=(ix h.Mons i mZ).Dirty
theorem zGG {h:Host}(S:Safe h){m g page need q:Int}(hm:hasB m (ln h.Mons)=true)(hg:hasB g (ln (ix h.Mons m mZ).Guests)=true)(hn:need=1\/need=2)(W:Walked (ix (ix h.Mons m mZ).Guests g gZ).Live page need q)(io:Bool)(ha:zd2 (zbY h m g) page=zbd (ix (ix (ix h.Mons m mZ).Guests g gZ).Live page sZ) (ix h.Mons m mZ).Outer)(he:enough (zd2 (zbY h m g) page).Rights need=true) :
 Op h (zf3 h m g page io).1/\(zf3 h m g page io).2=((ix (ix h.Mons m mZ).Outer q sZ).Page,true)/\(ix (ix h.Mons m mZ).Outer q sZ).Page≠-1/\(zf3 h m g page io).1.Mons=h.Mons:=by
 rw [ha] at he;have hc:=zlW hn he;rw [W.pg,zkC ((S.ok.mon hm).hasO W.q8)] at hc;refine ⟨zXl S.ok io fun R=>?_,?_,hc.2.1,?_⟩
 ·obtain ⟨t1,t2⟩:=S.ok.tag hm hg;obtain ⟨b1,b2,_⟩:=zLu t1 t2;rw [zep]
  show hasB (zcL (zdN m g)) _=true/\hasB (zdj (zdN m g)) (ln (ix h.Mons (zcL (zdN m g)) mZ).Guests)=true/\below' ⟨(zd2 (zbY h m g) page).Page,(zd2 (zbY h m g) page).Rights⟩ (zbd (zbh (ix (ix h.Mons (zcL (zdN m g)) mZ).Guests (zdj (zdN m g)) gZ).Live page) (ix h.Mons (zcL (zdN m g)) mZ).Outer)=true
  rw [b1,b2,zkC W.hp,ha];exact ⟨hm,hg,znw.2 (.inr ⟨rfl,zL4 (zOm _ _)⟩)⟩
 ·show ((zd2 (zbY h m g) page).Page,true)=_
  rw [ha,hc.2.2]
 ·show (zqC h m g page io).Mons=_
  unfold zqC;cases io<;>rfl
theorem zKx {h:Host}(S:Safe h){m g page need q:Int}(hm:hasB m (ln h.Mons)=true)(hg:hasB g (ln (ix h.Mons m mZ).Guests)=true)(hn:need=1\/need=2)(W:Walked (ix (ix h.Mons m mZ).Guests g gZ).Live page need q)(io:Bool){b:List Entry}(hb:∀e∈b,zcm h e=true)(hd:need=2->ix (ix h.Mons m mZ).Dirty q false=true) :
 Looked h (zf2 h b m g page need q io).1 m g page need q (zf2 h b m g page need q io).2.1/\(zf2 h b m g page need q io).2.2=true:=by
 have X:=S.ok.mon hm;have hq8:=W.q8;have hsl:=zkC (X.hasO W.q8);unfold zf2;cases hf:zfR b m g page need with
 | true =>
  rw [cond_true];unfold zfR at hf;cases hfb:znB b m g page with
  | none=>rw [hfb] at hf;cases hf
  | some e =>
   rw [hfb] at hf;have hf':enough e.Rights need=true:=hf;obtain ⟨f1,f2,f3⟩:=zSR hfb;obtain ⟨t1,t2⟩:=S.ok.tag hm hg;obtain ⟨b1,b2,_⟩:=zLu t1 t2;obtain ⟨_,_,h3⟩:=zep.1 (hb e f1);rw [f2,b1,b2,f3,zkC W.hp] at h3;have hne:(⟨e.Host,e.Rights⟩:Slot)≠noSlot:=fun hc=>by
    have:e.Rights=0:=congrArg Slot.Rights hc;rw [this,zmM hn] at hf';cases hf'
   rcases znw.1 h3 with h3|⟨h3,h4⟩
   ·exact absurd h3 hne
   ·have h5:=zJu h4 hf';have hc:=zlW hn h5;rw [W.pg,hsl] at hc;have h3':e.Host=_:=h3;refine ⟨⟨Op.refl S.ok,hc.2.2.symm.trans h3.symm,?_,h5,h3.symm,fun _ _ _=>rfl,hd,fun _=>rfl,fun _ _ _=>rfl⟩,rfl⟩
    show e.Host≠-1
    rw [h3',hc.2.2];exact hc.2.1
 | false =>
  rw [cond_false];have hKO:=S.rt.t m hm g hg;cases hs:zdV h m g page need with
  | false =>
   rw [cond_false];have hs':ix (zbY h m g).Known page false=true/\enough (zd2 (zbY h m g) page).Rights need=true:=by
    unfold zdV at hs;cases hk:zia (zbY h m g) page with
    | false=>rw [hk] at hs;cases hs
    | true =>
     rw [hk,cond_true] at hs;refine ⟨?_,?_⟩
     ·unfold zia at hk;cases hh:zcV (zbY h m g) page with
      | false=>rw [hh] at hk;cases hk
      | true=>rw [hh] at hk;exact hk
     ·cases hz:ieq (zd2 (zbY h m g) page).Page (-1) with
      | true=>rw [hz] at hs;cases hs
      | false=>rw [hz] at hs;simpa using hs
   have ha:zd2 (zbY h m g) page=zbd (ix (ix (ix h.Mons m mZ).Guests g gZ).Live page sZ) (ix h.Mons m mZ).Outer:=by
    have h0:=zPV hKO W.hp;have h1:ix (ix (ix h.Mons m mZ).Tables g kZ).Known page false=true:=hs'.1;rw [h1] at h0;exact h0
   obtain ⟨o1,o2,o3,o4⟩:=zGG S hm hg hn W io ha hs'.2;rw [o2];have he:=hs'.2;rw [ha] at he;have hc:=zlW hn he;rw [W.pg,hsl] at hc;exact ⟨⟨o1,by rw [o4],o3,by rw [o4];exact he,by rw [o4];exact hc.2.2,fun _ _ _=>by rw [o4],fun e=>by rw [o4];exact hd e,fun _=>by rw [o4],fun _ _ _=>by rw [o4]⟩,rfl⟩
  | true =>
   rw [cond_true];have M:=zGP S.ok (m:=m) (p:=q) need hm hq8;have hm1:hasB m (ln (mended h m q need).Mons)=true:=by rw [M.op.like.has];exact hm
   have hgs:(ix (mended h m q need).Mons m mZ).Guests=(ix h.Mons m mZ).Guests:=M.op.like.g m hm;have hg1:hasB g (ln (ix (mended h m q need).Mons m mZ).Guests)=true:=by rw [hgs];exact hg
   have S1:Safe (mended h m q need):=M.op.safe S;have F:=zWm S1.ok hm1 hg1 page;have S2:Safe (zcW (mended h m q need) m g page):=F.safe S1;have hm2:hasB m (ln (zcW (mended h m q need) m g page).Mons)=true:=by rw [F.like.has];exact hm1
   have e2:ix (zcW (mended h m q need) m g page).Mons m mZ={ ix (mended h m q need).Mons m mZ with Tables:=up (ix (mended h m q need).Mons m mZ).Tables g (filled (zbY (mended h m q need) m g) (zce (mended h m q need) m g) (ix (mended h m q need).Mons m mZ).Outer page) }:=zT hm1 _ _;have hg2:hasB g (ln (ix (zcW (mended h m q need) m g page).Mons m mZ).Guests)=true:=by rw [e2];exact hg1
   have hgs2:(ix (zcW (mended h m q need) m g page).Mons m mZ).Guests=(ix h.Mons m mZ).Guests:=by rw [e2];exact hgs
   have W2:Walked (ix (ix (zcW (mended h m q need) m g page).Mons m mZ).Guests g gZ).Live page need q:=by rw [hgs2];exact W
   have ha:zd2 (zbY (zcW (mended h m q need) m g page) m g) page=zbd (ix (ix (ix (zcW (mended h m q need) m g page).Mons m mZ).Guests g gZ).Live page sZ) (ix (zcW (mended h m q need) m g page).Mons m mZ).Outer:=by
    have:zbY (zcW (mended h m q need) m g page) m g=filled (zbY (mended h m q need) m g) (zce (mended h m q need) m g) (ix (mended h m q need).Mons m mZ).Outer page:=by
     unfold zbY;rw [e2];exact zT (by unfold ln;rw [(S1.ok.mon hm1).gt];exact hg1) _ _
    rw [this];refine (zOg (p:=page) (S1.rt.t m hm1 g hg1) (by rw [hgs];exact W.hp)).trans ?_
    rw [e2]
   have hOu:(ix (zcW (mended h m q need) m g page).Mons m mZ).Outer=(ix (mended h m q need).Mons m mZ).Outer:=by rw [e2]
   have hsl1:=zkC ((S1.ok.mon hm1).hasO hq8);have hfull:=zI9 (s:=ix (ix (ix h.Mons m mZ).Guests g gZ).Live page sZ) (o:=(ix (mended h m q need).Mons m mZ).Outer) hn (by rw [W.pg];have:=zl.1 hq8;omega) (by rw [W.pg,hsl1];exact M.inn) W.en (by
    rw [W.pg,hsl1];rcases hn with rfl|rfl
    ·rcases (S1.ok.mon hm1).enough1 hq8 M.inn with e|e<;>rw [e]<;>decide
    ·rw [M.ri (by decide)];decide)
   have he:enough (zd2 (zbY (zcW (mended h m q need) m g page) m g) page).Rights need=true:=by
    rw [ha,hgs2,hOu];exact hfull.2
   obtain ⟨o1,o2,o3,o4⟩:=zGG S2 hm2 hg2 hn W2 io ha he;rw [o2];have hcp:=hfull.1;rw [W.pg,hsl1] at hcp;refine ⟨⟨(M.op.trans F).trans o1,by rw [o4],o3,by rw [o4,hOu];exact hfull.2,by rw [o4,hOu];exact hcp,fun k hk hc=>?_,fun e=>?_,fun e=>?_,fun i hi hc=>?_⟩,rfl⟩
   ·rw [o4,e2];exact M.dk k hk hc
   ·rw [o4,e2];exact M.dt (by rw [e];decide)
   ·rw [o4,e2];exact M.d0 (by rw [e];decide)
   ·rw [o4]
    show (ix (up (mended h m q need).Mons m _) i mZ).Dirty=_
    rw [zbb (zl.1 hm).1 (zl.1 hi).1 (Ne.symm hc)];exact M.dm i hi hc
theorem zzk {n:Int}:zhi n=true↔n=1\/n=2:=by
 unfold zhi
 by_cases h:n=1
 ·rw [zba.2 h];simp [h]
 ·rw [zbv.2 h,cond_false,zba];simp [h]
theorem zmT {h:Host}{m g page need:Int}:zbG h m g page need=true↔zbw h m g=true/\(need=1\/need=2)/\zel (zce h m g) page need=true:=by
 unfold zbG;rw [zbI,zbI,zzk]
theorem zGI {h:Host}(S:Safe h){m g page need:Int}(io:Bool)(hl:zbG h m g page need=true){b:List Entry}(hb:∀e∈b,zcm h e=true) :
 Looked h (lookOf h b m g page need io).1 m g page need (zb5 (zce h m g) page need) (lookOf h b m g page need io).2.1/\(lookOf h b m g page need io).2.2=true:=by
 obtain ⟨h1,hn,hw⟩:=zmT.1 hl;obtain ⟨_,hm,hg⟩:=zhh.1 h1;have W:=walked (S.ok.guest hm hg) hw;unfold lookOf;rw [hl,cond_true];rcases hn with rfl|rfl
 ·rw [show ieq 1 2=false by decide,cond_false]
  exact zKx S hm hg (.inl rfl) W io hb (fun e=>absurd e (by decide))
 ·rw [show ieq 2 2=true by decide,cond_true]
  obtain ⟨k1,k2⟩:=zDp S.ok hm (zb5 (zce h m g) page 2);have hm1:hasB m (ln (zbQ h m (zb5 (zce h m g) page 2)).Mons)=true:=by rw [k1.like.has];exact hm
  have e1:ix (zbQ h m (zb5 (zce h m g) page 2)).Mons m mZ={ ix h.Mons m mZ with Dirty:=up (ix h.Mons m mZ).Dirty (zb5 (zce h m g) page 2) true }:=zT hm _ _;have hD:=(S.ok.mon hm).hasD W.q8;obtain ⟨L,hL⟩:=zKx (k1.safe S) hm1 (g:=g) (page:=page) (need:=2) (q:=zb5 (zce h m g) page 2) (by rw [e1];exact hg) (.inr rfl) (by rw [e1];exact W) io (b:=b) (fun e he=>by
   obtain ⟨a1,a2,a3⟩:=zep.1 (hb e he);rw [zep];have hi:hasB (zcL e.Tag) (ln (zbQ h m (zb5 (zce h m g) page 2)).Mons)=true:=by rw [k1.like.has];exact a1
   refine ⟨hi,by rw [k1.like.g _ a1];exact a2,?_⟩
   rw [k1.like.g _ a1];have:(ix (zbQ h m (zb5 (zce h m g) page 2)).Mons (zcL e.Tag) mZ).Outer=(ix h.Mons (zcL e.Tag) mZ).Outer:=by
    show (ix (up h.Mons m _) _ mZ).Outer=_
    by_cases hc:m=zcL e.Tag
    ·rw [<- hc,zT hm]
    ·rw [zbb (zl.1 hm).1 (zl.1 a1).1 hc]
   rw [this];exact a3) (fun _=>by rw [e1];exact zT hD _ _)
  refine ⟨⟨k1.trans L.op,L.inn,L.ne,?_,?_,fun k hk hc=>?_,L.dq,fun e=>absurd e (by decide),fun i hi hc=>?_⟩,hL⟩
  ·have:=L.en;rw [e1] at this;exact this
  ·have:=L.cp;rw [e1] at this;exact this
  ·rw [L.dk k hk hc,e1];exact zbb (zl.1 W.q8).1 (zl.1 hk).1 (Ne.symm hc) _ _
  ·rw [L.dm i (by rw [k1.like.has];exact hi) hc]
   show (ix (up h.Mons m _) i mZ).Dirty=_
   rw [zbb (zl.1 hm).1 (zl.1 hi).1 (Ne.symm hc)]
theorem zxU {x y:Int}(h1 : -9223372036854775808<=x+y)(h2:x+y<=9223372036854775807):zK .i64 x y=x+y:=by
 unfold zK;simp only [IntKind.wrap,IntKind.signed,IntKind.bits];simp;omega
theorem zB8 {n:Nat}{P:Int->Prop}(h:∀i:Fin n,P ((i.val:Nat):Int)){x:Int}(h0:0<=x)(h1:x<n):P x:=by
 have:=h ⟨x.toNat,by omega⟩
 simpa [show ((x.toNat:Nat):Int)=x by omega] using this
theorem zK2 {p:Int}:zcK p=true↔0<=p/\p<=255:=by unfold zcK;exact zb9
theorem zGW {p:Int}(h:zcK p=true):zcK (zhz p)=true:=by
 have h':=zK2.1 h;exact zB8 (n:=256) (P:=fun x=>zcK (zhz x)=true) (by decide +kernel) h'.1 (by omega)
theorem zGV {p:Int}(h:zcK p=true)(n:Int):zcK (zoF p n)=true:=by
 unfold zoF zeR;rw [h,cond_true];cases hn:win n 0 7 with
 | false=>exact h
 | true =>
  rw [cond_true];have h':=zK2.1 h;have hn':=zb9.1 hn;exact zB8 (n:=256) (P:=fun x=>∀k,0<=k->k<(8:Int)->zcK (wor .i64 x (zlN .i64 1 k))=true) (fun i k h0 h1=>zB8 (n:=8) (P:=fun k=>zcK (wor .i64 ((i.val:Nat):Int) (zlN .i64 1 k))=true) (by revert i;decide +kernel) h0 h1) h'.1 (by omega) n hn'.1 (by omega)
structure GKeep (x y:Guest):Prop where
 ok:GOk y
 live:y.Live=x.Live
theorem zOP {x:Guest}(X:GOk x){c:Int}(hc:win c 0 12=true):GOk { x with Pc:=c }:=⟨X.prog,X.a,hc,X.w,X.l,X.ctl,X.pend,X.ex,X.seen⟩
theorem zOO {x:Guest}(X:GOk x){c:Int}(hc:win c 0 99=true):GOk { x with A:=c }:=⟨X.prog,hc,X.pc,X.w,X.l,X.ctl,X.pend,X.ex,X.seen⟩
theorem zgZ {x:Guest}(X:GOk x):GKeep x (zbK x):=by
 unfold zbK;have hp:=zb9.1 X.pc;cases h:ige x.Pc 12 with
 | true=>exact ⟨zOP X (by decide),rfl⟩
 | false =>
  have:¬ x.Pc≥12:=of_decide_eq_false h;refine ⟨zOP X ?_,rfl⟩;rw [zxU (by omega) (by omega)]
  exact zb9.2 (by omega)
theorem zJA {x:Guest}(X:GOk x)(n:Int):GKeep x (saw x n):=by
 unfold saw;cases h:ilt (ln x.Seen) 40 with
 | false=>exact ⟨X,rfl⟩
 | true =>
  have:ln x.Seen<40:=of_decide_eq_true h;refine ⟨⟨X.prog,X.a,X.pc,X.w,X.l,X.ctl,X.pend,X.ex,decide_eq_true ?_⟩,rfl⟩;unfold ln ap at *;simp;omega
theorem zg0 {x:Guest}(X:GOk x){e:GExit}(he:zhg e=true):GKeep x (stopped x e):=⟨⟨X.prog,X.a,X.pc,X.w,X.l,X.ctl,X.pend,he,X.seen⟩,rfl⟩
theorem zNs {x:Guest}(X:GOk x){p:Int}(hp:zcK p=true):GKeep x { x with Pending:=p }:=⟨⟨X.prog,X.a,X.pc,X.w,X.l,X.ctl,hp,X.ex,X.seen⟩,rfl⟩
theorem zNp {x:Guest}(X:GOk x)(b:Bool):GKeep x { x with Halted:=b }:=⟨⟨X.prog,X.a,X.pc,X.w,X.l,X.ctl,X.pend,X.ex,X.seen⟩,rfl⟩
theorem zNq {x:Guest}(X:GOk x):GKeep x (held x):=⟨(zgZ (zNp X true).ok).ok,(zgZ (zNp X true).ok).live⟩
theorem zQL {x:Guest}(X:GOk x){v:Int}(hv:win v 0 99=true):GKeep x (loaded x v):=by
 have h1:=zJA (zOO X hv) v;have h2:=zgZ h1.ok;exact ⟨h2.ok,h2.live.trans h1.live⟩
theorem zEk {x:Guest}(X:GOk x):GKeep x (interrupted x):=by
 unfold interrupted;cases zgr x with
 | false=>exact ⟨X,rfl⟩
 | true =>
  have h1:=zNs X (zGW X.pend);rw [cond_true];exact ⟨(zJA h1.ok _).ok,(zJA h1.ok _).live⟩
theorem zA3 {p:List Ins}(h:zcZ p=true)(i:Int):zdJ (zbV p i)=true:=by
 unfold zbV;cases hi:hasB i (ln p) with
 | false=>rfl
 | true =>
  unfold zcZ at h;rw [zbI,List.all_eq_true] at h;exact h.1 _ (ziM hi _)
theorem zXg {i:Ins}(h:zdJ i=true)(h3:i.Op=3\/i.Op=4):0<=i.X/\i.X<=15:=by
 unfold zdJ at h;rcases h3 with e|e<;>rw [e] at h<;>exact zb9.1 h
theorem zQS {i:Ins}(h:zdJ i=true)(h3:i.Op=5\/i.Op=6):0<=i.X/\i.X<=99:=by
 unfold zdJ at h;rcases h3 with e|e<;>rw [e] at h<;>exact zb9.1 h
theorem zXL {i:Ins}(h:zdJ i=true)(h3:i.Op=8):0<=i.X/\i.X<=11:=by
 unfold zdJ at h;rw [h3] at h;exact zb9.1 h
theorem zXK {i:Ins}(h:zdJ i=true)(h3:i.Op=1):0<=i.X/\i.X<=99:=by
 unfold zdJ at h;rw [h3] at h;exact zb9.1 h
theorem zOQ {x:Guest}(X:GOk x):GKeep x (plainly x):=by
 have M:=zgZ X;have hi:=zA3 X.prog x.Pc;unfold plainly;cases ine (zM x) 2 with
 | true=>exact ⟨X,rfl⟩
 | false =>
  rw [cond_false];cases win x.A 0 99 with
  | false=>exact M
  | true =>
   rw [cond_true];cases win (zbV x.Prog x.Pc).X 0 99 with
   | false=>exact M
   | true =>
    rw [cond_true]
    by_cases e1:(zbV x.Prog x.Pc).Op=1
    ·rw [zba.2 e1,cond_true];exact ⟨zOO M.ok (zb9.2 (zXK hi e1)),M.live⟩
    ·rw [zbv.2 e1,cond_false]
     by_cases e2:(zbV x.Prog x.Pc).Op=2
     ·rw [zba.2 e2,cond_true];refine ⟨zOO M.ok ?_,M.live⟩;have h1:=zb9.1 X.a;have hx:0<=(zbV x.Prog x.Pc).X/\(zbV x.Prog x.Pc).X<=99:=by
       unfold zdJ at hi;rw [e2] at hi;exact zb9.1 hi
      rw [zb9];unfold zmG;rw [zxU (by omega) (by omega)]
      have h5:=Int.tmod_nonneg (a:=x.A+(zbV x.Prog x.Pc).X) 100 (by omega)
      have h6:=Int.tmod_lt_of_pos (x.A+(zbV x.Prog x.Pc).X) (show (0:Int)<100 by omega)
      omega
     ·rw [zbv.2 e2,cond_false]
      by_cases e8:(zbV x.Prog x.Pc).Op=8
      ·rw [zba.2 e8,cond_true];cases ieq x.A 0 with
       | true =>
        have:=zXL hi e8;exact ⟨zOP M.ok (zb9.2 (by omega)),M.live⟩
       | false=>exact M
      ·rw [zbv.2 e8];exact M
theorem zoE {c:List Int}:zcr c=true↔(∀x∈c,win x 0 99=true)/\ln c=4:=by
 unfold zcr;rw [zbI,List.all_eq_true,zba]
theorem zjz (h:Host)(m:Int):∀(n i:Nat),(zb7 h m n i).length=n
 | 0,_=>rfl
 | n+1,i=>by rw [zb7,List.length_cons,zjz h m n]
theorem zDw (h:Host)(m:Int):∀(n i k:Nat) (hk:k<(zb7 h m n i).length),(zb7 h m n i)[k]=zcu h m ((i+k:Nat):Int)
 | 0,i,k,hk=>by simp [zb7] at hk
 | n+1,i,k,hk=>by
  cases k with
  | zero=>rfl
  | succ k =>
   have:=zDw h m n (i+1) k (by simpa [zb7] using hk)
   simp only [zb7,List.getElem_cons_succ];rw [this]
   congr 1
   omega
theorem zmc {h:Host}{m q:Int}(hq:hasB q 8=true)(d:List Int):ix (zb7 h m 8 0) q d=zcu h m q:=by
 have hq':=zl.1 hq;have hk:q.toNat<(zb7 h m 8 0).length:=by rw [zjz];omega
 have:=zju hk d;rw [show ((q.toNat:Nat):Int)=q by omega] at this
 rw [this,zDw]
 congr 1
 omega
theorem zpx (h:Host)(m:Int):ln (zb7 h m 8 0)=8:=by unfold ln;rw [zjz];rfl
theorem ztH {h:Host}(H:HOk h){m p:Int}(hm:hasB m (ln h.Mons)=true)(hp:hasB p 8=true):zcr (zcu h m p)=true:=by
 have X:=H.mon hm;rw [<- zih H hm hp]
 by_cases e:(ix (ix h.Mons m mZ).Outer p sZ).Page = -1
 ·rw [zba.2 e];exact ((zl0 (X.slot hp)).1 (X.fit p hp)).1 e
 ·rw [zbv.2 e];exact zGT H.pgs _
theorem zsW {h:Host}(H:HOk h){m:Int}(hm:hasB m (ln h.Mons)=true):zbJ (zo h m)=true:=by
 have X:=H.mon hm;unfold zo;rw [hm,cond_true];unfold zbJ ziO;rw [zbI,List.all_eq_true];refine ⟨X.gs,?_⟩;simp only [Bool.and_eq_true,zbI,List.all_eq_true,zba,zb9];refine ⟨⟨fun c hc=>?_,zpx h m⟩,⟨?_,?_⟩,?_,X.pend⟩
 ·obtain ⟨i,hi,rfl⟩:=zKE hc [];rw [zpx] at hi;rw [zmc hi];exact ztH H hm hi
 ·unfold ln;have:=X.g1;omega
 ·unfold ln;have:=X.g2;omega
 ·unfold ile ln;have:=X.outs;exact decide_eq_true (by omega)
structure SimT (h r:Host) (m:Int) (f:Bare->Bare):Prop where
 safe:Safe r
 seen:∀i,zo r i=bif ieq i m then f (zo h i) else zo h i
 len:r.Mons.length=h.Mons.length
theorem SimT.trans {a b c:Host}{m:Int}{f g:Bare->Bare}(x:SimT a b m f)(y:SimT b c m g):SimT a c m (fun t=>g (f t)):=by
 refine ⟨y.safe,fun i=>?_,y.len.trans x.len⟩;rw [y.seen i,x.seen i];cases ieq i m<;>rfl
theorem Op.sim {h r:Host}(k:Op h r)(S:Safe h)(m:Int):SimT h r m id:=⟨k.safe S,fun i=>by rw [k.like.seen i];cases ieq i m<;>rfl,k.like.len⟩
theorem SimT.congr {h r:Host}{m:Int}{f g:Bare->Bare}(x:SimT h r m f)(e:f (zo h m)=g (zo h m)):SimT h r m g:=by
 refine ⟨x.safe,fun i=>?_,x.len⟩;rw [x.seen i]
 by_cases hi:i=m
 ·subst hi;rw [zba.2 rfl,cond_true,cond_true,e]
 ·rw [zbv.2 hi];rfl
theorem SimT.has {h r:Host}{m:Int}{f:Bare->Bare}(x:SimT h r m f)(i:Int):hasB i (ln r.Mons)=hasB i (ln h.Mons):=by unfold ln;rw [x.len]
theorem SimT.refl {h:Host}(S:Safe h)(m:Int):SimT h h m id:=⟨S,fun i=>by cases ieq i m<;>rfl,rfl⟩
theorem zrj {h:Host}(S:Safe h){m q host:Int}(hm:hasB m (ln h.Mons)=true)(hq:hasB q 8=true)(hs:(ix (ix h.Mons m mZ).Outer q sZ).Page=host)(hne:host≠-1)(c v:Int) :
 SimT h { h with Memory:=zbm h.Memory host c v } m (fun b=>{ b with Memory:=zbm b.Memory q c v })/\cellAt h.Memory host c=cellAt (zo h m).Memory q c:=by
 have H:=S.ok;have X:=H.mon hm;have hsl:=X.slot hq;have hM:=zX7 H hsl (by rw [hs];exact hne)
 rw [hs] at hM;have hpg:ix h.Memory host []=zcu h m q:=by
  have:=zih H hm hq;rw [hs,zbv.2 hne,cond_false,zif hM] at this;exact this
 have hlen:ln (zcu h m q)=4:=(zoE.1 (ztH H hm hq)).2;have hmem:(zo h m).Memory=zb7 h m 8 0:=by unfold zo;rw [hm];rfl
 have h1:zf4 h.Memory host c=hasB c 4:=by unfold zf4;rw [hM,cond_true,hpg,hlen]
 have h2:zf4 (zb7 h m 8 0) q c=hasB c 4:=by unfold zf4;rw [zpx,hq,cond_true,zmc hq,hlen]
 have hcell:cellAt h.Memory host c=cellAt (zo h m).Memory q c:=by
  rw [hmem];unfold cellAt;rw [h1,h2,hpg,zmc hq]
 refine ⟨?_,hcell⟩;cases hc:hasB c 4 with
 | false =>
  have e1:zbm h.Memory host c v=h.Memory:=by unfold zbm;rw [h1,hc];rfl
  rw [e1];refine (SimT.refl S m).congr ?_
  show zo h m={ zo h m with Memory:=zbm (zo h m).Memory q c v }
  rw [hmem];have e2:zbm (zb7 h m 8 0) q c v=zb7 h m 8 0:=by unfold zbm;rw [h2,hc];rfl
  rw [e2,<- hmem]
 | true =>
  cases hv:win v 0 99 with
  | false =>
   have e1:zbm h.Memory host c v=h.Memory:=by unfold zbm;rw [h1,hc,hv];rfl
   rw [e1];refine (SimT.refl S m).congr ?_
   show zo h m={ zo h m with Memory:=zbm (zo h m).Memory q c v }
   rw [hmem];have e2:zbm (zb7 h m 8 0) q c v=zb7 h m 8 0:=by unfold zbm;rw [h2,hc,hv];rfl
   rw [e2,<- hmem]
  | true =>
   have e1:zbm h.Memory host c v=up h.Memory host (up (zcu h m q) c v):=by unfold zbm;rw [h1,hc,hv,hpg];rfl
   have e2:zbm (zb7 h m 8 0) q c v=up (zb7 h m 8 0) q (up (zcu h m q) c v):=by unfold zbm;rw [h2,hc,hv,zmc hq];rfl
   have hnew:zcr (up (zcu h m q) c v)=true:=by
    have:=zoE.1 (ztH H hm hq);rw [zoE,zcT];refine ⟨fun x hx=>?_,this.2⟩;rcases List.mem_or_eq_of_mem_set hx with h|h
    ·exact this.1 x h
    ·rw [h];exact hv
   have h0:=(zl.1 hM).1;have hH:HOk { h with Memory:=zbm h.Memory host c v }:=by
    rw [e1];refine ⟨by show (up _ _ _).length=12;rw [zbo];exact H.m12,fun x hx=>?_,H.n1,H.n3,H.b1,H.b2,H.mons,H.uq⟩
    rcases List.mem_or_eq_of_mem_set hx with h|h
    ·exact H.pgs x h
    ·rw [h];exact hnew
   refine ⟨⟨hH,⟨S.rt.t,S.rt.e1,S.rt.e2⟩⟩,fun i=>?_,rfl⟩;have hne':∀i k,hasB i (ln h.Mons)=true->hasB k 8=true->¬ (i=m/\k=q)->zcu { h with Memory:=zbm h.Memory host c v } i k=zcu h i k:=by
    intro i k hi hk hnot;rw [<- zih hH (m:=i) (p:=k) hi hk,<- zih H hi hk]
    show (cond (ieq (ix (ix h.Mons i mZ).Outer k sZ).Page (-1)) _ (zb4 (zbm h.Memory host c v) _))=_
    by_cases e:(ix (ix h.Mons i mZ).Outer k sZ).Page = -1
    ·rw [zba.2 e];rfl
    ·rw [zbv.2 e,cond_false,cond_false,e1];exact zwm h0 (fun e=>hnot (H.uniq hi hk hm hq e hs h0))
   have heq':zcu { h with Memory:=zbm h.Memory host c v } m q=up (zcu h m q) c v:=by
    rw [<- zih hH (m:=m) (p:=q) hm hq]
    show (cond (ieq (ix (ix h.Mons m mZ).Outer q sZ).Page (-1)) _ (zb4 (zbm h.Memory host c v) (ix (ix h.Mons m mZ).Outer q sZ).Page))=_
    rw [hs,zbv.2 hne,cond_false,e1];exact zwl hM
   by_cases hi:i=m
   ·subst hi;rw [zba.2 rfl,cond_true];unfold zo
    show (cond (hasB i (ln h.Mons)) _ _)=_
    rw [hm,cond_true,cond_true]
    show Bare.mk (zb7 { h with Memory:=zbm h.Memory host c v } i 8 0) _ _ _=Bare.mk (zbm (zb7 h i 8 0) q c v) _ _ _
    congr 1
    rw [e2];refine zFq [] (by rw [zbo,zjz,zjz]) fun k hk=>?_
    rw [zpx] at hk;rw [zmc hk]
    by_cases e:q=k
    ·subst e;rw [zT (by rw [zpx];exact hq),heq']
    ·rw [zbb (zl.1 hq).1 (zl.1 hk).1 e,zmc hk];exact hne' i k hm hk (fun h=>e h.2.symm)
   ·rw [zbv.2 hi,cond_false];unfold zo
    show (cond (hasB i (ln h.Mons)) _ _)=_
    cases hi2:hasB i (ln h.Mons) with
    | false=>rfl
    | true =>
     rw [cond_true,cond_true]
     show Bare.mk (zb7 { h with Memory:=zbm h.Memory host c v } i 8 0) _ _ _=_
     rw [zm0 8 0 (fun j h1 h2=>hne' i (j:Int) hi2 (zl.2 (by omega)) (fun h=>hi h.1))]
theorem zmB {h:Host}(S:Safe h){m g:Int}(hm:hasB m (ln h.Mons)=true)(hg:hasB g (ln (ix h.Mons m mZ).Guests)=true){y:Guest}(k:GKeep (gOf h m g) y):SimT h (zii h m g y) m (fun b=>zdq b g y):=by
 have X:=S.ok.mon hm;have kp:KeepP (ix h.Mons m mZ) { ix h.Mons m mZ with Guests:=up (ix h.Mons m mZ).Guests g y }:=⟨rfl,rfl⟩;refine ⟨zri S hm kp (zib X kp (zbo _ _ _) rfl rfl X.outs X.pend X.tr X.own fun z hz=>?_) (zbo _ _ _) (fun j hj=>?_) rfl,fun i=>?_,zbo _ _ _⟩
 ·rcases List.mem_or_eq_of_mem_set hz with h|h
  ·exact X.gs z h
  ·rw [h];exact zo0.2 k.ok
 ·show (ix (up (ix h.Mons m mZ).Guests g y) j gZ).Live=_
  by_cases e:g=j
  ·subst e;rw [zT hg];exact k.live
  ·rw [zbb (zl.1 hg).1 (zl.1 hj).1 e]
 ·refine (zpW (h:=h) (r:=zii h m g y) hm rfl rfl kp i).trans ?_
  by_cases e:i=m
  ·subst e;rw [zba.2 rfl,cond_true,cond_true];unfold zdq zo;rw [hm];rfl
  ·rw [zbv.2 e];rfl
theorem zLh {h:Host}(S:Safe h){m:Int}(hm:hasB m (ln h.Mons)=true){y:Mon}(kp:KeepP (ix h.Mons m mZ) y)(hy:MOk y)(hg:y.Guests=(ix h.Mons m mZ).Guests)(ht:y.Tables=(ix h.Mons m mZ).Tables) :
 SimT h { h with Mons:=up h.Mons m y } m (fun b=>{ b with Outs:=y.Outs,Pending:=y.Pending }):=by
 refine ⟨zri S hm kp hy (by rw [hg]) (fun j _=>by rw [hg]) ht,fun i=>?_,zbo _ _ _⟩
 refine (zpW (h:=h) (r:={ h with Mons:=up h.Mons m y }) hm rfl rfl kp i).trans ?_
 by_cases e:i=m
 ·subst e;rw [zba.2 rfl,cond_true,cond_true];unfold zo;rw [hm,hg];rfl
 ·rw [zbv.2 e];rfl
theorem zd1 {h:Host}{m:Int}(hm:hasB m (ln h.Mons)=true):zo h m=⟨zb7 h m 8 0,(ix h.Mons m mZ).Guests,(ix h.Mons m mZ).Outs,(ix h.Mons m mZ).Pending⟩:=by
 unfold zo;rw [hm];rfl
theorem zRG {h:Host}(S:Safe h){m:Int}(hm:hasB m (ln h.Mons)=true):SimT h (owned h m) m id:=by
 unfold owned;cases hc:ilt (ix h.Mons m mZ).Own 1000000000 with
 | false=>exact SimT.refl S m
 | true =>
  rw [cond_true];have X:=S.ok.mon hm;have ho:=zb9.1 X.own;have hlt:(ix h.Mons m mZ).Own<1000000000:=of_decide_eq_true hc;have kp:KeepP (ix h.Mons m mZ) { ix h.Mons m mZ with Own:=zK .i64 (ix h.Mons m mZ).Own 1 }:=⟨rfl,rfl⟩;refine (zLh S hm kp (zib X kp rfl rfl rfl X.outs X.pend X.tr ?_ X.gs) rfl rfl).congr ?_
  ·show win (zK .i64 (ix h.Mons m mZ).Own 1) 0 1000000000=true
   rw [zxU (by omega) (by omega),zb9];omega
  ·rw [zd1 hm];rfl
theorem zPD {h:Host}(S:Safe h){m:Int}(hm:hasB m (ln h.Mons)=true)(n:Int):SimT h (zk1 h m n) m (fun b=>zk5 b n):=by
 unfold zk1;have X:=S.ok.mon hm;cases hc:ilt (ln (ix h.Mons m mZ).Outs) 40 with
 | false =>
  refine (SimT.refl S m).congr ?_;rw [zd1 hm];unfold zk5;rw [hc];rfl
 | true =>
  rw [cond_true];have hlt:ln (ix h.Mons m mZ).Outs<40:=of_decide_eq_true hc;have kp:KeepP (ix h.Mons m mZ) { ix h.Mons m mZ with Outs:=ap (ix h.Mons m mZ).Outs [n] }:=⟨rfl,rfl⟩;refine (zLh S hm kp (zib X kp rfl rfl rfl ?_ X.pend X.tr X.own X.gs) rfl rfl).congr ?_
  ·show (ap (ix h.Mons m mZ).Outs [n]).length<=40
   unfold ln ap at *;simp;omega
  ·rw [zd1 hm];unfold zk5;rw [hc];rfl
theorem zpl {h:Host}{m g:Int}(hm:hasB m (ln h.Mons)=true)(hg:hasB g (ln (ix h.Mons m mZ).Guests)=true):gAt (zo h m) g=gOf h m g:=by
 rw [zd1 hm];unfold gAt
 show (cond (hasB g (ln (ix h.Mons m mZ).Guests)) _ _)=_
 rw [hg];rfl
theorem zFW {x:Guest}(h:zM x=3\/zM x=4\/zM x=5\/zM x=6):(zbV x.Prog x.Pc).Op=zM x:=by
 unfold zM at h ⊢;cases hc:canRun x with
 | false=>simp [hc] at h
 | true =>
  simp only [hc,cond_true] at h ⊢;cases ht:zgr x with
  | true=>simp [ht] at h
  | false =>
   simp only [ht,cond_false] at h ⊢;unfold zsr at h ⊢
   by_cases e3:(zbV x.Prog x.Pc).Op=3
   ·rw [e3];rfl
   ·rw [zbv.2 e3,cond_false] at h ⊢
    by_cases e4:(zbV x.Prog x.Pc).Op=4
    ·rw [e4];rfl
    ·rw [zbv.2 e4,cond_false] at h ⊢
     by_cases e5:(zbV x.Prog x.Pc).Op=5
     ·rw [e5];rfl
     ·rw [zbv.2 e5,cond_false] at h ⊢
      by_cases e6:(zbV x.Prog x.Pc).Op=6
      ·rw [e6];rfl
      ·rw [zbv.2 e6,cond_false] at h ⊢;cases h7:ieq (zbV x.Prog x.Pc).Op 7<;>simp [h7] at h
theorem zVg {x:Guest}(X:GOk x){w:Int}(hw:zM x=w)(h:w=3\/w=4):0<=address x/\address x<=15:=by
 have e:address x=(zbV x.Prog x.Pc).X:=by
  unfold address;rcases h with e|e
  ·rw [hw,e];rfl
  ·rw [hw,e];rfl
 rw [e];exact zXg (zA3 X.prog _) (by rw [zFW (by omega),hw];exact h)
theorem zVh {a:Int}(h0:0<=a)(h1:a<=15):win (zU a) 0 3=true/\hasB (zcA a) 4=true :=
 zB8 (n:=16) (P:=fun a=>win (zU a) 0 3=true/\hasB (zcA a) 4=true) (by decide) h0 (by omega)
theorem zOF {p:Int}(h:win p 0 3=true)(w:Bool):zhg (znz p w)=true:=by
 unfold zhg znz;simp [ieq,h]
theorem zQB {n:Int}(h:win n 0 99=true):zhg (zte n)=true:=by
 unfold zhg zte;simp [ieq,h]
theorem zSQ {n:Int}(h:win n 0 99=true):zhg (zss n)=true:=by
 unfold zhg zss;simp [ieq,h]
theorem zSW {x:Guest}(X:GOk x)(t:Int){w:Int}(hw:zM x=w):GKeep x (zhe x t w):=by
 have hi:=zA3 X.prog x.Pc;unfold zhe
 by_cases e6:w=6
 ·rw [zba.2 e6];exact zg0 X (zQB (zb9.2 (zQS hi (by rw [zFW (by omega),hw];omega))))
 ·rw [zbv.2 e6,cond_false]
  by_cases e5:w=5
  ·rw [zba.2 e5];cases zfx t 1 with
   | true=>exact zg0 X (zSQ (zb9.2 (zQS hi (by rw [zFW (by omega),hw];omega))))
   | false=>rw [e5];exact zgZ X
  ·rw [zbv.2 e5];rw [Bool.false_and,cond_false];cases hc:(ieq w 7&&zfx t 2) with
   | true=>exact zg0 X rfl
   | false =>
    rw [cond_false];cases ieq w 7
    ·exact zgZ X
    ·exact zNq X
theorem zNz {α:Type}(g:Int):hasB g (ln ([]:List α))=false:=by
 cases h:hasB g (ln ([]:List α)) with
 | false=>rfl
 | true=>have:=zl.1 h;simp [ln] at this;omega
theorem zSd {m:List (List Int)}(h:∀c∈m,zcr c=true)(p c:Int):win (cellAt m p c) 0 99=true:=by
 unfold cellAt zf4;cases hp:hasB p (ln m) with
 | false=>rfl
 | true =>
  rw [cond_true];cases hc:hasB c (ln (ix m p [])) with
  | false=>rfl
  | true =>
   rw [cond_true];exact (zoE.1 (h _ (ziM hp []))).1 _ (ziM hc 0)
theorem HOk.seenG {h:Host}(H:HOk h){m g:Int}(hm:hasB m (ln h.Mons)=true)(hg:hasB g (ln (ix h.Mons m mZ).Guests)=true):GOk (gOf h m g):=H.guest hm hg
theorem zLr {h:Host}(S:Safe h){m g:Int}(hm:hasB m (ln h.Mons)=true)(hg:hasB g (ln (ix h.Mons m mZ).Guests)=true)(w:Bool)(hw:zM (gOf h m g)=bif w then 4 else 3) :
 SimT h (zhd (zjS h m g (gOf h m g) w) m g (gOf h m g) w) m (fun b=>zkD b g (gOf h m g) w):=by
 have X:=S.ok.seenG hm hg;have ha:=zVg X hw (by cases w<;>simp)
 have hap:=zVh ha.1 ha.2;have hn:zbL w=1\/zbL w=2:=by cases w<;>simp [zbL]
 unfold zhd zjS;cases hl:zbG h m g (zU (address (gOf h m g))) (zbL w) with
 | false =>
  have e:lookOf h h.Buffer m g (zU (address (gOf h m g))) (zbL w) false=(h,-1,false):=by unfold lookOf;rw [hl];rfl
  have hw2:zel (gOf h m g).Live (zU (address (gOf h m g))) (zbL w)=false:=by
   cases hc:zel (gOf h m g).Live (zU (address (gOf h m g))) (zbL w) with
   | false=>rfl
   | true=>exact Bool.noConfusion (hl.symm.trans (zmT.2 ⟨zhh.2 ⟨S.ok,hm,hg⟩,hn,hc⟩))
  rw [e];refine (zmB S hm hg (zg0 X (zOF hap.1 w))).congr ?_;unfold zkD;rw [hw2];rfl
 | true =>
  obtain ⟨L,hL⟩:=zGI S false hl S.rt.e1;obtain ⟨_,_,hwk⟩:=zmT.1 hl;have hwk':zel (gOf h m g).Live (zU (address (gOf h m g))) (zbL w)=true:=hwk;have W:=walked X hwk;rw [hL,cond_true];have S1:=L.op.safe S;have hm1:hasB m (ln (lookOf h h.Buffer m g (zU (address (gOf h m g))) (zbL w) false).1.Mons)=true:=by rw [L.op.like.has];exact hm
  have hgs:=L.op.like.g m hm;have q8:hasB (zb5 (zce h m g) (zU (address (gOf h m g))) (zbL w)) 8=true:=W.q8;obtain ⟨k1,k2⟩:=zrj S1 hm1 q8 L.inn L.ne (zcA (address (gOf h m g))) (gOf h m g).A;rw [L.op.like.seen m] at k2;cases w with
  | true =>
   rw [cond_true];have k0:=L.op.sim S m;have hmm:hasB m (ln ({ (lookOf h h.Buffer m g (zU (address (gOf h m g))) (zbL true) false).1 with Memory:=zbm (lookOf h h.Buffer m g (zU (address (gOf h m g))) (zbL true) false).1.Memory (lookOf h h.Buffer m g (zU (address (gOf h m g))) (zbL true) false).2.1 (zcA (address (gOf h m g))) (gOf h m g).A }:Host).Mons)=true:=hm1;have hgg:hasB g (ln (ix ({ (lookOf h h.Buffer m g (zU (address (gOf h m g))) (zbL true) false).1 with Memory:=zbm (lookOf h h.Buffer m g (zU (address (gOf h m g))) (zbL true) false).1.Memory (lookOf h h.Buffer m g (zU (address (gOf h m g))) (zbL true) false).2.1 (zcA (address (gOf h m g))) (gOf h m g).A }:Host).Mons m mZ).Guests)=true:=by
    show hasB g (ln (ix (lookOf h h.Buffer m g (zU (address (gOf h m g))) (zbL true) false).1.Mons m mZ).Guests)=true
    rw [hgs];exact hg
   have kk:GKeep (gOf { (lookOf h h.Buffer m g (zU (address (gOf h m g))) (zbL true) false).1 with Memory:=zbm (lookOf h h.Buffer m g (zU (address (gOf h m g))) (zbL true) false).1.Memory (lookOf h h.Buffer m g (zU (address (gOf h m g))) (zbL true) false).2.1 (zcA (address (gOf h m g))) (gOf h m g).A } m g) (zbK (gOf h m g)):=by
    have:gOf { (lookOf h h.Buffer m g (zU (address (gOf h m g))) (zbL true) false).1 with Memory:=zbm (lookOf h h.Buffer m g (zU (address (gOf h m g))) (zbL true) false).1.Memory (lookOf h h.Buffer m g (zU (address (gOf h m g))) (zbL true) false).2.1 (zcA (address (gOf h m g))) (gOf h m g).A } m g=gOf h m g:=by
     show ix (ix (lookOf h h.Buffer m g (zU (address (gOf h m g))) (zbL true) false).1.Mons m mZ).Guests g gZ=_
     rw [hgs];rfl
    rw [this];exact zgZ X
   refine ((k0.trans k1).trans (zmB k1.safe hmm hgg kk)).congr ?_;unfold zkD;rw [hwk'];rfl
  | false =>
   rw [cond_false];have k0:=L.op.sim S m;have hgg:hasB g (ln (ix (lookOf h h.Buffer m g (zU (address (gOf h m g))) (zbL false) false).1.Mons m mZ).Guests)=true:=by rw [hgs];exact hg
   have kk:GKeep (gOf (lookOf h h.Buffer m g (zU (address (gOf h m g))) (zbL false) false).1 m g) (loaded (gOf h m g) (cellAt (lookOf h h.Buffer m g (zU (address (gOf h m g))) (zbL false) false).1.Memory (lookOf h h.Buffer m g (zU (address (gOf h m g))) (zbL false) false).2.1 (zcA (address (gOf h m g))))):=by
    have:gOf (lookOf h h.Buffer m g (zU (address (gOf h m g))) (zbL false) false).1 m g=gOf h m g:=by
     show ix (ix (lookOf h h.Buffer m g (zU (address (gOf h m g))) (zbL false) false).1.Mons m mZ).Guests g gZ=_
     rw [hgs];rfl
    rw [this];exact zQL X (zSd S1.ok.pgs _ _)
   refine (k0.trans (zmB S1 hm1 hgg kk)).congr ?_;unfold zkD;rw [hwk',k2];rfl
theorem zSV {h r:Host}{m g:Int}(e:(ix r.Mons m mZ).Guests=(ix h.Mons m mZ).Guests):gOf r m g=gOf h m g:=by unfold gOf;rw [e]
theorem zWn (h:Host)(m:Int)(hm:hasB m (ln h.Mons)=true):(ix (owned h m).Mons m mZ).Guests=(ix h.Mons m mZ).Guests:=by
 unfold owned;cases ilt (ix h.Mons m mZ).Own 1000000000 with
 | false=>rfl
 | true=>show (ix (up h.Mons m _) m mZ).Guests=_;rw [zT hm]
theorem zTf (h:Host)(m n:Int)(hm:hasB m (ln h.Mons)=true):(ix (zk1 h m n).Mons m mZ).Guests=(ix h.Mons m mZ).Guests:=by
 unfold zk1;cases ilt (ln (ix h.Mons m mZ).Outs) 40 with
 | false=>rfl
 | true=>show (ix (up h.Mons m _) m mZ).Guests=_;rw [zT hm]
theorem zRI {h:Host}(S:Safe h){m:Int}(hm:hasB m (ln h.Mons)=true)(x:Guest)(w:Int):SimT h (ze2 h m x w) m id/\(ix (ze2 h m x w).Mons m mZ).Guests=(ix h.Mons m mZ).Guests:=by
 unfold ze2;cases (cond (ine w 6) (ieq (ztG (ix h.Mons m mZ).Traps x.Ctl.Traps (zs4 w)) 2) false) with
 | false=>exact ⟨SimT.refl S m,rfl⟩
 | true=>exact ⟨zRG S hm,zWn h m hm⟩
theorem zRH {h:Host}(S:Safe h){m:Int}(hm:hasB m (ln h.Mons)=true)(x:Guest)(w:Int):SimT h (ze1 h m x w) m (fun b=>bif (cond (zhX x.Ctl.Traps w) (ieq w 5) false) then zk5 b (zbV x.Prog x.Pc).X else b)/\(ix (ze1 h m x w).Mons m mZ).Guests=(ix h.Mons m mZ).Guests:=by
 unfold ze1;cases (cond (zhX x.Ctl.Traps w) (ieq w 5) false) with
 | false=>exact ⟨SimT.refl S m,rfl⟩
 | true=>exact ⟨zPD S hm _,zTf h m _ hm⟩
theorem zxa {h:Host}(S:Safe h){m g:Int}(hm:hasB m (ln h.Mons)=true)(hg:hasB g (ln (ix h.Mons m mZ).Guests)=true){w:Int}(hw:zM (gOf h m g)=w) :
 SimT h (zrn h m g (gOf h m g) w) m (fun b=>zxS b g (gOf h m g) w):=by
 have X:=S.ok.seenG hm hg;obtain ⟨k0,e0⟩:=zRI S hm (gOf h m g) w;have hm0:hasB m (ln (ze2 h m (gOf h m g) w).Mons)=true:=by rw [k0.has];exact hm
 obtain ⟨k1,e1⟩:=zRH k0.safe hm0 (gOf h m g) w;have hm1:hasB m (ln (ze1 (ze2 h m (gOf h m g) w) m (gOf h m g) w).Mons)=true:=by rw [k1.has];exact hm0
 have hg1:hasB g (ln (ix (ze1 (ze2 h m (gOf h m g) w) m (gOf h m g) w).Mons m mZ).Guests)=true:=by rw [e1,e0];exact hg
 have kk:GKeep (gOf (ze1 (ze2 h m (gOf h m g) w) m (gOf h m g) w) m g) (zhe (gOf h m g) (gOf h m g).Ctl.Traps w):=by
  rw [zSV (e1.trans e0)];exact zSW X _ hw
 exact ((k0.trans k1).trans (zmB k1.safe hm1 hg1 kk)).congr rfl
theorem zPO (x:Guest):zM x=0\/zM x=1\/zM x=2\/zM x=3\/zM x=4\/zM x=5\/zM x=6\/zM x=7:=by
 unfold zM zsr;cases canRun x<;>cases zgr x<;>cases ieq (zbV x.Prog x.Pc).Op 3<;>cases ieq (zbV x.Prog x.Pc).Op 4<;>cases ieq (zbV x.Prog x.Pc).Op 5<;>cases ieq (zbV x.Prog x.Pc).Op 6<;>cases ieq (zbV x.Prog x.Pc).Op 7<;>simp
theorem zI6 {h:Host}(H:HOk h)(m g:Int):ziE (zo h m) g=bif zbw h m g then !ieq (zM (gOf h m g)) 0 else false:=by
 unfold ziE zbw;rw [zhy.2 H,cond_true];cases hm:hasB m (ln h.Mons) with
 | false =>
  have:(zo h m).Guests=[]:=by unfold zo;rw [hm];rfl
  rw [this,zNz];rfl
 | true =>
  rw [cond_true,zsW H hm,cond_true];have:(zo h m).Guests=(ix h.Mons m mZ).Guests:=by rw [zd1 hm]
  rw [this];cases hg:hasB g (ln (ix h.Mons m mZ).Guests) with
  | false=>rfl
  | true=>rw [cond_true,cond_true,zpl hm hg]
theorem step_ok {h:Host}(S:Safe h)(m g:Int):SimT h (zbi h m g).1 m (fun b=>zgh b g)/\(zbi h m g).2=ziE (zo h m) g:=by
 have hc:=zI6 S.ok m g;unfold zbi;cases hh:zbw h m g with
 | false =>
  rw [hh,cond_false] at hc;refine ⟨(SimT.refl S m).congr ?_,hc.symm⟩;unfold zgh;rw [hc];rfl
 | true =>
  rw [hh,cond_true] at hc;rw [cond_true];obtain ⟨_,hm,hg⟩:=zhh.1 hh;have X:=S.ok.seenG hm hg;have hgs:=zpl hm hg;have hf:∀w,zM (gOf h m g)=w->w≠0->zgh (zo h m) g=stepped (zo h m) g (gOf h m g) w:=by
   intro w hw h0;unfold zgh;rw [hc,hw,zbv.2 h0,hgs,hw];rfl
  rcases zPO (gOf h m g) with e|e|e|e|e|e|e|e
  ·rw [e];rw [e] at hc;refine ⟨(SimT.refl S m).congr ?_,hc.symm⟩;unfold zgh;rw [hc];rfl
  ·rw [e] at hc ⊢;exact ⟨(zmB S hm hg (zEk X)).congr (hf 1 e (by decide)).symm,hc.symm⟩
  ·rw [e] at hc ⊢;exact ⟨(zmB S hm hg (zOQ X)).congr (hf 2 e (by decide)).symm,hc.symm⟩
  ·rw [e] at hc ⊢;exact ⟨(zLr S hm hg false e).congr (hf 3 e (by decide)).symm,hc.symm⟩
  ·rw [e] at hc ⊢;exact ⟨(zLr S hm hg true e).congr (hf 4 e (by decide)).symm,hc.symm⟩
  ·rw [e] at hc ⊢;exact ⟨(zxa S hm hg e).congr (hf 5 e (by decide)).symm,hc.symm⟩
  ·rw [e] at hc ⊢;exact ⟨(zxa S hm hg e).congr (hf 6 e (by decide)).symm,hc.symm⟩
  ·rw [e] at hc ⊢;exact ⟨(zxa S hm hg e).congr (hf 7 e (by decide)).symm,hc.symm⟩
structure BackOk (b c:Bare):Prop where
 m:c.Memory=b.Memory
 o:c.Outs=b.Outs
 n:c.Guests.length=b.Guests.length
 g:∀j,hasB j (ln b.Guests)=true->GKeep (ix b.Guests j gZ) (ix c.Guests j gZ)
 p:zcK b.Pending=true->zcK c.Pending=true
theorem zTz {h:Host}(S:Safe h){m:Int}(hm:hasB m (ln h.Mons)=true){c:Bare}(k:BackOk (zo h m) c):SimT h (zcv h m c) m (fun _=>c):=by
 have X:=S.ok.mon hm;have hf:=zd1 hm;have hG:(zo h m).Guests=(ix h.Mons m mZ).Guests:=by rw [hf]
 have hn:c.Guests.length=(ix h.Mons m mZ).Guests.length:=by rw [k.n,hG]
 have hg:∀j,hasB j (ln (ix h.Mons m mZ).Guests)=true->GKeep (ix (ix h.Mons m mZ).Guests j gZ) (ix c.Guests j gZ):=fun j hj=>by
  have:=k.g j (by rw [hG];exact hj)
  rwa [hG] at this
 have kp:KeepP (ix h.Mons m mZ) (zqh (ix h.Mons m mZ) c):=⟨rfl,rfl⟩;have hp:zcK c.Pending=true:=k.p (by rw [hf];exact X.pend)
 refine ⟨zri S hm kp (zib X kp hn rfl rfl X.outs hp X.tr X.own fun z hz=>?_) hn (fun j hj=>(hg j hj).live) rfl,fun i=>?_,zbo _ _ _⟩
 ·obtain ⟨j,hj,rfl⟩:=zKE hz gZ;exact zo0.2 (hg j (by unfold ln at hj ⊢;rw [<- hn];exact hj)).ok
 ·refine (zpW (h:=h) (r:=zcv h m c) hm rfl rfl kp i).trans ?_
  by_cases e:i=m
  ·subst e;rw [zba.2 rfl,cond_true,cond_true]
   show Bare.mk (zo h i).Memory c.Guests (ix h.Mons i mZ).Outs c.Pending=c
   have h1:=k.m;have h2:=k.o;rw [hf] at h2;cases c
   simp_all
  ·rw [zbv.2 e];rfl
theorem seen_none {h:Host}{m:Int}(hm:hasB m (ln h.Mons)=false):zo h m=⟨[],[],[],0⟩:=by unfold zo;rw [hm];rfl
theorem zo3:zbJ ⟨[],[],[],0⟩=false:=by decide
theorem zpc {b:Bare}(h:zbJ b=false)(g:Int):zbM b g=false:=by unfold zbM;rw [h];rfl
theorem zfY {b:Bare}(h:zbJ b=true):BackOk b b:=⟨rfl,rfl,rfl,fun j hj=>⟨zo0.1 (by
 unfold zbJ at h;rw [zbI,List.all_eq_true] at h;exact h.1 _ (ziM hj _)),rfl⟩,id⟩
theorem zPY {b:Bare}(h:zbJ b=true){g:Int}(hg:hasB g (ln b.Guests)=true){y:Guest}(k:GKeep (gAt b g) y):BackOk b (zdq b g y):=by
 have e:gAt b g=ix b.Guests g gZ:=by unfold gAt;rw [hg];rfl
 refine ⟨rfl,rfl,zbo _ _ _,fun j hj=>?_,id⟩
 show GKeep _ (ix (up b.Guests g y) j gZ)
 by_cases hc:g=j
 ·subst hc;rw [zT hg,<- e];exact k
 ·rw [zbb (zl.1 hg).1 (zl.1 hj).1 hc];exact (zfY h).g j hj
theorem znv {b:Bare}(h:zbJ b=true){g:Int}{c:Bool}{y:Guest}(k:hasB g (ln b.Guests)=true->c=true->GOk (gAt b g)->GKeep (gAt b g) y):BackOk b (chg b g c y):=by
 unfold chg zbM;rw [h,cond_true];cases hg:hasB g (ln b.Guests) with
 | false=>exact zfY h
 | true =>
  rw [cond_true];cases c with
  | false=>exact zfY h
  | true =>
   refine zPY h hg (k hg rfl ?_);have:=(zfY h).g g hg;unfold gAt;rw [hg];exact this.ok
theorem zmj {h:Host}(S:Safe h)(m:Int){F:Bare->Bare}(hF:∀b,zbJ b=true->BackOk b (F b))(h0:F ⟨[],[],[],0⟩=⟨[],[],[],0⟩):SimT h (zdK h m (F (zo h m))) m F:=by
 unfold zdK zcc;rw [zhy.2 S.ok,cond_true];cases hm:hasB m (ln h.Mons) with
 | false =>
  refine (SimT.refl S m).congr ?_;rw [seen_none hm];exact h0.symm
 | true=>exact (zTz S hm (hF _ (zsW S.ok hm))).congr rfl
theorem zij {h:Host}(S:Safe h)(m:Int){t:Bare->Bool}(h0:t ⟨[],[],[],0⟩=false):zdc h m (t (zo h m))=t (zo h m):=by
 unfold zdc zcc;rw [zhy.2 S.ok,cond_true];cases hm:hasB m (ln h.Mons) with
 | false=>rw [cond_false,seen_none hm,h0]
 | true=>rfl
theorem zlV (g:Int)(c:Bool)(y:Guest):chg ⟨[],[],[],0⟩ g c y=⟨[],[],[],0⟩:=by unfold chg;rw [zpc zo3];rfl
theorem zgW (g:Int)(c:Bool):zbz ⟨[],[],[],0⟩ g c=false:=by unfold zbz;rw [zpc zo3];rfl
theorem zLt {t:List Slot}{n q:Int}(h:zcI t n q=true){p:Int}{s:Slot}(hs:zds s q=true):zcI (zdk t p s) n q=true:=by
 unfold zdk;cases hasB p (ln t) with
 | false=>exact h
 | true =>
  rw [cond_true];rw [zjO] at h ⊢;rw [zcT];refine ⟨fun x hx=>?_,h.2⟩;rcases List.mem_or_eq_of_mem_set hx with h1|h1
  ·exact h.1 x h1
  ·rw [h1];exact hs
theorem zVX {x:Guest}(X:GOk x){p:Int}{s:Slot}(h:zok p s=true):GKeep x (zt1 x p s):=by
 unfold zok at h;rw [zbI] at h;exact ⟨⟨X.prog,X.a,X.pc,zLt X.w h.2,X.l,X.ctl,X.pend,X.ex,X.seen⟩,rfl⟩
theorem zVU {x:Guest}(X:GOk x){v:Int}(h:znV x v=true):GKeep x (zrr x v):=by
 unfold znV at h;rw [zbI] at h;unfold zrr;cases ieq x.Exit.Kind 2 with
 | true =>
  rw [cond_true];have h1:=zg0 (zOO X h.1) (e:=zid) rfl;have h2:=zgZ h1.ok;exact ⟨h2.ok,h2.live⟩
 | false =>
  rw [cond_false];have h1:=zg0 X (e:=zid) rfl;have h2:=zgZ h1.ok;exact ⟨h2.ok,h2.live.trans h1.live⟩
theorem zVW {x:Guest}(X:GOk x):GKeep x (zrF x):=by
 unfold zrF;have h1:=zg0 X (e:=zid) rfl;cases ieq x.Exit.Kind 1 with
 | true=>exact h1
 | false =>
  have h2:=zNq h1.ok;exact ⟨h2.ok,h2.live.trans h1.live⟩
theorem zNr {x:Guest}(X:GOk x)(n:Int):GKeep x (zj6 x n):=zNs X (zGV X.pend n)
theorem zVV {x:Guest}(X:GOk x){c:Ctl}(h:zgX c=true):GKeep x (zz5 x c):=⟨⟨X.prog,X.a,X.pc,X.w,X.l,h,X.pend,X.ex,X.seen⟩,rfl⟩
theorem zvF (n:Int):∀(ks:List Int) (b:Bare) (l:List Guest),(∀k∈ks,hasB k (ln b.Guests)=true)->BackOk b { b with Guests:=l }->BackOk b { b with Guests:=ziS n ks l }
 | [],b,l,_,h=>h
 | k :: ks,b,l,hk,h=>by
  show BackOk b { b with Guests:=ziS n ks (zxL n l k) }
  refine zvF n ks b _ (fun j hj=>hk j (List.mem_cons_of_mem _ hj)) ⟨h.m,h.o,by show (up l k _).length=_;rw [zbo];exact h.n,fun j hj=>?_,h.p⟩
  show GKeep _ (ix (up l k _) j gZ)
  have hl:l.length=b.Guests.length:=h.n;have hkl:hasB k (ln l)=true:=by unfold ln;rw [hl];exact hk k List.mem_cons_self
  by_cases e:k=j
  ·subst e;rw [zT hkl];have h1:=h.g k hj;have h2:=zNr h1.ok n;exact ⟨h2.ok,h2.live.trans h1.live⟩
  ·rw [zbb (zl.1 hkl).1 (zl.1 hj).1 e];exact h.g j hj
theorem zOi {b:Bare}(h:zbJ b=true)(n:Int):BackOk b (zg5 b n):=by
 unfold zg5 zdU zxM;rw [h,cond_true];cases hasB n 8 with
 | false=>exact zfY h
 | true =>
  rw [cond_true];cases ieq (ln (zdf b.Guests n)) 0 with
  | true =>
   have:=zfY h;exact ⟨rfl,rfl,rfl,this.g,fun hp=>zGV hp n⟩
  | false =>
   rw [cond_false];refine zvF n _ b b.Guests (fun k hk=>?_) (zfY h);unfold zdf at hk;obtain ⟨j,hj,rfl,_⟩:=(zAL (d:=gZ)).1 hk;exact zl.2 ⟨by omega,by unfold ln;omega⟩
theorem zPX {b:Bare}(h:zbJ b=true):BackOk b (zjg b):=by
 unfold zjg;rw [h,cond_true];exact ⟨rfl,rfl,rfl,(zfY h).g,fun hp=>zGW hp⟩
theorem zTo {h:Host}(S:Safe h)(m p c v:Int):SimT h (zj4 h m p c v) m (fun b=>zIF b p c v)/\zd5 h m p c v=zst (zo h m) p c v:=by
 have e:zd5 h m p c v=zst (zo h m) p c v:=by
  unfold zd5 zst zbW zU4;rw [zhy.2 S.ok,cond_true];cases hm:hasB m (ln h.Mons) with
  | false=>rw [seen_none hm,zo3];rfl
  | true=>rw [zsW S.ok hm,cond_true];rfl
 refine ⟨?_,e⟩;unfold zj4;cases hc:zd5 h m p c v with
 | false =>
  refine (SimT.refl S m).congr ?_;unfold zIF;rw [<- e,hc];rfl
 | true =>
  rw [cond_true];have hc':=hc;unfold zd5 at hc';rw [zbI,zbI] at hc';obtain ⟨h1,_,_⟩:=hc';obtain ⟨_,hm,hp⟩:=zk2.1 h1;have M:=zGP S.ok (m:=m) (p:=p) 2 hm hp;have k0:=M.op.sim S m;have hm1:hasB m (ln (mended h m p 2).Mons)=true:=by rw [k0.has];exact hm
  obtain ⟨k1,_⟩:=zrj k0.safe hm1 hp rfl M.inn c v;refine (k0.trans k1).congr ?_;unfold zIF;rw [<- e,hc];rfl
theorem zQ6 {h:Host}(S:Safe h)(m g page need:Int):zbG h m g page need=(cond (zbM (zo h m) g) (cond (zhi need) (zel (gAt (zo h m) g).Live page need) false) false):=by
 have e:zbw h m g=zbM (zo h m) g:=by
  unfold zbw zbM;rw [zhy.2 S.ok,cond_true];cases hm:hasB m (ln h.Mons) with
  | false=>rw [seen_none hm,zo3,cond_false,cond_false]
  | true =>
   rw [cond_true,zsW S.ok hm,cond_true];have:(zo h m).Guests=(ix h.Mons m mZ).Guests:=by rw [zd1 hm]
   rw [this]
 unfold zbG;rw [<- e];cases hg:zbw h m g with
 | false=>rw [cond_false,cond_false]
 | true =>
  obtain ⟨_,hm,hg⟩:=zhh.1 hg;have:(gAt (zo h m) g).Live=zce h m g:=by rw [zpl hm hg];rfl
  rw [this]
theorem zAg {h:Host}(S:Safe h)(m g a n:Int)(hn:n=1\/n=2):zkT (zo h m) g a n=bif win a 0 15 then zbG h m g (zU a) n else false:=by
 rw [zQ6 S];unfold zkT;rw [zzk.2 hn,cond_true];cases zbM (zo h m) g<;>cases win a 0 15<;>rfl
theorem zJt {h:Host}(S:Safe h){m g a n:Int}(hn:n=1\/n=2)(hd:zkT (zo h m) g a n=true) :
 Looked h (zwb h m g a n).1 m g (zU a) n (zxt (zo h m) g a n) (zwb h m g a n).2.1/\hasB m (ln h.Mons)=true/\hasB (zxt (zo h m) g a n) 8=true:=by
 rw [zAg S m g a n hn,zbI] at hd;obtain ⟨L,_⟩:=zGI S true hd.2 S.rt.e2;obtain ⟨h1,_,hw⟩:=zmT.1 hd.2;obtain ⟨_,hm,hg⟩:=zhh.1 h1;have e:zxt (zo h m) g a n=zb5 (zce h m g) (zU a) n:=by
  unfold zxt;rw [zpl hm hg];rfl
 rw [e];exact ⟨L,hm,(walked (S.ok.guest hm hg) hw).q8⟩
theorem zXd {h:Host}(S:Safe h)(m g a v:Int):SimT h (zl5 h m g a v) m (fun b=>zOC b g a v)/\zfi h m g a v=ztl (zo h m) g a v:=by
 have e:zfi h m g a v=ztl (zo h m) g a v:=by
  unfold zfi ztl;rw [zAg S m g a 2 (.inr rfl)];cases win a 0 15<;>cases win v 0 99<;>cases zbG h m g (zU a) 2<;>rfl
 refine ⟨?_,e⟩;unfold zl5;cases hc:zfi h m g a v with
 | false =>
  refine (SimT.refl S m).congr ?_;unfold zOC;rw [<- e,hc];rfl
 | true =>
  rw [cond_true];have hd:zkT (zo h m) g a 2=true:=by
   have:=e.symm.trans hc;unfold ztl at this;exact (zbI.1 this).1
  obtain ⟨L,hm,hq⟩:=zJt S (.inr rfl) hd;have k0:=L.op.sim S m;obtain ⟨k1,_⟩:=zrj k0.safe (by rw [k0.has];exact hm) hq L.inn L.ne (zcA a) v
  refine (k0.trans k1).congr ?_;unfold zOC;rw [<- e,hc];rfl
theorem zWq {h:Host}(S:Safe h)(m g a:Int):SimT h (zj5 h m g a) m id/\zeE h m g a=zkT (zo h m) g a 1/\znH h m g a=zIJ (zo h m) g a:=by
 have e:zeE h m g a=zkT (zo h m) g a 1:=by
  unfold zeE;rw [zAg S m g a 1 (.inl rfl)]
 unfold zj5 znH zIJ;rw [e];cases hd:zkT (zo h m) g a 1 with
 | false=>exact ⟨SimT.refl S m,rfl,rfl⟩
 | true =>
  obtain ⟨L,hm,hq⟩:=zJt S (.inl rfl) hd;have k0:=L.op.sim S m;obtain ⟨_,k2⟩:=zrj k0.safe (by rw [k0.has];exact hm) hq L.inn L.ne (zcA a) 0
  rw [L.op.like.seen m] at k2;exact ⟨k0,rfl,k2⟩
theorem zQU {k:Kept}{inner outer:List Slot}(h:KOk k inner outer)(p:Int)(s:Slot):KOk (zbC k p) (zdk inner p s) outer:=by
 have hl:=zh6 k p;have hw:(zdk inner p s).length=inner.length:=by unfold zdk;cases hasB p (ln inner)<;>simp [zbo]
 refine ⟨by rw [hl.1,hw,h.l1],by rw [hl.2,hw,h.l2],fun i hi=>?_⟩
 have hi1:hasB i (ln inner)=true:=by unfold ln at hi ⊢;rwa [<- hw]
 have hi':hasB i (ln k.Known)=true:=by unfold ln at hi1 ⊢;rwa [h.l1]
 have ha:=zry (q:=p) (by rw [h.l1,h.l2]) hi'
 rw [ha.1,ha.2]
 by_cases e:p=i
 ·subst e;rw [zba.2 rfl];rfl
 ·rw [zbv.2 e,cond_false,cond_false,h.at' i hi1];have:ix (zdk inner p s) i sZ=ix inner i sZ:=by
   unfold zdk;cases hp:hasB p (ln inner) with
   | false=>rfl
   | true=>exact zbb (zl.1 hp).1 (zl.1 hi1).1 e _ _
  rw [this]
theorem zXw {t m g:Int}(h1:zcL t=m)(h2:zdj t=g)(hm:0<=m):t=zdN m g:=by
 subst h1;subst h2
 by_cases h:1<=t/\t<=6
 ·have e:t=1\/t=2\/t=3\/t=4\/t=5\/t=6:=by omega
  rcases e with rfl|rfl|rfl|rfl|rfl|rfl<;>decide
 ·exfalso;have:zcL t = -1:=by
   unfold zcL ige ile;rw [show (decide (t≥1)&&decide (t<=6))=false by simp;omega];rfl
  omega
theorem zM0 {t:List Slot}{p q:Int}{s:Slot}(h:q≠p):zbh (zdk t p s) q=zbh t q:=by
 unfold zdk;cases hp:hasB p (ln t) with
 | false=>rfl
 | true=>exact zG5 (zl.1 hp).1 h
theorem zTA {t:List Slot}(h:zcI t 4 8=true)(p:Int):zds (zbh t p) 8=true:=by
 unfold zbh;cases hp:hasB p (ln t) with
 | false=>rfl
 | true=>exact (zjO.1 h).1 _ (ziM hp _)
theorem zQK {x:Guest}(X:GOk x)(p:Int):GOk (zcY x p):=⟨X.prog,X.a,X.pc,X.w,zLt X.l (zTA X.w p),X.ctl,X.pend,X.ex,X.seen⟩
theorem zST {h:Host}(S:Safe h)(m g p:Int):SimT h (zh8 h m g p) m (fun b=>chg b g (hasB p 4) (zcY (gAt b g) p))/\zdc h m (zbz (zo h m) g (hasB p 4))=zbz (zo h m) g (hasB p 4):=by
 refine ⟨?_,zij S m (t:=fun b=>zbz b g (hasB p 4)) (zgW g _)⟩;unfold zh8 zcc;rw [zhy.2 S.ok,cond_true];cases hm:hasB m (ln h.Mons) with
 | false =>
  refine (SimT.refl S m).congr ?_;rw [seen_none hm,zlV];rfl
 | true =>
  rw [cond_true];cases hc:zbz (zo h m) g (hasB p 4) with
  | false =>
   refine (SimT.refl S m).congr ?_
   show zo h m=chg (zo h m) g (hasB p 4) (zcY (gAt (zo h m) g) p)
   have hc':=hc;unfold zbz at hc';unfold chg;rw [hc'];rfl
  | true =>
   rw [cond_true];have hc':=hc;unfold zbz zbM at hc';rw [zsW S.ok hm,cond_true,zbI,zd1 hm] at hc';have hg:hasB g (ln (ix h.Mons m mZ).Guests)=true:=hc'.1;have X:=S.ok.mon hm;have G:=S.ok.seenG hm hg;have e1:chg (zo h m) g (hasB p 4) (zcY (gAt (zo h m) g) p)=zdq (zo h m) g (zcY (gOf h m g) p):=by
    have h1:=hc;unfold zbz at h1;unfold chg;rw [h1,zpl hm hg];rfl
   rw [e1];have htg:hasB g (ln (ix h.Mons m mZ).Tables)=true:=by unfold ln;rw [X.gt];exact hg
   have hM:(zvT (zcv h m (zdq (zo h m) g (zcY (gOf h m g) p))) m g p).Mons=up h.Mons m { ix h.Mons m mZ with Guests:=up (ix h.Mons m mZ).Guests g (zcY (gOf h m g) p),Tables:=up (ix h.Mons m mZ).Tables g (zbC (ix (ix h.Mons m mZ).Tables g kZ) p) }:=by
    show up (up h.Mons m _) m _=_
    rw [zR1];have e2:ix (zcv h m (zdq (zo h m) g (zcY (gOf h m g) p))).Mons m mZ=zqh (ix h.Mons m mZ) (zdq (zo h m) g (zcY (gOf h m g) p)):=zT hm _ _;rw [e2];unfold zqh zdq;rw [zd1 hm]
   have kp:KeepP (ix h.Mons m mZ) { ix h.Mons m mZ with Guests:=up (ix h.Mons m mZ).Guests g (zcY (gOf h m g) p),Tables:=up (ix h.Mons m mZ).Tables g (zbC (ix (ix h.Mons m mZ).Tables g kZ) p) }:=⟨rfl,rfl⟩;have hy:MOk { ix h.Mons m mZ with Guests:=up (ix h.Mons m mZ).Guests g (zcY (gOf h m g) p),Tables:=up (ix h.Mons m mZ).Tables g (zbC (ix (ix h.Mons m mZ).Tables g kZ) p) }:=zib X kp (zbo _ _ _) (zbo _ _ _) rfl X.outs X.pend X.tr X.own fun z hz=>by
    rcases List.mem_or_eq_of_mem_set hz with h|h
    ·exact X.gs z h
    ·rw [h];exact zo0.2 (zQK G p)
   have hH:HOk (zvT (zcv h m (zdq (zo h m) g (zcY (gOf h m g) p))) m g p):=S.ok.up hm hy hM S.ok.m12 S.ok.pgs (ztc S.ok.b1 _) (ztc S.ok.b2 _) fun q _=>.inl (Nat.le_refl _);have key:∀b:List Entry,(∀e∈b,zcm h e=true)->∀e∈zca b (zdN m g) p,zcm (zvT (zcv h m (zdq (zo h m) g (zcY (gOf h m g) p))) m g p) e=true:=by
    intro b hb e he;obtain ⟨he1,he2⟩:=zto.1 he;obtain ⟨h1,h2,h3⟩:=zep.1 (hb e he1);rw [zep,hM,zcT];refine ⟨h1,?_⟩
    by_cases hcm:m=zcL e.Tag
    ·rw [<- hcm] at h1 h2 h3 ⊢;rw [zT hm]
     show hasB (zdj e.Tag) (ln (up _ _ _))=true/\below' _ (zbd (zbh (ix (up (ix h.Mons m mZ).Guests g _) (zdj e.Tag) gZ).Live e.Page) (ix h.Mons m mZ).Outer)=true
     rw [zcT];refine ⟨h2,?_⟩
     by_cases hcg:g=zdj e.Tag
     ·rw [<- hcg] at h2 h3 ⊢;rw [zT hg];have hne:e.Page≠p:=fun hp=>he2 ⟨zXw hcm.symm hcg.symm (zl.1 hm).1,hp⟩
      show below' _ (zbd (zbh (zdk (gOf h m g).Live p _) e.Page) _)=true
      rw [zM0 hne];exact h3
     ·rw [zbb (zl.1 hg).1 (zl.1 h2).1 hcg];exact h3
    ·rw [zbb (zl.1 hm).1 (zl.1 h1).1 hcm];exact ⟨h2,h3⟩
   refine ⟨⟨hH,⟨fun i hi=>?_,key _ S.rt.e1,key _ S.rt.e2⟩⟩,fun i=>?_,by rw [hM,zbo]⟩
   ·rw [hM] at hi ⊢;rw [zcT] at hi
    by_cases hcm:m=i
    ·subst hcm;rw [zT hm];intro j hj
     show KOk (ix (up (ix h.Mons m mZ).Tables g _) j kZ) (ix (up (ix h.Mons m mZ).Guests g _) j gZ).Live (ix h.Mons m mZ).Outer
     have hj':hasB j (ln (ix h.Mons m mZ).Guests)=true:=by
      have:hasB j (ln (up (ix h.Mons m mZ).Guests g (zcY (gOf h m g) p)))=true:=hj
      rwa [zcT] at this
     by_cases e:g=j
     ·subst e;rw [zT htg,zT hg];exact zQU (S.rt.t m hm g hg) p _
     ·rw [zbb (zl.1 hg).1 (zl.1 hj').1 e,zbb (zl.1 hg).1 (zl.1 hj').1 e];exact S.rt.t m hm j hj'
    ·rw [zbb (zl.1 hm).1 (zl.1 hi).1 hcm];exact S.rt.t i hi
   ·refine (zpW (h:=h) hm hM rfl kp i).trans ?_
    by_cases e:i=m
    ·subst e;rw [zba.2 rfl,cond_true,cond_true,e1,zd1 hm];rfl
    ·rw [zbv.2 e];rfl
theorem zHe (g:Int):zgh ⟨[],[],[],0⟩ g=⟨[],[],[],0⟩/\ziE ⟨[],[],[],0⟩ g=false:=by
 have:ziE ⟨[],[],[],0⟩ g=false:=by unfold ziE;rw [zNz];rfl
 refine ⟨?_,this⟩;unfold zgh;rw [this];rfl
theorem zS1 {h:Host}(S:Safe h)(a:GAct):SimT h (zps h a) a.M (fun b=>zBO b a)/\zv9 h a=zBP (zo h a.M) a:=by
 have hn:=zo3;unfold zps zv9 zBO zBP;cases ieq a.Kind 1 with
 | true =>
  obtain ⟨k,e⟩:=step_ok S a.M a.G;exact ⟨k,by rw [cond_true,cond_true,e]⟩
 | false =>
  simp only [cond_false];cases ieq a.Kind 2 with
  | true =>
   exact ⟨zmj S a.M (F:=fun b=>chg b a.G (zok a.X ⟨a.Y,a.Z⟩) (zt1 (gAt b a.G) a.X ⟨a.Y,a.Z⟩)) (fun b hb=>znv hb fun _ hc G=>zVX G hc) (zlV _ _ _),
    congrArg (fun t=>Told.mk t 0) (zij S a.M (t:=fun b=>zbz b a.G (zok a.X ⟨a.Y,a.Z⟩)) (zgW _ _))⟩
  | false =>
   simp only [cond_false];cases ieq a.Kind 3 with
   | true =>
    obtain ⟨k,e⟩:=zST S a.M a.G a.X;exact ⟨k,congrArg (fun t=>Told.mk t 0) e⟩
   | false =>
    simp only [cond_false];cases ieq a.Kind 4 with
    | true =>
     exact ⟨zmj S a.M (F:=fun b=>chg b a.G (znV (gAt b a.G) a.X) (zrr (gAt b a.G) a.X)) (fun b hb=>znv hb fun _ hc G=>zVU G hc) (zlV _ _ _),
      congrArg (fun t=>Told.mk t 0) (zij S a.M (t:=fun b=>zbz b a.G (znV (gAt b a.G) a.X)) (zgW _ _))⟩
    | false =>
     simp only [cond_false];cases ieq a.Kind 5 with
     | true =>
      exact ⟨zmj S a.M (F:=fun b=>chg b a.G (zrE (gAt b a.G)) (zrF (gAt b a.G))) (fun b hb=>znv hb fun _ _ G=>zVW G) (zlV _ _ _),
       congrArg (fun t=>Told.mk t 0) (zij S a.M (t:=fun b=>zbz b a.G (zrE (gAt b a.G))) (zgW _ _))⟩
     | false =>
      simp only [cond_false];cases ieq a.Kind 6 with
      | true =>
       exact ⟨zmj S a.M (F:=fun b=>chg b a.G (zeR (gAt b a.G).Pending a.X) (zj6 (gAt b a.G) a.X)) (fun b hb=>znv hb fun _ _ G=>zNr G _) (zlV _ _ _),
        congrArg (fun t=>Told.mk t 0) (zij S a.M (t:=fun b=>zbz b a.G (zeR (gAt b a.G).Pending a.X)) (zgW _ _))⟩
      | false =>
       simp only [cond_false];cases ieq a.Kind 7 with
       | true =>
        exact ⟨zmj S a.M (F:=fun b=>chg b a.G (zgX ⟨a.X,a.Y,ieq a.Z 1⟩) (zz5 (gAt b a.G) ⟨a.X,a.Y,ieq a.Z 1⟩)) (fun b hb=>znv hb fun _ hc G=>zVV G hc) (zlV _ _ _),
         congrArg (fun t=>Told.mk t 0) (zij S a.M (t:=fun b=>zbz b a.G (zgX ⟨a.X,a.Y,ieq a.Z 1⟩)) (zgW _ _))⟩
       | false =>
        simp only [cond_false];cases ieq a.Kind 8 with
        | true =>
         obtain ⟨k,e⟩:=zTo S a.M a.X a.Y a.Z;exact ⟨k,congrArg (fun t=>Told.mk t 0) e⟩
        | false =>
         simp only [cond_false];cases ieq a.Kind 9 with
         | true =>
          exact ⟨zmj S a.M (F:=fun b=>zg5 b a.X) (fun b hb=>zOi hb _) (by unfold zg5 zdU;rw [hn];rfl),
           congrArg (fun t=>Told.mk t 0) (zij S a.M (t:=fun b=>zdU b a.X) (by unfold zdU;rw [hn];rfl))⟩
         | false =>
          simp only [cond_false];cases ieq a.Kind 10 with
          | true =>
           refine ⟨zmj S a.M (F:=zjg) (fun b hb=>zPX hb) (by unfold zjg;rw [hn];rfl),?_⟩
           have e:=zij S a.M (t:=ziC) (by unfold ziC;rw [hn];rfl)
           show Told.mk (zdc h a.M (ziC (zo h a.M))) (cond (zcc h a.M) (znU (zo h a.M)) (-1))=⟨ziC (zo h a.M),znU (zo h a.M)⟩
           rw [e]
           congr 1
           unfold zcc;rw [zhy.2 S.ok,cond_true];cases hm:hasB a.M (ln h.Mons) with
           | true=>rfl
           | false=>rw [seen_none hm];unfold znU;rw [hn];rfl
          | false =>
           simp only [cond_false];cases ieq a.Kind 11 with
           | true =>
            obtain ⟨k,e⟩:=zXd S a.M a.G a.X a.Y;exact ⟨k,congrArg (fun t=>Told.mk t 0) e⟩
           | false =>
            obtain ⟨k,e1,e2⟩:=zWq S a.M a.G a.X;exact ⟨k,by simp only [cond_false];rw [e1,e2]⟩
theorem zTg {h:Host}(S:Safe h)(a:GAct):Safe (zjy h a)/\(∀i,zo (zjy h a) i=zo h i)/\(zjy h a).Mons.length=h.Mons.length:=by
 unfold zjy;have k:∀r,Op h r->Safe r/\(∀i,zo r i=zo h i)/\r.Mons.length=h.Mons.length:=fun r k=>⟨k.safe S,fun i=>k.like.seen i,k.like.len⟩;cases ieq a.Kind 13 with
 | true=>exact k _ (zPb S.ok _ _)
 | false =>
  simp only [cond_false];cases ieq a.Kind 14 with
  | true=>exact k _ (zRi S.ok _ _)
  | false =>
   simp only [cond_false];cases ieq a.Kind 15 with
   | true=>exact k _ (zRh S.ok _ _)
   | false =>
    simp only [cond_false];cases ieq a.Kind 16 with
    | true =>
     obtain ⟨h1,h2⟩:=zIj S a.M a.X;refine ⟨h1,h2,?_⟩;simp only [cond_true];unfold zha;cases zbN h<;>cases hasB a.M (ln h.Mons)<;>cases win a.X 0 3<;>first|rfl|exact zbo _ _ _
    | false=>exact k _ (zWl S.ok)
def zhT (a:GAct):Bool:=bif win a.Kind 1 17 then !win a.Kind 13 17 else false
theorem zPS {h:Host}(S:Safe h)(a:GAct):Safe (zdw h a)/\(zdw h a).Mons.length=h.Mons.length /\
 (∀i,zo (zdw h a) i=bif (cond (zhT a) (ieq i a.M) false) then zBO (zo h i) a else zo h i)/\(zhT a=true->zg1 h a=zBP (zo h a.M) a):=by
 unfold zdw zg1 zhT;cases win a.Kind 1 17 with
 | false=>exact ⟨S,rfl,fun _=>rfl,fun e=>by cases e⟩
 | true =>
  simp only [cond_true];cases win a.Kind 13 17 with
  | true =>
   obtain ⟨h1,h2,h3⟩:=zTg S a;exact ⟨h1,h3,fun i=>by simp only [cond_true,Bool.not_true,cond_false];exact h2 i,fun e=>by cases e⟩
  | false =>
   obtain ⟨k,e⟩:=zS1 S a;exact ⟨k.safe,k.len,fun i=>by simp only [cond_false,Bool.not_false,cond_true];exact k.seen i,fun _=>e⟩
end
end Go.Proofs.YtlilleghlfnipaaGreat.E
