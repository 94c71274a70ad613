/- What is proved here: a part of the proof of the claim. -/
import Derived.Test.YtapgkefgcbapcaaGreatV5
import Derived.Shelf.Bits.Mul64
import Derived.Ground.NamesProg
import Derived.Laws.CopyOwn
import Derived.Deep.RegionLaw
import Derived.WalkKit
import Derived.Tactics2
import Derived.Deep.RegionWith
import Derived.Laws.Rows
namespace Go.Proofs.YtapgkefgcbapcaaGreat.E
open Go
set_option linter.defProp false
set_option linter.constructorNameAsVariable false
set_option linter.unusedVariables false
set_option maxRecDepth 100000
set_option linter.unusedSimpArgs false
set_option linter.unusedSectionVars false
noncomputable section
def zbb0:zZ:=[(111,zhb),(113,zhb),(103,zgV),(110,zgV)]++zWh
def zvL:zS zbb0:=zh zo8 (zh zvU<|zh zp4<|zh zp5 ziS)
def zWS {a b:Bool}(h:(a=true)↔(b=true)):a=b:=by cases a<;>cases b<;>simp_all
@[simp] def zbfm (x:Int):zk x 0 3=j0 x 4:=zWS (by rw[zf1];unfold j0;rw[decide_eq_true_iff];omega)
@[simp] def z8L (x:Int):zk x 0 7=j0 x 8:=zWS (by rw[zf1];unfold j0;rw[decide_eq_true_iff];omega)
def zfl (t:List k0)(p:Int)(s:k0):List k0:=bif j0 p (ln t) then up t p s else t
@[simp] def zbfn (t:List k0)(p:Int)(s:k0):(zfl t p s).length=t.length:=by unfold zfl;cases j0 p (ln t)<;>simp
@[simp] abbrev zq8 (t:List k0)(p:Int)(s:k0):Bool:=pc (t.length<=1048576)
@[simp] abbrev znQ (t:List k0)(p:Int)(s:k0):List k0:=zfl t p s
def zAj:Run:=rF3 (dS .slot) dI (dT .slot) λb c d=>(zq8 b c d,[aS .slot<|znQ b c d])
def zEq (N:Nat)(a:lS)(b:Int)(c:k0):OA:=
 (oN (few<|ln<|ap [] a)<|oN (zO b 0<|wsub .i64 (ln a) 1)<|cond (zk b 0<|wsub .i64 (ln a) 1) (oN (inb b<|ln<|ap [] a)<|p0 (up (ap [] a) b c) λd=>some [aS .slot d])<|some [aS .slot<|ap [] a])
def zR4 (a:List k0)(b:Int)(c:k0)(d:zq8 a b c=true):∃N,zEq N a b c=some [aS .slot<|znQ a b c]:=by have e:=zM.1 d;refine⟨0,?_⟩;unfold zEq oN;refine mu (i0 rfl (br (λ_=>mu (shr ?_)) λ_=>?_));all_goals first|rfl|(simp only [*,znQ,zfl,cT,cF]<;>rfl)|simp_all[Ty.cells,znQ,zfl]
def zKF:vU 347 zAj:=kF3 zvL zA zu zl (zq []) zR4
def zi3 (p n:Int):Bool:=bif zd2 p then zk n 0 7 else false
def zuZ (p n:Int):Int:=bif zi3 p n then wor .i64 p (zne .i64 1 n) else p
def cv7 {n:Int}(h:j0 n 8=true):wcv .u64 n=n/\ile 0 n=true:=by have:=qD h;exact⟨zSR (by omega) (by omega),qH (by omega)⟩
@[simp] abbrev zl6 (p n:Int):Bool:=true
@[simp] abbrev ziz (p n:Int):Int:=zuZ p n
@[simp] abbrev zow (p n:Int):Bool:=zi3 p n
def zDd:Run:=rF2 dI dI λb c=>(zl6 b c,[aI<|ziz b c,aB<|zow b c])
def zIl (N:Nat)(a b:Int):OA:=
 (oN (zcl a)<|cond (nB<|zeR a) (some [aI a,aB false])<|oN (zO b 0 7)<|cond (nB<|zk b 0 7) (some [aI a,aB false])<|oN (ile 0<|wcv .u64 b)<|some [aI<|wor .i64 a<|zne .i64 1<|wcv .u64 b,aB true])
def zVs (b a:Int)(c:zl6 b a=true):∃N,zIl N b a=some [aI<|ziz b a,aB<|zow b a]:=by have d:=@cv7 a;refine⟨0,?_⟩;unfold zIl oN nB;refine i0 rfl (brN (λ_=>?_) λ_=>i0 rfl (brN (λ_=>?_) λ_=>mu ?_));all_goals first|rfl|(simp only [*,ziz,zow,zuZ,zi3,cT,cF]<;>rfl)|simp_all[Ty.cells,ziz,zow,zuZ,zi3]
def zNB:vU 350 zDd:=kF2 zvL zA zu zl (zq []) zVs
def posts (c:Ctl)(n:Int):Bool:=bif zno c then (cond (zk n 0 7) (ieq (wand .i64 (zlE .i64 c.Post n) 1) 1) false) else false
@[simp] abbrev zFX (c:Ctl)(n:Int):Bool:=true
@[simp] abbrev zAo (c:Ctl)(n:Int):Bool:=posts c n
def zI1:Run:=rF2 dC dI λb c=>(zFX b c,[aB<|zAo b c])
def zTa (N:Nat)(b:Ctl)(a:Int):OA:=
 (oN (zgX b)<|cond (zsa b) (oN (zO a 0 7)<|cond (zk a 0 7) (oN (ile 0<|wcv .u64 a)<|some [aB<|ieq (wand .i64 (zlE .i64 b.Post<|wcv .u64 a) 1) 1]) oF) oF)
def z1i (b:Ctl)(a:Int)(c:zFX b a=true):∃N,zTa N b a=some [aB<|zAo b a]:=by have d:=@cv7 a;refine⟨0,?_⟩;unfold zTa oN;refine i0 rfl (br (λ_=>i0 rfl (br (λ_=>mu ?_) λ_=>?_)) λ_=>?_);all_goals first|rfl|(simp only [*,zAo,posts,cT,cF]<;>rfl)|simp_all[Ty.cells,zAo,posts]
def zUN:vU 438 zI1:=kF2 zvL zA zu zl (zq []) z1i
def zcy (b:ai)(g:Int):Bool:=bif zb0 b then j0 g (ln b.ac) else false
def zet {b:ai}{g:Int}:(zcy b g=true)↔zb0 b=true/\j0 g (ln b.ac)=true:=by unfold zcy;cases zb0 b<;>simp
@[simp] abbrev zma (b:ai)(g:Int):Bool:=zcy b g
def zI3:Run:=rF2 (dT .bare) dI λb c=>(zc3 b c,[aB<|zma b c])
def zTe (N:Nat)(a:ai)(b:Int):OA:=
 (oN (zjK a)<|cond (zcX a) (oN (zO b 0<|wsub .i64 (ln a.ac) 1)<|some [aB<|zk b 0<|wsub .i64 (ln a.ac) 1]) oF)
def z1l (a:ai)(b:Int)(c:zc3 a b=true):∃N,zTe N a b=some [aB<|zma a b]:=by have d:=zM.1 c;have e:a.ac.length<=1048576:=d.2.1.1;refine⟨0,?_⟩;unfold zTe oN;refine i0 rfl (br (λ_=>i0 rfl ?_) λ_=>?_);all_goals first|rfl|(simp only [*,zma,zcy,cT,cF]<;>rfl)|simp_all[Ty.cells,zma,zcy]
def zUR:vU 345 zI3:=kF2 zvL zA zu zl (zq []) z1l
def zbb1:zZ:=[(347,zAj),(350,zDd),(438,zI1),(345,zI3)]++zbb0
def zmC:zS zbb1:=zh zKF (zh zNB<|zh zUN<|zh zUR zvL)
def zbaU {b:Type}{l:List b}{i:Int}{d:b}(h:j0 i (ln l)=true):up l i (ix l i d)=l:=by obtain⟨k,rfl,a⟩:=zez (n:=l.length) h;unfold up;rw[zbh a,kO];exact vF a
def zvP {b:ai}{g:Int}(h:j0 g (ln b.ac)=true):gAt b g=ix b.ac g zy:=by unfold gAt;rw[h];rfl
def z8q {b:ai}{g:Int}(h:j0 g (ln b.ac)=true):zeb b g (gAt b g)=b:=by unfold zeb;rw[zvP h,zbaU h]
def chg (b:ai)(g:Int)(c:Bool)(x:ah):ai:=bif (cond (zcy b g) c false) then zeb b g x else b
def zcA (b:ai)(g:Int)(c:Bool):Bool:=bif zcy b g then c else false
def zyS (p:Int)(s:k0):Bool:=bif j0 p 4 then zey s 8 else false
def zF1 (x:ah)(p:Int)(s:k0):ah:={x with ax:=zfl x.ax p s}
def zeE (x:ah)(p:Int):ah:={x with av:=zfl x.av p (zbK x.ax p)}
def zmM:aD:=⟨0,0,false,0⟩
def zym (x:ah)(v:Int):Bool:=bif zk v 0 99 then (cond (ieq x.Exit.Kind 2) true<|ieq x.Exit.Kind 3) else false
def zAO (x:ah)(v:Int):ah:=zcb (stopped (cond (ieq x.Exit.Kind 2) {x with A:=v} x) zmM)
def zFH (x:ah):Bool:=bif ieq x.Exit.Kind 1 then true else ieq x.Exit.Kind 4
def zBM (x:ah):ah:=bif ieq x.Exit.Kind 1 then stopped x zmM else held (stopped x zmM)
def zp8 (x:ah)(n:Int):ah:={x with an:=zuZ x.an n}
def zP6 (x:ah)(c:Ctl):ah:={x with Ctl:=c}
def zbdK {x:ah}{n:Int}(h:zi3 x.an n=false):zp8 x n=x:=by unfold zp8 zuZ;rw[h];rfl
def zbaI {x:ah}(p:Int)(s:k0)(h:SmG x):SmG (zF1 x p s):=⟨h.1,by simpa [zF1] using h.2.1,h.2.2.1,h.2.2.2⟩
def zPm {x:ah}(p:Int)(h:SmG x):SmG (zeE x p):=⟨h.1,h.2.1,by simpa [zeE] using h.2.2.1,h.2.2.2⟩
def zbaG {x:ah}(v:Int)(h:SmG x):SmG (zAO x v):=by unfold zAO;cases ieq x.Exit.Kind 2<;>exact znb h
def zbaH {x:ah}(h:SmG x):SmG (zBM x):=by unfold zBM;cases ieq x.Exit.Kind 1;{exact zZK (g:=stopped x zmM) h};{exact h}
def zsi {b:ai}{g:Int}{c:Bool}{x:ah}(h:SmB b)(a:SmG x):SmB (chg b g c x):=by unfold chg;cases (cond (zcy b g) c false);{exact h};{exact zpn h a}
@[simp] abbrev zsS (b:ai)(g p:Int)(s:k0):Bool:=pc (SmB b)
@[simp] abbrev zfn (b:ai)(g p:Int)(s:k0):ai:=chg b g (zyS p s) (zF1 (gAt b g) p s)
@[simp] abbrev zgh (b:ai)(g p:Int)(s:k0):Bool:=zcA b g (zyS p s)
def zuf:Run:=rF4 (dT .bare) dI dI (dT .slot) λb c d e=>(zsS b c d e,[aT .bare<|zfn b c d e,aB<|zgh b c d e])
def zH4 (N:Nat)(f:ai)(b c:Int)(d:k0):OA:=
 let a:=zbk f;let e:=ix a.ac b zy; (oN (zbV f)<|oN (zc3 a b)<|cond (nB<|zma a b) (some [aT .bare a,aB false])<|oN (zO c 0 3)<|cond (nB<|zk c 0 3) (some [aT .bare a,aB false])<|oN (znP d 8)<|cond (nB<|zj8 d 8) (some [aT .bare a,aB false])<|oN (inb b<|ln a.ac)<|oN (zq8 e.ax c d)<|oN (inb b<|ln a.ac)<|p0 (up a.ac b ({e with ax:=(znQ e.ax c d)}:ah)) λg=>some [aT .bare ({a with ac:=g}:ai),aB true])
def zVc (b:ai)(a c:Int)(d:k0)(e:zsS b a c d=true):∃N,zH4 N b a c d=some [aT .bare<|zfn b a c d,aB<|zgh b a c d]:=by
 have f:=zM.1 e;have g:=zjX a f;have k:zcy b a=true->j0 a (ln b.ac)=true:=λh=>(zet.1 h).2;have i:zcy b a=true->gAt b a=ix b.ac a zy:=λh=>zvP (zet.1 h).2;have j:=g.2.1;refine⟨0,?_⟩;unfold zH4 oN nB;conv=>zeta
 refine mu (mu<|brN (λ_=>?_) λ_=>i0 rfl (brN (λ_=>?_) λ_=>i0 rfl (brN (λ_=>?_) λ_=>mu (mu<|mu<|shr ?_))));all_goals first|rfl|(simp only [*,zfn,zgh,chg,zcA,zyS,zF1,zeb,cT,cF]<;>rfl)|simp_all[Ty.cells,zfn,zgh,chg,zcA,zyS,zF1,zeb]
def zxj:vU 157 zuf:=kF4 zmC zA zu zl (zq []) zVc
@[simp] abbrev zum (b:ai)(g p:Int):Bool:=pc (SmB b)
@[simp] abbrev zfV (b:ai)(g p:Int):ai:=chg b g (j0 p 4) (zeE (gAt b g) p)
@[simp] abbrev zjt (b:ai)(g p:Int):Bool:=zcA b g (j0 p 4)
def zqu:Run:=rF3 (dT .bare) dI dI λb c d=>(zum b c d,[aT .bare<|zfV b c d,aB<|zjt b c d])
def zCr (N:Nat)(f:ai)(d b:Int):OA:=
 let a:=zbk f;let e:=inb d<|ln a.ac;let c:=ix a.ac d zy; (oN (zbV f)<|oN (zc3 a d)<|cond (nB<|zma a d) (some [aT .bare a,aB false])<|oN (zO b 0 3)<|cond (nB<|zk b 0 3) (some [aT .bare a,aB false])<|oN e<|oN e<|oN (zgE c.ax b)<|oN (zq8 c.av b<|zfd c.ax b)<|oN e<|p0 (up a.ac d ({c with av:=(znQ c.av b<|zfd c.ax b)}:ah)) λg=>some [aT .bare ({a with ac:=g}:ai),aB true])
def zOr (b:ai)(a c:Int)(d:zum b a c=true):∃N,zCr N b a c=some [aT .bare<|zfV b a c,aB<|zjt b a c]:=by
 have e:=zM.1 d;have f:=zjX a e;have j:zcy b a=true->j0 a (ln b.ac)=true:=λh=>(zet.1 h).2;have g:zcy b a=true->gAt b a=ix b.ac a zy:=λh=>zvP (zet.1 h).2;have i:=f.2.2.1;refine⟨0,?_⟩;unfold zCr oN nB;conv=>zeta
 refine mu (mu<|brN (λ_=>?_) λ_=>i0 rfl (brN (λ_=>?_) λ_=>mu (mu (i0 rfl (mu<|mu<|shr ?_)))));all_goals first|rfl|(simp only [*,zfV,zjt,chg,zcA,zeE,zeb,cT,cF]<;>rfl)|simp_all[Ty.cells,zfV,zjt,chg,zcA,zeE,zeb]
def zuz:vU 158 zqu:=kF3 zmC zA zu zl (zq []) zOr
@[simp] abbrev znM (b:ai)(g v:Int):Bool:=pc (SmB b)
@[simp] abbrev zdU (b:ai)(g v:Int):ai:=chg b g (zym (gAt b g) v) (zAO (gAt b g) v)
@[simp] abbrev zeL (b:ai)(g v:Int):Bool:=zcA b g (zym (gAt b g) v)
def zpe:Run:=rF3 (dT .bare) dI dI λb c d=>(znM b c d,[aT .bare<|zdU b c d,aB<|zeL b c d])
def zy8 (N:Nat)(i:ai)(b e:Int):OA:=
 let a:=zbk i;let h:=inb b<|ln a.ac;let d:=(⟨0,0,false,0⟩:aD);let c:=ix a.ac b zy;let g:=({c with A:=e}:ah); (oN (zbV i)<|oN (zc3 a b)<|cond (nB<|zma a b) (some [aT .bare a,aB false])<|oN (zO e 0 99)<|cond (nB<|zk e 0 99) (some [aT .bare a,aB false])<|oN h<|cond (ieq c.Exit.Kind 2) (oN (zcC g d)<|oN (zQ<|zcw g d)<|oN h<|p0 (up a.ac b<|zck<|zcw g d) λf=>some [aT .bare ({a with ac:=f}:ai),aB true])<|cond (ieq c.Exit.Kind 3) (oN (zcC c d)<|oN (zQ<|zcw c d)<|oN h<|p0 (up a.ac b<|zck<|zcw c d) λf=>some [aT .bare ({a with ac:=f}:ai),aB true])<|some [aT .bare a,aB false])
def zKX (b:ai)(a c:Int)(d:znM b a c=true):∃N,zy8 N b a c=some [aT .bare<|zdU b a c,aB<|zeL b a c]:=by
 have e:=zM.1 d;have f:=zjX a e;have j:zcy b a=true->j0 a (ln b.ac)=true:=λh=>(zet.1 h).2;have g:zcy b a=true->gAt b a=ix b.ac a zy:=λh=>zvP (zet.1 h).2;have i:_/\_/\_/\_:=f;refine⟨0,?_⟩;unfold zy8 oN nB;conv=>zeta
 refine mu (mu<|brN (λ_=>?_) λ_=>i0 rfl (brN (λ_=>?_) λ_=>mu (br (λ_=>mu (mu<|mu<|shr ?_)) λ_=>br (λ_=>mu (mu<|mu<|shr ?_)) λ_=>?_)));all_goals first|rfl|(simp only [*,zdU,zeL,chg,zcA,zym,zAO,zmM,zeb,SmG,stopped,cT,cF]<;>rfl)|simp_all[Ty.cells,zdU,zeL,chg,zcA,zym,zAO,zmM,zeb,SmG,stopped]
def ztv:vU 159 zpe:=kF3 zmC zA zu zl (zq []) zKX
@[simp] abbrev zdW (b:ai)(g:Int):ai:=chg b g (zFH<|gAt b g) (zBM<|gAt b g)
@[simp] abbrev zeN (b:ai)(g:Int):Bool:=zcA b g (zFH<|gAt b g)
def zpg:Run:=rF2 (dT .bare) dI λb c=>(zc3 b c,[aT .bare<|zdW b c,aB<|zeN b c])
def zza (N:Nat)(g:ai)(c:Int):OA:=
 let a:=zbk g;let f:=inb c<|ln a.ac;let d:=(⟨0,0,false,0⟩:aD);let b:=ix a.ac c zy; (oN (zbV g)<|oN (zc3 a c)<|cond (nB<|zma a c) (some [aT .bare a,aB false])<|oN f<|cond (ieq b.Exit.Kind 1) (oN (zcC b d)<|oN f<|p0 (up a.ac c<|zcw b d) λe=>some [aT .bare ({a with ac:=e}:ai),aB true])<|cond (ieq b.Exit.Kind 4) (oN (zcC b d)<|oN (zQ<|zcw b d)<|oN f<|p0 (up a.ac c<|zlL<|zcw b d) λe=>some [aT .bare ({a with ac:=e}:ai),aB true])<|some [aT .bare a,aB false])
def zKZ (b:ai)(a:Int)(c:zc3 b a=true):∃N,zza N b a=some [aT .bare<|zdW b a,aB<|zeN b a]:=by
 have d:=zM.1 c;have e:=zjX a d;have i:zcy b a=true->j0 a (ln b.ac)=true:=λh=>(zet.1 h).2;have f:zcy b a=true->gAt b a=ix b.ac a zy:=λh=>zvP (zet.1 h).2;have g:_/\_/\_/\_:=e;refine⟨0,?_⟩;unfold zza oN nB;conv=>zeta
 refine mu (mu<|brN (λ_=>?_) λ_=>mu (br (λ_=>mu (mu<|shr ?_)) λ_=>br (λ_=>mu (mu<|mu<|shr ?_)) λ_=>?_));all_goals first|rfl|(simp only [*,zdW,zeN,chg,zcA,zFH,zBM,zmM,zeb,SmG,stopped,cT,cF]<;>rfl)|simp_all[Ty.cells,zdW,zeN,chg,zcA,zFH,zBM,zmM,zeb,SmG,stopped]
def ztx:vU 160 zpg:=kF2 zmC zA zu zl (zq []) zKZ
def zbet {b:ai}{g:Int}{c:Bool}{x:ah}(h:zcy b g=false):chg b g c x=b:=by unfold chg;rw[h];rfl
def zbc6 {b:ai}{g n:Int}(h:zcy b g=true):chg b g (zi3 (gAt b g).an n) (zp8 (gAt b g) n)=zeb b g (zp8 (gAt b g) n):=by unfold chg;rw[h];cases a:zi3 (gAt b g).an n;{rw [zbdK a,z8q (zet.1 h).2];rfl};{rfl}
@[simp] abbrev znN (b:ai)(g n:Int):Bool:=pc (SmB b)
@[simp] abbrev zdV (b:ai)(g n:Int):ai:=chg b g (zi3 (gAt b g).an n) (zp8 (gAt b g) n)
@[simp] abbrev zeM (b:ai)(g n:Int):Bool:=zcA b g (zi3 (gAt b g).an n)
def zpf:Run:=rF3 (dT .bare) dI dI λb c d=>(znN b c d,[aT .bare<|zdV b c d,aB<|zeM b c d])
def zy9 (N:Nat)(e:ai)(b d:Int):OA:=
 let a:=zbk e;let c:=ix a.ac b zy; (oN (zbV e)<|oN (zc3 a b)<|cond (nB<|zma a b) (some [aT .bare a,aB false])<|oN (inb b<|ln a.ac)<|oN (zl6 c.an d)<|oN (inb b<|ln a.ac)<|p0 (up a.ac b ({c with an:=(ziz c.an d)}:ah)) λf=>some [aT .bare ({a with ac:=f}:ai),aB<|zow c.an d])
def zKY (a:ai)(b c:Int)(d:znN a b c=true):∃N,zy9 N a b c=some [aT .bare<|zdV a b c,aB<|zeM a b c]:=by
 have i:=zM.1 d;have j:zcy a b=true->j0 b (ln a.ac)=true:=λh=>(zet.1 h).2;have f:zcy a b=true->gAt a b=ix a.ac b zy:=λh=>zvP (zet.1 h).2;have g:=@zbc6 a b c;have e:=@zbet a b (zi3 (gAt a b).an c) (zp8 (gAt a b) c);refine⟨0,?_⟩;unfold zy9 oN nB;conv=>zeta
 refine mu (mu<|brN (λ_=>?_) λ_=>mu (i0 rfl (mu<|shr ?_)));all_goals first|rfl|(simp only [*,zdV,zeM,zcA,zeb,zp8,cT,cF]<;>rfl)|simp_all[Ty.cells,zdV,zeM,zcA,zeb,zp8]
def ztw:vU 161 zpf:=kF3 zmC zA zu zl (zq []) zKY
@[simp] abbrev zsR (b:ai)(g:Int)(c:Ctl):Bool:=pc (SmB b)
@[simp] abbrev zfm (b:ai)(g:Int)(c:Ctl):ai:=chg b g (zno c) (zP6 (gAt b g) c)
@[simp] abbrev zgg (b:ai)(g:Int)(c:Ctl):Bool:=zcA b g (zno c)
def zue:Run:=rF3 (dT .bare) dI dC λb c d=>(zsR b c d,[aT .bare<|zfm b c d,aB<|zgg b c d])
def zH3 (N:Nat)(d:ai)(b:Int)(c:Ctl):OA:=
 let a:=zbk d; (oN (zbV d)<|oN (zc3 a b)<|cond (nB<|zma a b) (some [aT .bare a,aB false])<|oN (zgX c)<|cond (nB<|zsa c) (some [aT .bare a,aB false])<|oN (inb b<|ln a.ac)<|p0 (up a.ac b ({ (ix a.ac b zy) with Ctl:=c}:ah)) λe=>some [aT .bare ({a with ac:=e}:ai),aB true])
def zVb (a:ai)(b:Int)(c:Ctl)(d:zsR a b c=true):∃N,zH3 N a b c=some [aT .bare<|zfm a b c,aB<|zgg a b c]:=by
 have f:=zM.1 d;have g:zcy a b=true->j0 b (ln a.ac)=true:=λh=>(zet.1 h).2;have e:zcy a b=true->gAt a b=ix a.ac b zy:=λh=>zvP (zet.1 h).2;refine⟨0,?_⟩;unfold zH3 oN nB;conv=>zeta
 refine mu (mu<|brN (λ_=>?_) λ_=>i0 rfl (brN (λ_=>?_) λ_=>mu (shr ?_)));all_goals first|rfl|(simp only [*,zfm,zgg,chg,zcA,zP6,zeb,cT,cF]<;>rfl)|simp_all[Ty.cells,zfm,zgg,chg,zcA,zP6,zeb]
def zxi:vU 162 zue:=kF3 zmC zA zu zl (zq []) zVb
def zbcL (p c v:Int):Bool:=bif j0 p 8 then (cond (j0 c 4) (zk v 0 99) false) else false
def zzP (b:ai)(p c v:Int):Bool:=bif zb0 b then zbcL p c v else false
def zWn (b:ai)(p c v:Int):ai:=bif zzP b p c v then {b with ag:=zbS b.ag p c v} else b
def zo2 (b:ai):ai:=bif zb0 b then {b with an:=zjn b.an} else b
def zvD (b:ai):Int:=bif zb0 b then zp9 b.an else -1
def zoD (b:ai):Bool:=bif zb0 b then !ilt (zes b.an) 0 else false
def zpZ (b:ai)(g a n:Int):Bool:=bif zcy b g then (cond (zk a 0 15) (zfk (gAt b g).av (zbs a) n) false) else false
def zGn (b:ai)(g a n:Int):Int:=zct (gAt b g).av (zbs a) n
def zA7 (b:ai)(g a v:Int):Bool:=bif zpZ b g a 2 then zk v 0 99 else false
def z4b (b:ai)(g a v:Int):ai:=bif zA7 b g a v then {b with ag:=zbS b.ag (zGn b g a 2) (zdO a) v} else b
def zWr (b:ai)(g a:Int):Int:=bif zpZ b g a 1 then cellAt b.ag (zGn b g a 1) (zdO a) else 0
@[simp] abbrev zfP (b:ai):ai:=zo2 b
@[simp] abbrev zhn (b:ai):Int:=zvD b
@[simp] abbrev zho (b:ai):Bool:=zoD b
def zua:Run:=rF1 (dT .bare) λb=>(zbV b,[aT .bare<|zfP b,aI<|zhn b,aB<|zho b])
def zH2 (N:Nat)(b:ai):OA:=
 let a:=zbk b; (oN (zbV b)<|oN (zjK a)<|cond (nB<|zcX a) (some [aT .bare a,aI<|-1,aB false])<|oN (zcl a.an)<|some [aT .bare ({a with an:=(zgj a.an)}:ai),aI<|zgk a.an,aB<|ziB a.an])
def zVa (a:ai)(b:zbV a=true):∃N,zH2 N a=some [aT .bare<|zfP a,aI<|zhn a,aB<|zho a]:=by
 have c:=zM.1 b;refine⟨0,?_⟩;unfold zH2 oN nB;conv=>zeta
 refine mu (i0 rfl (brN (λ_=>?_) λ_=>i0 rfl ?_));all_goals first|rfl|(simp only [*,zfP,zhn,zho,zo2,zvD,zoD,zjn,zp9,cT,cF]<;>rfl)|simp_all[Ty.cells,zfP,zhn,zho,zo2,zvD,zoD,zjn,zp9]
def zxh:vU 165 zua:=kF1 zmC zA zu zl (zq []) zVa
def zbb2:zZ:=zbb1
def zXf:zS zbb2:=zmC
def zfb (l:List ah)(n:Int):LI:=idxs (λ(x:ah)=>posts x.Ctl n) l 0
def zXT {d:Type}(p:d->Bool):∀(l:List d) (i:Nat),∀k∈idxs p l i,(i:Int)<=k/\k<(i:Int)+l.length
 |[],_,k,a=>by cases a
 |x::l,i,k,a=>by have c:=zXT p l (i+1);simp only[qU];unfold idxs at a;cases b:p x;{rw [b]at a;have:=c k a;omega};{rw [b]at a;rcases qG.1 a with rfl|a;{omega};{have:=c k a;omega}}
@[simp] abbrev znO (b:ai)(n:Int):LI:=zfb b.ac n
def zAh:Run:=rF2 (dT .bare) dI λb c=>(zeW b c,[aS .int<|znO b c])
def zEj (N:Nat)(c:ai)(f:Int):OA:=
 (r0 (σ:=(Int×Int×Int×LI×lM×lG×LI×Unit)) N (λd a=>let c:=a.2.2.2.2;let b:=c.2.1;let e:=(ix b a.2.1 zy).Ctl; (cond (ilt a.2.1<|ln b) (oN (inb a.2.1<|ln b)<|oN (zFX e a.1)<|cond (zAo e a.1) (oN (few<|ln<|ap a.2.2.2.1 [a.2.1])<|d (a.1,zI .i64 a.2.1 1,a.2.2.1,ap a.2.2.2.1 [a.2.1],c.1,b,c.2.2.1,()))<|d (a.1,zI .i64 a.2.1 1,a.2.2.1,a.2.2.2.1,c.1,b,c.2.2.1,()))<|some [aS .int a.2.2.2.1])) (f,0,c.an,[],c.ag,c.ac,c.Outs,()))
def zSF:=zq [(352,0,{n:=28,tm:=[(1,ti),(2,.lp 0 0),(5,.sl 0 []),(6,ti)],lo:=[(0,[.sl 1 [],.sl 2 [],.sl 3 [],ti])],ro:=[(0,.int,true),(1,.sl .int,false),(2,.guest,false),(3,.int,false)]})]
def zRW (a:ai)(b:Int)(g:zeW a b=true):∃N,zEj N a b=some [aS .int<|znO a b]:=by
 have h:=zM.1 g;have e:=zcc h.2.1.1;refine zb2 λN d=>?_;unfold zEj oN;conv=>zeta
 refine(zbl a.ac (λi (t:LI)=>(b,(i:Int),a.an,t,a.ag,a.ac,a.Outs,())) _ (λi (x:ah) (t:LI) f=>bif posts x.Ctl b then (cond (few<|ln<|ap t [(i:Int)]) (f<|ap t [(i:Int)]) none) else f t) (λ(t:LI)=>some [.one<|.s .int t]) (λi c t rec=>?_) (λt rec=>?_) _ ([])<|d e.1).trans ?_;{simp only [zbo c,zX c,zbh c,zY c e.1,cT]};{simp only [zbj,cF]};exact zvR (λ(x:ah)=>posts x.Ctl b) _ a.ac 0 [] (by simpa using e.2)
def zKw:vU 352 zAh:=kF2 zXf zA zu zl zSF zRW
def zbb3:zZ:=[(352,zAh)]++zbb2
def zXg:zS zbb3:=zh zKw zXf
def zGD (n:Int)(l:List ah)(k:Int):List ah:=up l k (zp8 (ix l k zy) n)
def znz (n:Int)(a:LI)(l:List ah):List ah:=a.foldl (zGD n) l
def zFF (n:Int)(l:List ah)(k:Int):(zGD n l k).length=l.length:=zid _ _ _
def z5J {n:Int}{l:List ah}{k:Int}(a:j0 k (ln l)=true)(h:zmx l):zmx (zGD n l k):=zGH h (zPo h a _)
def zF5 {n:Int}:∀(a:LI) {l:List ah},(∀k∈a,j0 k (ln l)=true)->zmx l->zmx (znz n a l)/\(znz n a l).length=l.length
 |[],_,_,h=>⟨h,rfl⟩
 |k::a,l,b,h=>by have e:=z5J (n:=n) (b k (by simp)) h;obtain⟨c,d⟩:=zF5 (n:=n) a (l:=zGD n l k) (λj f=>by rw[ln,zFF];exact b j (by simp[f])) e;exact⟨c,d.trans<|zFF _ _ _⟩
def zXD {e:Type}(n:Int)(K:List ah->Option e):∀(a:LI) (i:Nat) (l:List ah),(∀k∈a,j0 k (ln l)=true)->
 goL (λ_ k (t:List ah) d=>bif inb k (ln t) then (cond (inb k<|ln t) (d<|up t k<|zp8 (ix t k zy) n) none) else none) K a i l=K (znz n a l)
 |[],_,_,_=>rfl
 |k::a,i,l,h=>by have c:inb k (ln l)=true:=h k (by simp);simp only[goL,c,cT];exact zXD n K a (i+1) (zGD n l k) (λj b=>by rw[ln,zFF];exact h j (by simp[b]))
def zGE (b:ai)(n:Int):ai:=bif ieq (ln<|zfb b.ac n) 0 then {b with an:=zuZ b.an n} else {b with ac:=znz n (zfb b.ac n) b.ac}
def zgK (b:ai)(n:Int):Bool:=bif zb0 b then j0 n 8 else false
def zmj (b:ai)(n:Int):ai:=bif zgK b n then zGE b n else b
def zOV {b:ai}{n:Int}:∀k∈zfb b.ac n,j0 k (ln b.ac)=true:=λk a=>by have:=zXT _ _ _ k a;exact qH (by simp only[ln];omega)
def z5b {b:ai}{n:Int}(h:ieq (ln<|zfb b.ac n) 0=true):znz n (zfb b.ac n) b.ac=b.ac:=by have a:((zfb b.ac n).length:Int)=0:=qD h;have:zfb b.ac n=[]:=u0.1 (by omega);rw[this];rfl
def z5a {b:ai}{n:Int}:(cond (ieq (ln<|zfb b.ac n) 0) (some [AV.agg<|Ty.cells .bare ⟨b.ag,znz n (zfb b.ac n) b.ac,b.Outs,zuZ b.an n⟩,AV.one<|.b true])<|some [AV.agg<|Ty.cells .bare ⟨b.ag,znz n (zfb b.ac n) b.ac,b.Outs,b.an⟩,AV.one<|.b true])=some [AV.agg<|Ty.cells .bare<|zGE b n,AV.one<|.b true]:=by unfold zGE;cases h:ieq (ln<|zfb b.ac n) 0;{rfl};{simp only [cT,z5b h]}
@[simp] abbrev zfQ (b:ai)(n:Int):ai:=zmj b n
@[simp] abbrev zhH (b:ai)(n:Int):Bool:=zgK b n
def zr6:Run:=rF2 (dT .bare) dI λb c=>(zeW b c,[aT .bare<|zfQ b c,aB<|zhH b c])
def zD9 (N:Nat)(i:ai)(e:Int):OA:=
 let b:=zbk i; (oN (zbV i)<|oN (zjK b)<|cond (nB<|zcX b) (some [aT .bare b,aB false])<|oN (zO e 0 7)<|cond (nB<|zk e 0 7) (some [aT .bare b,aB false])<|oN (zeW b e)<|r0 (σ:=(Int×Int×Int×Int×LI×lM×lG×LI×lM×lG×LI×Unit)) N (λj a=>let b:=a.2.2.2.2.2;let h:=b.2.2.1;let d:=a.2.2.2.2.1;let c:=b.2.1;let f:=ix d a.2.1 0;let g:=ix c f zy; (cond (ilt a.2.1<|ln d) (oN (inb a.2.1<|ln d)<|oN (inb a.2.1<|ln d)<|oN (inb f<|ln c)<|oN (zl6 g.an a.1)<|oN (inb f<|ln c)<|j (a.1,zI .i64 a.2.1 1,a.2.2.1,a.2.2.2.1,d,b.1,up c f ({g with an:=(ziz g.an a.1)}:ah),h,b.2.2.2.1,b.2.2.2.2.1,b.2.2.2.2.2.1,()))<|cond (ieq (ln d) 0) (oN (zl6 a.2.2.1 a.1)<|some [aT .bare (⟨b.1,c,h,ziz a.2.2.1 a.1⟩:ai),aB true])<|some [aT .bare (⟨b.1,c,h,a.2.2.1⟩:ai),aB true])) (e,0,b.an,0,znO b e,b.ag,b.ac,b.Outs,[],[],[],()))
def zSB:=zq [(164,0,{n:=62,tm:=[(1,ti),(2,.lp 0 0),(4,.lp 1 0),(6,.sl 0 []),(7,ti)],lo:=[(0,[.sl 1 [],.sl 2 [],.sl 3 [],ti]),(1,[.sl 4 [],.sl 5 [],.sl 6 [],ti])],ro:=[(0,.int,true),(1,.sl .int,true),(2,.guest,true),(3,.int,true),(4,.sl .int,true),(5,.guest,true),(6,.int,true)]})]
def zRM (a:ai)(c:Int)(l:zeW a c=true):∃N,zD9 N a c=some [aT .bare<|zfQ a c,aB<|zhH a c]:=by
 have h:=zM.1 l;have j:(zfb a.ac c).length<=big:=qT (zBu _ _ _) (zcc h.2.1.1).1;refine zb2 λN g=>?_;unfold zD9 zfQ zhH zmj zgK oN nB;conv=>zeta
 refine i0 (zbg h) (i0 rfl (brN (λe=>?_) λe=>i0 rfl (brN (λd=>?_) λd=>i0 (zbg h) ?_)));{simp only [show zb0 a=false from e,cF]};{simp only [show zb0 a=true from e,show j0 c 8=false from by first|exact d|exact(z8L c).symm.trans d,cT,cF]};simp only[show zb0 a=true from e,show j0 c 8=true from by first|exact d|exact(z8L c).symm.trans d,cT];refine(zbl (znO (zbk a) c) (λi (t:lG)=>(c,(i:Int),(zbk a).an,0,znO (zbk a) c,(zbk a).ag,t,(zbk a).Outs,[],[],[],())) _ (λ_ k (t:List ah) m=>bif inb k (ln t) then (cond (inb k<|ln t) (m<|up t k<|zp8 (ix t k zy) c) none) else none) (λ(t:lG)=>cond (ieq (ln<|znO (zbk a) c) 0) (cond (zl6 (zbk a).an c) (some [.agg<|Ty.cells .bare (⟨(zbk a).ag,t,(zbk a).Outs,ziz (zbk a).an c⟩:ai),.one<|.b true]) none)<|some [.agg<|Ty.cells .bare (⟨(zbk a).ag,t,(zbk a).Outs,(zbk a).an⟩:ai),.one<|.b true]) (λi f t rec=>?_) (λt rec=>?_) _ ((zbk a).ac)<|g j).trans ?_;{simp only [zbo f,zX f,zbh f,zY f j,cT];rfl};{simp only [zbj,cF];rfl};exact(zXD c _ _ 0 _ zOV).trans z5a
def zvT:vU 164 zr6:=kF2 zXg zA zu zl zSB zRM
end
end Go.Proofs.YtapgkefgcbapcaaGreat.E
namespace Go.Proofs
open Go Go.Shelf
end Go.Proofs
namespace Go.Proofs.YtapgkefgcbapcaaGreat.E
open Go
set_option linter.defProp false
set_option linter.constructorNameAsVariable false
set_option linter.unusedVariables false
set_option maxRecDepth 100000
set_option linter.unusedSimpArgs false
set_option linter.unusedSectionVars false
noncomputable section
section
open Go Go.RowKit Go.Proofs
section
variable {P:Program}
end
end
def z6h:zZ:=[(157,zuf),(158,zqu),(159,zpe),(160,zpg),(161,zpf),(162,zue),(165,zua),(164,zr6)]++zbb3
def zEH:zS z6h:=zh zxj (zh zuz<|zh ztv<|zh ztx<|zh ztw<|zh zxi<|zh zxh<|zh zvT zXg)
def z8F {n:Int}(h:(ieq n 4||ieq n 8)=true):n=4\/n=8:=by rcases kL _ _ ▸ h with h|h;{exact .inl (qD h)};{exact .inr (qD h)}
def z7D {n:Int}(h:(ieq n 8||ieq n 12)=true):n=8\/n=12:=by rcases kL _ _ ▸ h with h|h;{exact .inl (qD h)};{exact .inr (qD h)}
@[simp] abbrev zkV (n:Int):Bool:=ieq n 4||ieq n 8
@[simp] abbrev zim (n:Int):List k0:=List.replicate n.toNat ⟨-1,0⟩
def zr8:Run:=rF1 dI λb=>(zkV b,[aS .slot<|zim b])
def zWE (N:Nat)(b:Int):OA:=
 (oN (zis b 0 24)<|r0 (σ:=(Int×lS×Unit)) N (λc a=>cond (igt a.1 0) (oN zbR<|oN (few<|ln<|ap a.2.1 [zbm])<|c (wsub .i64 a.1 1,ap a.2.1 [zbm],()))<|some [aS .slot a.2.1]) (zgS b 0 24,[],()))
def zSH:=zq [(196,0,{n:=17,tm:=[(3,.sl 0 []),(4,ti)],lo:=[],ro:=[(0,.slot,true)]})]
def zR1 (a:Int)(b:zkV a=true):∃N,zWE N a=some [aS .slot<|zim a]:=by refine⟨30,?_⟩;have h:a=4\/a=8:=z8F b;rcases h with rfl|rfl<;>(change _=_;kernel_rfl)
def zvX:vU 196 zr8:=kF1 zEH zA zu zl zSH zR1
@[simp] abbrev zq2 (n:Int):Bool:=ieq n 8||ieq n 12
@[simp] abbrev zlt (n:Int):List LI:=List.replicate n.toNat [0,0,0,0]
def zwp:Run:=rF1 dI λb=>(zq2 b,[aS (.sl .int)<|zlt b])
def z3w (N:Nat)(b:Int):OA:=
 (oN (zis b 0 24)<|r0 (σ:=(Int×lM×Unit)) N (λc a=>cond (igt a.1 0) (oN (cond (few 4) (ieq 4 4) false)<|oN (few<|ln<|ap a.2.1 [rp 4 0])<|c (wsub .i64 a.1 1,ap a.2.1 [rp 4 0],()))<|some [aS (.sl .int) a.2.1]) (zgS b 0 24,[],()))
def z0e:=zq [(184,0,{n:=17,tm:=[(3,.sl 0 []),(4,ti)],lo:=[],ro:=[(0,.sl .int,true)]})]
def zYp (a:Int)(b:zq2 a=true):∃N,z3w N a=some [aS (.sl .int)<|zlt a]:=by refine⟨30,?_⟩;have h:a=8\/a=12:=z7D b;rcases h with rfl|rfl<;>(change _=_;kernel_rfl)
def zzv:vU 184 zwp:=kF1 zEH zA zu zl z0e zYp
def z6i:zZ:=[(196,zr8),(184,zwp)]++z6h
def zTr:zS z6i:=zh zvX (zh zzv zEH)
def zna:List k0:=List.replicate 4 ⟨-1,0⟩
def zfZ (p:List Ins):ah:=⟨p,0,0,zna,zna,⟨0,0,false⟩,0,⟨0,0,false,0⟩,false,[]⟩
@[simp] abbrev zkT (p:List Ins):Bool:=pc (p.length<=1048576)
@[simp] abbrev zcJ (p:List Ins):ah:=zfZ p
def znH:Run:=rF1 (dS .ins) λb=>(zkT b,[aT .guest<|zcJ b])
def zEd (N:Nat)(a:lI):OA:=
 (oN (few<|ln<|ap [] a)<|oN (zkV 4)<|oN (zkV 4)<|some [aT .guest (⟨ap [] a,0,0,zim 4,zim 4,⟨0,0,false⟩,0,⟨0,0,false,0⟩,false,[]⟩:ah)])
def zRQ (a:List Ins)(b:zkT a=true):∃N,zEd N a=some [aT .guest<|zcJ a]:=by have c:=zM.1 b;refine⟨0,?_⟩;unfold zEd oN;refine mu (i0 rfl (i0 rfl ?_));first|rfl|(simp only [*,zcJ,zfZ,zna,cT,cF]<;>rfl)|simp_all[Ty.cells,zcJ,zfZ,zna]
def zo9:vU 197 znH:=kF1 zTr zA zu zl (zq []) zRQ
def zbeE:zZ:=[(197,znH)]++z6i
def zEI:zS zbeE:=zh zo9 zTr
def zSb:List LI:=List.replicate 8 [0,0,0,0]
def SmPs (a:List (List Ins)):Prop:=a.length<=1048576/\∀p∈a,p.length<=1048576
def zTR {d c j:Type}(m:Nat)(f:d->c)(K:List c->Option j):∀(l:List d) (i:Nat) (a:List c),a.length+l.length<=2147483648->
 goL (λ(i:Nat) x a k=>bif ilt (i:Int) (m:Int) then (cond (few<|ln<|ap a [f x]) (k<|ap a [f x]) none) else K a) K l i a=K (a++(l.take<|m-i).map f)
 |[],i,a,_=>by simp[goL]
 |x::l,i,a,g=>by simp only[qU]at g;have e:few (ln<|ap a [f x])=true:=zgv (by simp[ap];omega);by_cases h:i<m;{have b:ilt (i:Int) (m:Int)=true:=qH (by omega);simp only[goL,b,e,cT];rw[zTR m f K l (i+1) (ap a [f x]) (by simp[ap];omega)];rw[show m-i=m-(i+1)+1 by omega];simp[ap]};{have b:ilt (i:Int) (m:Int)=false:=qI (by omega);simp only[goL,b,cF];rw[show m-i=0 by omega];simp}
@[simp] abbrev zpB (a:GAct):Bool:=true
@[simp] abbrev zAm (a:GAct):Bool:=zk a.Kind 1 17
def zIY:Run:=rF1 (dT .act) λb=>(zpB b,[aB<|zAm b])
def zS0 (N:Nat)(a:GAct):OA:=
 (oN (zO a.Kind 1 17)<|some [aB<|zk a.Kind 1 17])
def z1a (a:GAct)(b:zpB a=true):∃N,zS0 N a=some [aB<|zAm a]:=by refine⟨0,?_⟩;unfold zS0 oN;refine i0 rfl ?_;first|rfl|(simp only [*,zAm,cT,cF]<;>rfl)|simp_all[Ty.cells,zAm]
def zUE:vU 42 zIY:=kF1 zEI zA zu zl (zq []) z1a
@[simp] abbrev zyK (k:Int):Bool:=true
@[simp] abbrev ztI (k:Int):Bool:=zk k 13 17
def zDa:Run:=rF1 dI λb=>(zyK b,[aB<|ztI b])
def zIg (N:Nat)(a:Int):OA:=
 (oN (zO a 13 17)<|some [aB<|zk a 13 17])
def zVo (a:Int)(b:zyK a=true):∃N,zIg N a=some [aB<|ztI a]:=by refine⟨0,?_⟩;unfold zIg oN;refine i0 rfl ?_;first|rfl|(simp only [*,ztI,cT,cF]<;>rfl)|simp_all[Ty.cells,ztI]
def zNw:vU 40 zDa:=kF1 zEI zA zu zl (zq []) zVo
@[simp] abbrev zr9 (a:GAct):Ctl:=⟨a.X,a.Y,ieq a.Z 1⟩
def zIZ:Run:=rF1 (dT .act) λb=>(zpB b,[.agg<|zn6<|zr9 b])
def zS1 (N:Nat)(a:GAct):OA:=
 (some [.agg [.i .i64 a.X,.i .i64 a.Y,.b<|ieq a.Z 1]])
def z1b (a:GAct)(b:zpB a=true):∃N,zS1 N a=some [.agg<|zn6<|zr9 a]:=by refine⟨0,?_⟩;unfold zS1;first|rfl|(simp only [*,zr9,cT,cF]<;>rfl)|simp_all[Ty.cells,zr9]
def zUF:vU 38 zIZ:=kF1 zEI zA zu zl (zq []) z1b
def zW9:zZ:=[(157,zuf),(158,zqu),(159,zpe),(160,zpg),(161,zpf),(162,zue),(165,zua),(164,zr6),(184,zwp)]++z3W
def zEJ:zS zW9:=zh zxj (zh zuz<|zh ztv<|zh ztx<|zh ztw<|zh zxi<|zh zxh<|zh zvT<|zh zzv zA2)
def zds (x:Mon):ai:=⟨zSb,x.ac,x.Outs,x.an⟩
def zwZ (x:Mon)(b:ai):Mon:={x with ac:=b.ac,an:=b.an}
def zdF (h:ad)(m:Int)(b:ai):ad:={h with aa:=up h.aa m (zwZ (ix h.aa m mZ) b)}
@[simp] abbrev zfS (x:Mon):Bool:=pc (zgs x)
@[simp] abbrev zbY (x:Mon):ai:=zds x
def zDi:Run:=rF1 (dT .mon) λb=>(zfS b,[aT .bare<|zbY b])
def zIw (N:Nat)(a:Mon):OA:=
 (oN (zq2 8)<|oN (zg0 a.ac)<|oN (few<|ln<|ap [] a.Outs)<|some [aT .bare (⟨zlt 8,zhz a.ac,ap [] a.Outs,a.an⟩:ai)])
def zVI (a:Mon)(c:zfS a=true):∃N,zIw N a=some [aT .bare<|zbY a]:=by have b:=zM.1 c;refine⟨0,?_⟩;unfold zIw oN;exact i0 rfl (i0 (zbg<|(zw6 _).2 b.2.2.2.1) (i0 (zps b.2.2.2.2.1) rfl))
def zN0:vU 332 zDi:=kF1 zEJ zA zb9 zfL (zq []) zVI
@[simp] abbrev zfR (h:ad)(m:Int)(b:ai):Bool:=pc (j0 m (ln h.aa)=true/\zmx b.ac)
@[simp] abbrev ziG (h:ad)(m:Int)(b:ai):ad:=zdF h m b
def zbfl {l:List Mon}{m:Int}(a:j0 m (ln l)=true)(b:ai):inb m (ln<|up l m {ix l m mZ with ac:=b.ac})=true/\
 up (up l m {ix l m mZ with ac:=b.ac}) m {ix (up l m {ix l m mZ with ac:=b.ac}) m mZ with an:=b.an}=up l m (zwZ (ix l m mZ) b):=by
 obtain⟨k,rfl,c⟩:=zez (n:=l.length) a;refine⟨zF (by rw[ln,zid];exact a),?_⟩
 rw[zx8,zev c];rfl
def zul:LW
 |[.agg [.s (.sl .int) b,.s .mon c,.s .entry d,.s .entry e],.one<|.i .i64 f,.agg [.s (.sl .int) g,.s .guest h,.s .int j,.i .i64 k]]=>some (zfR (⟨b,c,d,e⟩:ad) f (⟨g,h,j,k⟩:ai),[aH<|ziG (⟨b,c,d,e⟩:ad) f (⟨g,h,j,k⟩:ai)])
 |_=>none
def zyk (N:Nat)(b:ad)(a:Int)(c:ai):OA:=
 (oN (zg0 c.ac)<|oN (inb a<|ln b.aa)<|p0 (up b.aa a ({ (ix b.aa a zi) with ac:=(zhz c.ac)}:Mon)) λd=>oN (inb a<|ln d)<|p0 (up d a ({ (ix d a zi) with an:=c.an}:Mon)) λe=>some [aH ({b with aa:=e}:ad)])
def zYS (N:Nat)(a:ad)(b:Int)(c:ai):z4d (cQ zW9 zqg z4Z tctN) (zq []) N 12 333 [true,true,true,true,false,false,false,false,false] [aH a,aI b,aT .bare c]=zyk N a b c:=by kernel_rfl
def zVH (b:ad)(c:Int)(a:ai)(i:zbE big [aH b,aI c,aT .bare a])(h:zfR b c a=true):∃N,zyk N b c a=some [aH<|ziG b c a]:=by obtain⟨d,hg⟩:=zM.1 h;obtain⟨f,g⟩:=zbfl d a;refine⟨0,?_⟩;unfold zyk oN;refine i0 (zbg<|(zw6 _).2 hg) (i0 (zF d)<|shr<|i0 f<|shr ?_);have e:zhz a.ac=a.ac:=rfl;rw[e];show some [AV.agg<|zbt {b with aa:=_}]=some [AV.agg<|zbt {b with aa:=_}];rw[show zi=mZ from rfl,g]
def zNZ:ze3 Tryz.prog 333 [true,true,true,true,false,false,false,false,false] none zul:=by refine zQm (zhP zEJ zA zb9 zfL) (zkp (by kernel_rfl)) (by kernel_rfl) ?_;intro a g f e h;have c:=zkv e;unfold zul at h;split at h;{obtain⟨d,rfl⟩:=zeP h;obtain⟨N,b⟩:=zVH _ _ _ (by exact c) d;exact⟨_,N,12,(zYS N _ _ _ ).trans b⟩};{cases h}
def z6n:zZ:=[(332,zDi)]++zW9
def zk4:zS z6n:=zh zN0 zEJ
def zbfT:zgd:=[(333,[true,true,true,true,false,false,false,false,false],none,zul)]++tctN
def zdQ:zeS zbfT:=zsk zfL (by
 intro x a;simp only[qG,qM,or_false]at a;rcases a with rfl
 .exact zNZ)
def zbcS (h:ad)(m:Int)(a:Bool)(B:ai)(b c:ad->Ans):OA:=
 bif zbn h then (cond (zgI h m) (cond (cond (zgH h m) false true) (some<|b h)<|cond (inb m<|ln h.aa) (cond (zfS<|ix h.aa m mZ) (cond a (cond (zfR h m B) (some<|c<|zdF h m B) none) none) none) none) none) else none
def zc1 {h:ad}{m:Int}:(zdf h m=true)↔zcr h=true/\j0 m (ln h.aa)=true:=by unfold zdf;cases zcr h<;>simp
def zpq {h:ad}{m:Int}{cB:Bool}{B:ai}{o0 o1:ad->Ans}(c:SmH h)(e:zdf h m=true->cB=true)(d:zdf h m=true->SmB B):zbcS h m cB B o0 o1=some (cond (zdf h m) (o1<|zdF h m B)<|o0 h):=by unfold zbcS;refine i0 (zbg<|(zT h).2 c) (i0 rfl ?_);rw[show zgH h m=zdf h m from rfl];cases a:zdf h m;{rfl};{have b:=(zc1.1 a).2;exact zcB rfl (i0 (zF b)<|i0 (zbg<|c.2.1.2 _<|zbN b _)<|i0 (e a) (i0 (zbg ⟨b,(d a).2.1⟩) rfl))}
structure SameB (b c:ai):Prop where
 g:b.ac=c.ac
 p:b.an=c.an
 o:zb0 b=zb0 c
def SameB.at {b c:ai}(h:SameB b c)(g:Int):gAt b g=gAt c g:=by unfold gAt;rw[h.g]
def SameB.has {b c:ai}(h:SameB b c)(g:Int):zcy b g=zcy c g:=by unfold zcy;rw[h.g,h.o]
def back_eq {h:ad}{m:Int}{b c:ai}(hg:b.ac=c.ac)(a:b.an=c.an):zdF h m b=zdF h m c:=by unfold zdF zwZ;rw[hg,a]
def zrM {b c:ai}(a:SameB b c)(h:ad)(m g:Int)(k:Bool)(x:ah):zdF h m (chg b g k x)=zdF h m (chg c g k x):=by unfold chg;rw[a.has];cases (cond (zcy c g) k false);{exact back_eq a.g a.p};{exact back_eq (by simp only[cT,zeb,a.g]) a.p}
def znn {b c:ai}(a:SameB b c)(g:Int)(k:Bool):zcA b g k=zcA c g k:=by unfold zcA;rw[a.has]
def zk8 {h:ad}{m:Int}(b:zdf h m=true)(d:zb0 (zds<|ix h.aa m mZ)=true):SameB (zds<|ix h.aa m mZ) (zD h m):=by obtain⟨c,a⟩:=zc1.1 b;refine⟨?_,?_,d.trans (zyn c a).symm⟩<;>unfold zD zds<;>rw [a]<;>rfl
def zbdO:zjG zSb 8=true:=by decide
def zpI {h:ad}{m:Int}(b:zdf h m=true):zb0 (zds<|ix h.aa m mZ)=true:=by obtain⟨c,a⟩:=zc1.1 b;have:=zyn c a;unfold zD at this;rw[a,cT] at this;unfold zb0 at this ⊢;simp only[zds,zbdO] at *;simp_all
def zf0 {x:Mon}(h:zgs x):SmB (zds x):=⟨show SmM zSb from ⟨by decide,by decide⟩,h.2.2.2.1,h.2.2.2.2.1⟩
def zjg (h:ad)(m:Int)(b:ai):ad:=bif zdf h m then zdF h m b else h
def zhS (h:ad)(m:Int)(ok:Bool):Bool:=bif zdf h m then ok else false
@[simp] abbrev zol (h:ad)(m:Int)(g p:Int)(s:k0):ad:=zjg h m (zfn (zD h m) g p s)
@[simp] abbrev zom (h:ad)(m:Int)(g p:Int)(s:k0):Bool:=zhS h m (zgh (zD h m) g p s)
@[simp] abbrev zkI (h:ad)(m:Int)(g v:Int):ad:=zjg h m (zdU (zD h m) g v)
@[simp] abbrev zkJ (h:ad)(m:Int)(g v:Int):Bool:=zhS h m (zeL (zD h m) g v)
@[simp] abbrev zkM (h:ad)(m:Int)(g:Int):ad:=zjg h m (zdW (zD h m) g)
@[simp] abbrev zkN (h:ad)(m:Int)(g:Int):Bool:=zhS h m (zeN (zD h m) g)
@[simp] abbrev zkK (h:ad)(m:Int)(g n:Int):ad:=zjg h m (zdV (zD h m) g n)
@[simp] abbrev zkL (h:ad)(m:Int)(g n:Int):Bool:=zhS h m (zeM (zD h m) g n)
@[simp] abbrev zoj (h:ad)(m:Int)(g:Int)(x:Ctl):ad:=zjg h m (zfm (zD h m) g x)
@[simp] abbrev zok (h:ad)(m:Int)(g:Int)(x:Ctl):Bool:=zhS h m (zgg (zD h m) g x)
@[simp] abbrev zmJ (h:ad)(m:Int)(n:Int):ad:=zjg h m (zfQ (zD h m) n)
@[simp] abbrev zmK (h:ad)(m:Int)(n:Int):Bool:=zhS h m (zhH (zD h m) n)
@[simp] abbrev zog (h:ad)(m:Int):ad:=zjg h m (zfP<|zD h m)
@[simp] abbrev zoh (h:ad)(m:Int):Int:=bif zdf h m then zhn (zD h m) else -1
@[simp] abbrev zoi (h:ad)(m:Int):Bool:=zhS h m (zho<|zD h m)
@[simp] abbrev zlI (h:ad)(m g p:Int):Bool:=zhS h m (zcA (zD h m) g<|j0 p 4)
def z7Z {b c:ai}(a:SameB b c)(n:Int):(zmj b n).ac=(zmj c n).ac/\(zmj b n).an=(zmj c n).an/\zgK b n=zgK c n:=by have e:zgK b n=zgK c n:=(by unfold zgK;rw[a.o]);unfold zmj;rw[e];cases zgK c n;{exact⟨a.g,a.p,rfl⟩};{unfold zGE;rw[a.g];cases ieq (ln<|zfb c.ac n) 0;{exact⟨by simp only[cT,cF],by simp only[cT,cF,a.p],rfl⟩};{exact⟨by simp only[cT,a.g],by simp only[cT,a.p],rfl⟩}}
def z8O {b c:ai}(a:SameB b c):(zo2 b).ac=(zo2 c).ac/\(zo2 b).an=(zo2 c).an/\zvD b=zvD c/\zoD b=zoD c:=by unfold zo2 zvD zoD;rw[a.o,a.p];cases zb0 c;{exact⟨a.g,a.p,rfl,rfl⟩};{exact⟨a.g,rfl,rfl,rfl⟩}
def z8w {b:ai}{n:Int}(h:SmB b):SmB (zmj b n):=by unfold zmj;cases zgK b n;{exact h};{unfold zGE;cases ieq (ln<|zfb b.ac n) 0;{exact⟨h.1,(zF5 _ zOV h.2.1).1,h.2.2⟩};{exact h}}
def zbaE {b:ai}(h:SmB b):SmB (zo2 b):=by unfold zo2;cases zb0 b;{exact h};{exact h}
def zvj {H a:ad}{x y:Bool}(c:H=a)(d:x=y):some [AV.agg<|zbt H,AV.one<|.b x]=some [AV.agg<|zbt a,AV.one<|.b y]:=by rw[c,d]
def zbc9 {H a:ad}{n k:Int}{x y:Bool}(c:H=a)(d:n=k)(e:x=y):some [AV.agg<|zbt H,AV.one<|.i .i64 n,AV.one<|.b x]=some [AV.agg<|zbt a,AV.one<|.i .i64 k,AV.one<|.b y]:=by rw[c,d,e]
def z3b {b:ai}(g p:Int)(s:k0)(a:SmB b):SmB (zfn b g p s):=zsi a (zbaI _ _<|zjX _ a)
def zbaA {b c:ai}(a:SameB b c)(h:ad)(m:Int)(g p:Int)(s:k0):zdF h m (zfn b g p s)=zdF h m (zfn c g p s)/\zgh b g p s=zgh c g p s:=by have e:=a.at g;simp only[zfn,zgh,e];exact⟨zrM a _ _ _ _ _,znn a _ _⟩
@[simp] abbrev zyJ (h:ad)(m:Int)(g p:Int)(s:k0):Bool:=pc (zdx h)
def zC9:Run:=rF5 dH dI dI dI (dT .slot) λb c d e f=>(zyJ b c d e f,[aH<|zol b c d e f,aB<|zom b c d e f])
def zIf (N:Nat)(g:ad)(b d e:Int)(f:k0):OA:=
 let a:=zn g;let c:=ix a.aa b zi; (oN (zbn g)<|oN (zgI a b)<|cond (nB<|zgH a b) (some [aH a,aB false])<|oN (inb b<|ln a.aa)<|oN (zfS c)<|oN (zsS (zbY c) d e f)<|oN (zfR a b<|zfn (zbY c) d e f)<|some [aH<|ziG a b<|zfn (zbY c) d e f,aB<|zgh (zbY c) d e f])
def zVn (a:ad)(c d e:Int)(f:k0)(n:zyJ a c d e f=true):∃N,zIf N a c d e f=some [aH<|zol a c d e f,aB<|zom a c d e f]:=by
 have i:=(zT a).1 (zM.1 n);refine⟨0,?_⟩;have j:=zpq (h:=a) (m:=c) (cB:=zsS (zds<|ix a.aa c mZ) d e f) (B:=zfn (zds<|ix a.aa c mZ) d e f) (o0:=λH=>[.agg<|zbt H,.one<|.b false]) (o1:=λH=>[.agg<|zbt H,.one<|.b<|zgh (zds<|ix a.aa c mZ) d e f]) i
  (λg=>zbg (zf0<|i.2.1.2 _<|zbN (zc1.1 g).2 _)) (λg=>z3b _ _ _ (zf0<|i.2.1.2 _<|zbN (zc1.1 g).2 _))
 refine(show zIf 0 a c d e f=_ from j).trans ?_;unfold zol zom zjg zhS;cases g:zdf a c;{rfl};{obtain⟨k,l⟩:=zbaA (zk8 g<|zpI g) a c d e f;simp only[cT];exact zvj k l}
def zNv:vU 141 zC9:=kF5 zk4 zA zb9 zdQ (zq []) zVn
def zPh {b:ai}(g v:Int)(a:SmB b):SmB (zdU b g v):=zsi a (zbaG _<|zjX _ a)
def z1Q {b c:ai}(a:SameB b c)(h:ad)(m:Int)(g v:Int):zdF h m (zdU b g v)=zdF h m (zdU c g v)/\zeL b g v=zeL c g v:=by have e:=a.at g;simp only[zdU,zeL,e];exact⟨zrM a _ _ _ _ _,znn a _ _⟩
@[simp] abbrev zsb (h:ad)(m:Int)(g v:Int):Bool:=pc (zdx h)
def zwm:Run:=rF4 dH dI dI dI λb c d e=>(zsb b c d e,[aH<|zkI b c d e,aB<|zkJ b c d e])
def zzd (N:Nat)(f:ad)(b d e:Int):OA:=
 let a:=zn f;let c:=ix a.aa b zi; (oN (zbn f)<|oN (zgI a b)<|cond (nB<|zgH a b) (some [aH a,aB false])<|oN (inb b<|ln a.aa)<|oN (zfS c)<|oN (znM (zbY c) d e)<|oN (zfR a b<|zdU (zbY c) d e)<|some [aH<|ziG a b<|zdU (zbY c) d e,aB<|zeL (zbY c) d e])
def zK3 (a:ad)(c d e:Int)(l:zsb a c d e=true):∃N,zzd N a c d e=some [aH<|zkI a c d e,aB<|zkJ a c d e]:=by
 have g:=(zT a).1 (zM.1 l);refine⟨0,?_⟩;have i:=zpq (h:=a) (m:=c) (cB:=znM (zds<|ix a.aa c mZ) d e) (B:=zdU (zds<|ix a.aa c mZ) d e) (o0:=λH=>[.agg<|zbt H,.one<|.b false]) (o1:=λH=>[.agg<|zbt H,.one<|.b<|zeL (zds<|ix a.aa c mZ) d e]) g
  (λf=>zbg (zf0<|g.2.1.2 _<|zbN (zc1.1 f).2 _)) (λf=>zPh _ _ (zf0<|g.2.1.2 _<|zbN (zc1.1 f).2 _))
 refine(show zzd 0 a c d e=_ from i).trans ?_;unfold zkI zkJ zjg zhS;cases f:zdf a c;{rfl};{obtain⟨j,k⟩:=z1Q (zk8 f<|zpI f) a c d e;simp only[cT];exact zvj j k}
def zE9:vU 143 zwm:=kF4 zk4 zA zb9 zdQ (zq []) zK3
def zPj {b:ai}(g:Int)(a:SmB b):SmB (zdW b g):=zsi a (zbaH<|zjX _ a)
def z1S {b c:ai}(a:SameB b c)(h:ad)(m:Int)(g:Int):zdF h m (zdW b g)=zdF h m (zdW c g)/\zeN b g=zeN c g:=by have e:=a.at g;simp only[zdW,zeN,e];exact⟨zrM a _ _ _ _ _,znn a _ _⟩
@[simp] abbrev zsd (h:ad)(m:Int)(g:Int):Bool:=pc (zdx h)
def zwo:Run:=rF3 dH dI dI λb c d=>(zsd b c d,[aH<|zkM b c d,aB<|zkN b c d])
def zzf (N:Nat)(e:ad)(b d:Int):OA:=
 let a:=zn e;let c:=ix a.aa b zi; (oN (zbn e)<|oN (zgI a b)<|cond (nB<|zgH a b) (some [aH a,aB false])<|oN (inb b<|ln a.aa)<|oN (zfS c)<|oN (zc3 (zbY c) d)<|oN (zfR a b<|zdW (zbY c) d)<|some [aH<|ziG a b<|zdW (zbY c) d,aB<|zeN (zbY c) d])
def zK5 (a:ad)(c d:Int)(k:zsd a c d=true):∃N,zzf N a c d=some [aH<|zkM a c d,aB<|zkN a c d]:=by
 have f:=(zT a).1 (zM.1 k);refine⟨0,?_⟩;have g:=zpq (h:=a) (m:=c) (cB:=zc3 (zds<|ix a.aa c mZ) d) (B:=zdW (zds<|ix a.aa c mZ) d) (o0:=λH=>[.agg<|zbt H,.one<|.b false]) (o1:=λH=>[.agg<|zbt H,.one<|.b<|zeN (zds<|ix a.aa c mZ) d]) f
  (λe=>zbg (zf0<|f.2.1.2 _<|zbN (zc1.1 e).2 _)) (λe=>zPj _ (zf0<|f.2.1.2 _<|zbN (zc1.1 e).2 _))
 refine(show zzf 0 a c d=_ from g).trans ?_;unfold zkM zkN zjg zhS;cases e:zdf a c;{rfl};{obtain⟨i,j⟩:=z1S (zk8 e<|zpI e) a c d;simp only[cT];exact zvj i j}
def zFb:vU 144 zwo:=kF3 zk4 zA zb9 zdQ (zq []) zK5
def zPi {b:ai}(g n:Int)(a:SmB b):SmB (zdV b g n):=zsi a (zjX (b:=b) _ a)
def z1R {b c:ai}(a:SameB b c)(h:ad)(m:Int)(g n:Int):zdF h m (zdV b g n)=zdF h m (zdV c g n)/\zeM b g n=zeM c g n:=by have e:=a.at g;simp only[zdV,zeM,e];exact⟨zrM a _ _ _ _ _,znn a _ _⟩
@[simp] abbrev zsc (h:ad)(m:Int)(g n:Int):Bool:=pc (zdx h)
def zwn:Run:=rF4 dH dI dI dI λb c d e=>(zsc b c d e,[aH<|zkK b c d e,aB<|zkL b c d e])
def zze (N:Nat)(f:ad)(b d e:Int):OA:=
 let a:=zn f;let c:=ix a.aa b zi; (oN (zbn f)<|oN (zgI a b)<|cond (nB<|zgH a b) (some [aH a,aB false])<|oN (inb b<|ln a.aa)<|oN (zfS c)<|oN (znN (zbY c) d e)<|oN (zfR a b<|zdV (zbY c) d e)<|some [aH<|ziG a b<|zdV (zbY c) d e,aB<|zeM (zbY c) d e])
def zK4 (a:ad)(c d e:Int)(l:zsc a c d e=true):∃N,zze N a c d e=some [aH<|zkK a c d e,aB<|zkL a c d e]:=by
 have g:=(zT a).1 (zM.1 l);refine⟨0,?_⟩;have i:=zpq (h:=a) (m:=c) (cB:=znN (zds<|ix a.aa c mZ) d e) (B:=zdV (zds<|ix a.aa c mZ) d e) (o0:=λH=>[.agg<|zbt H,.one<|.b false]) (o1:=λH=>[.agg<|zbt H,.one<|.b<|zeM (zds<|ix a.aa c mZ) d e]) g
  (λf=>zbg (zf0<|g.2.1.2 _<|zbN (zc1.1 f).2 _)) (λf=>zPi _ _ (zf0<|g.2.1.2 _<|zbN (zc1.1 f).2 _))
 refine(show zze 0 a c d e=_ from i).trans ?_;unfold zkK zkL zjg zhS;cases f:zdf a c;{rfl};{obtain⟨j,k⟩:=z1R (zk8 f<|zpI f) a c d e;simp only[cT];exact zvj j k}
def zFa:vU 145 zwn:=kF4 zk4 zA zb9 zdQ (zq []) zK4
def z3a {b:ai}(g:Int)(x:Ctl)(a:SmB b):SmB (zfm b g x):=zsi a (zjX (b:=b) _ a)
def zbaz {b c:ai}(a:SameB b c)(h:ad)(m:Int)(g:Int)(x:Ctl):zdF h m (zfm b g x)=zdF h m (zfm c g x)/\zgg b g x=zgg c g x:=by have e:=a.at g;simp only[zfm,zgg,e];exact⟨zrM a _ _ _ _ _,znn a _ _⟩
@[simp] abbrev zyG (h:ad)(m:Int)(g:Int)(x:Ctl):Bool:=pc (zdx h)
def zC6:Run:=rF4 dH dI dI dC λb c d e=>(zyG b c d e,[aH<|zoj b c d e,aB<|zok b c d e])
def zIc (N:Nat)(f:ad)(b d:Int)(e:Ctl):OA:=
 let a:=zn f;let c:=ix a.aa b zi; (oN (zbn f)<|oN (zgI a b)<|cond (nB<|zgH a b) (some [aH a,aB false])<|oN (inb b<|ln a.aa)<|oN (zfS c)<|oN (zsR (zbY c) d e)<|oN (zfR a b<|zfm (zbY c) d e)<|some [aH<|ziG a b<|zfm (zbY c) d e,aB<|zgg (zbY c) d e])
def zVj (a:ad)(c d:Int)(e:Ctl)(l:zyG a c d e=true):∃N,zIc N a c d e=some [aH<|zoj a c d e,aB<|zok a c d e]:=by
 have g:=(zT a).1 (zM.1 l);refine⟨0,?_⟩;have i:=zpq (h:=a) (m:=c) (cB:=zsR (zds<|ix a.aa c mZ) d e) (B:=zfm (zds<|ix a.aa c mZ) d e) (o0:=λH=>[.agg<|zbt H,.one<|.b false]) (o1:=λH=>[.agg<|zbt H,.one<|.b<|zgg (zds<|ix a.aa c mZ) d e]) g
  (λf=>zbg (zf0<|g.2.1.2 _<|zbN (zc1.1 f).2 _)) (λf=>z3a _ _ (zf0<|g.2.1.2 _<|zbN (zc1.1 f).2 _))
 refine(show zIc 0 a c d e=_ from i).trans ?_;unfold zoj zok zjg zhS;cases f:zdf a c;{rfl};{obtain⟨j,k⟩:=zbaz (zk8 f<|zpI f) a c d e;simp only[cT];exact zvj j k}
def zNs:vU 146 zC6:=kF4 zk4 zA zb9 zdQ (zq []) zVj
def zZJ {b:ai}(n:Int)(a:SmB b):SmB (zfQ b n):=z8w a
def z8o {b c:ai}(f:SameB b c)(h:ad)(m n:Int):zdF h m (zfQ b n)=zdF h m (zfQ c n)/\zhH b n=zhH c n:=by obtain⟨a,d,e⟩:=z7Z f n;exact⟨back_eq a d,e⟩
@[simp] abbrev zwx (h:ad)(m:Int)(n:Int):Bool:=pc (zdx h)
def zAe:Run:=rF3 dH dI dI λb c d=>(zwx b c d,[aH<|zmJ b c d,aB<|zmK b c d])
def zEg (N:Nat)(e:ad)(b d:Int):OA:=
 let a:=zn e;let c:=ix a.aa b zi; (oN (zbn e)<|oN (zgI a b)<|cond (nB<|zgH a b) (some [aH a,aB false])<|oN (inb b<|ln a.aa)<|oN (zfS c)<|oN (zeW (zbY c) d)<|oN (zfR a b<|zfQ (zbY c) d)<|some [aH<|ziG a b<|zfQ (zbY c) d,aB<|zhH (zbY c) d])
def zRT (a:ad)(c d:Int)(k:zwx a c d=true):∃N,zEg N a c d=some [aH<|zmJ a c d,aB<|zmK a c d]:=by
 have f:=(zT a).1 (zM.1 k);refine⟨0,?_⟩;have g:=zpq (h:=a) (m:=c) (cB:=zeW (zds<|ix a.aa c mZ) d) (B:=zfQ (zds<|ix a.aa c mZ) d) (o0:=λH=>[.agg<|zbt H,.one<|.b false]) (o1:=λH=>[.agg<|zbt H,.one<|.b<|zhH (zds<|ix a.aa c mZ) d]) f
  (λe=>zbg (zf0<|f.2.1.2 _<|zbN (zc1.1 e).2 _)) (λe=>zZJ _ (zf0<|f.2.1.2 _<|zbN (zc1.1 e).2 _))
 refine(show zEg 0 a c d=_ from g).trans ?_;unfold zmJ zmK zjg zhS;cases e:zdf a c;{rfl};{obtain⟨i,j⟩:=z8o (zk8 e<|zpI e) a c d;simp only[cT];exact zvj i j}
def zKs:vU 148 zAe:=kF3 zk4 zA zb9 zdQ (zq []) zRT
def z2Z {b:ai}(a:SmB b):SmB (zfP b):=zbaE a
def zbay {b c:ai}(g:SameB b c)(h:ad)(m:Int):zdF h m (zfP b)=zdF h m (zfP c)/\zhn b=zhn c/\zho b=zho c:=by obtain⟨a,d,e,f⟩:=z8O g;exact⟨back_eq a d,e,f⟩
def zC5:Run:=rF2 dH dI λb c=>(zfG b c,[aH<|zog b c,aI<|zoh b c,aB<|zoi b c])
def zIa (N:Nat)(d:ad)(b:Int):OA:=
 let a:=zn d;let c:=ix a.aa b zi; (oN (zbn d)<|oN (zgI a b)<|cond (nB<|zgH a b) (some [aH a,aI<|-1,aB false])<|oN (inb b<|ln a.aa)<|oN (zfS c)<|oN (zbV<|zbY c)<|oN (zfR a b<|zfP<|zbY c)<|some [aH<|ziG a b<|zfP<|zbY c,aI<|zhn<|zbY c,aB<|zho<|zbY c])
def zVh (a:ad)(c:Int)(l:zfG a c=true):∃N,zIa N a c=some [aH<|zog a c,aI<|zoh a c,aB<|zoi a c]:=by
 have e:=(zT a).1 (zM.1 l);refine⟨0,?_⟩;have f:=zpq (h:=a) (m:=c) (cB:=zbV (zds<|ix a.aa c mZ)) (B:=zfP (zds<|ix a.aa c mZ)) (o0:=λH=>[.agg<|zbt H,.one<|.i .i64<|-1,.one<|.b false]) (o1:=λH=>[.agg<|zbt H,.one<|.i .i64<|zhn<|zds<|ix a.aa c mZ,.one<|.b<|zho<|zds<|ix a.aa c mZ]) e
  (λd=>zbg (zf0<|e.2.1.2 _<|zbN (zc1.1 d).2 _)) (λd=>z2Z (zf0<|e.2.1.2 _<|zbN (zc1.1 d).2 _))
 refine(show zIa 0 a c=_ from f).trans ?_;unfold zog zoh zoi zjg zhS;cases d:zdf a c;{rfl};{obtain⟨g,j,k⟩:=zbay (zk8 d<|zpI d) a c;simp only[cT];exact zbc9 g j k}
def zNr:vU 149 zC5:=kF2 zk4 zA zb9 zdQ (zq []) zVh
def z6o:zZ:=[(141,zC9),(143,zwm),(144,zwo),(145,zwn),(146,zC6),(148,zAe),(149,zC5)]++z6n
def zw4:zS z6o:=zh zNv (zh zE9<|zh zFb<|zh zFa<|zh zNs<|zh zKs<|zh zNr zk4)
def zlB (h:ad)(m t:Int):ad:=bif zcr h then (cond (j0 m<|ln h.aa) (cond (zk t 0 3) {h with aa:=up h.aa m {ix h.aa m mZ with aq:=t}} h) h) else h
def zB0 (h:ad)(m t:Int):Bool:=bif zcr h then (cond (j0 m<|ln h.aa) (zk t 0 3) false) else false
@[simp] abbrev zwA (h:ad)(m t:Int):Bool:=pc (zdx h)
@[simp] abbrev zq5 (h:ad)(m t:Int):ad:=zlB h m t
@[simp] abbrev zq6 (h:ad)(m t:Int):Bool:=zB0 h m t
def zAi:Run:=rF3 dH dI dI λb c d=>(zwA b c d,[aH<|zq5 b c d,aB<|zq6 b c d])
def zEm (N:Nat)(d:ad)(b c:Int):OA:=
 let a:=zn d; (oN (zbn d)<|oN (zeC a)<|cond (nB<|zeB a) (some [aH a,aB false])<|oN (zO b 0<|wsub .i64 (ln a.aa) 1)<|cond (nB<|zk b 0<|wsub .i64 (ln a.aa) 1) (some [aH a,aB false])<|oN (zO c 0 3)<|cond (nB<|zk c 0 3) (some [aH a,aB false])<|oN (inb b<|ln a.aa)<|p0 (up a.aa b ({ (ix a.aa b zi) with aq:=c}:Mon)) λe=>some [aH ({a with aa:=e}:ad),aB true])
def zR0 (a:ad)(b c:Int)(d:zwA a b c=true):∃N,zEm N a b c=some [aH<|zq5 a b c,aB<|zq6 a b c]:=by
 have g:=(zT a).1 (zM.1 d);refine⟨0,?_⟩;unfold zEm zq5 zq6 zlB zB0 oN nB;conv=>zeta
 refine i0 d (i0 rfl ?_);rw[show zeB (zn a)=zcr a from rfl];cases e:zcr a;{rfl};{refine zcB rfl (i0 rfl ?_);rw[show zk b 0 (wsub .i64 (ln (zn a).aa) 1)=j0 b (ln a.aa) from zSS e b];cases f:j0 b (ln a.aa);{rfl};{refine zcB rfl (i0 rfl ?_);rw[show zk c 0 3=zk c 0 3 from rfl];cases h:zk c 0 3;{rfl};{exact zcB rfl (i0 (zF f) rfl)}}}
def zKB:vU 330 zAi:=kF3 zw4 zA zb9 zdQ (zq []) zR0
def zl4 {h:ad}{m p:Int}:(zc0 h m p=true)↔zcr h=true/\j0 m (ln h.aa)=true/\j0 p 8=true:=by unfold zc0;cases zcr h<;>cases j0 m (ln h.aa)<;>simp
def zmi (h:ad)(m p:Int):Bool:=ieq (ix (ix h.aa m mZ).ae p sZ).af (-1)
def zr0 (h:ad)(m p:Int):ad:=bif zc0 h m p then (cond (zmi h m p) h<|zer h m p) else h
def zFE (h:ad)(m p:Int):Bool:=bif zc0 h m p then !zmi h m p else false
def zv9 (h:ad)(m p:Int):ad:=bif zc0 h m p then (cond (zmi h m p) (fetched h m p) h) else h
def zLc (h:ad)(m p:Int):Bool:=bif zc0 h m p then zmi h m p else false
@[simp] abbrev zsW (h:ad)(m p:Int):ad:=zr0 h m p
@[simp] abbrev zsX (h:ad)(m p:Int):Bool:=zFE h m p
@[simp] abbrev zu7 (h:ad)(m p:Int):ad:=zv9 h m p
@[simp] abbrev zu8 (h:ad)(m p:Int):Bool:=zLc h m p
def zOJ {h:ad}(f:SmH h)(c:zcr h=true){m p:Int}(d:j0 m (ln h.aa)=true)(e:j0 p 8=true) :
 (cond (ieq (ix (ix h.aa m mZ).ae p sZ).af<|-1) (ieq (ix (ix h.aa m mZ).ae p sZ).aj 0) false)=zmi h m p:=by
 have a:=(zuW (zir c _<|zbN d mZ) e).no;unfold zdr at a;unfold zmi;rw[<- a];cases b:ieq (ix (ix h.aa m mZ).ae p sZ).af (-1)<;>simp [C0,b]
def zTX {h:ad}(d:SmH h)(a:zcr h=true){m p:Int}(b:j0 m (ln h.aa)=true)(c:j0 p 8=true):inb p (ln (ix h.aa m mZ).ae)=true :=
 zF (by rw[ln,((zgw d a).1.2 _ (zbN b mZ)).1];exact c)
def zDc:Run:=rF3 dH dI dI λb c d=>(zjQ b c d,[aH<|zsW b c d,aB<|zsX b c d])
def zIj (N:Nat)(e:ad)(c b:Int):OA:=
 let a:=zn e;let d:=(ix a.aa c zi).ae; (oN (zbn e)<|oN (zpF a c b)<|cond (nB<|zgP a c b) (some [aH a,aB false])<|oN (inb c<|ln a.aa)<|oN (inb b<|ln d)<|oN zbR<|cond (cond (ieq (ix d b zba).af zbm.af) (ieq (ix d b zba).aj zbm.aj) false) (some [aH a,aB false])<|oN (zlA a c b)<|some [aH<|zpl a c b,aB true])
def zVq (a:ad)(b c:Int)(h:zjQ a b c=true):∃N,zIj N a b c=some [aH<|zsW a b c,aB<|zsX a b c]:=by
 have g:=(zT a).1 (zM.1 h);refine⟨0,?_⟩;unfold zIj zsW zsX zr0 zFE oN nB;conv=>zeta
 refine i0 h (i0 rfl ?_);rw[show zgP (zn a) b c=zc0 a b c from rfl];cases i:zc0 a b c;{rfl};{obtain⟨e,d,f⟩:=zl4.1 i;refine zcB rfl (i0 (zF d)<|i0 (zTX g e d f) (i0 rfl ?_));rw[show (cond (ieq (ix (ix (zn a).aa b zi).ae c zba).af zbm.af) (ieq (ix (ix (zn a).aa b zi).ae c zba).aj zbm.aj) false)=zmi a b c from zOJ g e d f];cases j:zmi a b c;{exact zcB rfl (i0 (zbg ⟨(zgw g e).1,d,f⟩) rfl)};{rfl}}
def zNz:vU 327 zDc:=kF3 zw4 zA zb9 zdQ (zq []) zVq
def zFP:Run:=rF3 dH dI dI λb c d=>(zjQ b c d,[aH<|zu7 b c d,aB<|zu8 b c d])
def zMd (N:Nat)(e:ad)(c b:Int):OA:=
 let a:=zn e;let d:=(ix a.aa c zi).ae; (oN (zbn e)<|oN (zpF a c b)<|cond (nB<|zgP a c b) (some [aH a,aB false])<|oN (inb c<|ln a.aa)<|oN (inb b<|ln d)<|oN zbR<|cond (nB<|cond (ieq (ix d b zba).af zbm.af) (ieq (ix d b zba).aj zbm.aj) false) (some [aH a,aB false])<|oN (zm7 a c b)<|some [aH<|znZ a c b,aB true])
def zYs (a:ad)(b c:Int)(h:zjQ a b c=true):∃N,zMd N a b c=some [aH<|zu7 a b c,aB<|zu8 a b c]:=by
 have g:=(zT a).1 (zM.1 h);refine⟨0,?_⟩;unfold zMd zu7 zu8 zv9 zLc oN nB;conv=>zeta
 refine i0 h (i0 rfl ?_);rw[show zgP (zn a) b c=zc0 a b c from rfl];cases i:zc0 a b c;{rfl};{obtain⟨e,d,f⟩:=zl4.1 i;refine zcB rfl (i0 (zF d)<|i0 (zTX g e d f) (i0 rfl ?_));rw[show (cond (ieq (ix (ix (zn a).aa b zi).ae c zba).af zbm.af) (ieq (ix (ix (zn a).aa b zi).ae c zba).aj zbm.aj) false)=zmi a b c from zOJ g e d f];cases j:zmi a b c;{rfl};{exact zcB rfl (i0 (zbg ⟨zgw g e,d,f⟩) rfl)}}
def zQY:vU 328 zFP:=kF3 zw4 zA zb9 zdQ (zq []) zYs
def z6p:zZ:=[(330,zAi),(327,zDc),(328,zFP)]++z6o
def zTs:zS z6p:=zh zKB (zh zNz<|zh zQY zw4)
def z5L {x:Mon}{b:ai}(h:zgs x)(a:zmx b.ac):zgs (zwZ x b):=⟨h.1,h.2.1,h.2.2.1,a,h.2.2.2.2⟩
def zLu {h:ad}{m:Int}{b:ai}(a:SmH h)(d:j0 m (ln h.aa)=true)(c:zmx b.ac):SmH (zdF h m b):=
 ⟨a.1,zk9 a.2.1<|z5L (a.2.1.2 _<|zbN d _) c,a.2.2⟩
def zWQ {h:ad}{m:Int}(b:ai)(a:j0 m (ln h.aa)=true):j0 m (ln (zdF h m b).aa)=true:=by show j0 m (ln<|up h.aa m _)=true;rw[ln,zid];exact a
def zbc0 {h:ad}{m:Int}(b:ai)(c:j0 m (ln h.aa)=true):ix (zdF h m b).aa m mZ=zwZ (ix h.aa m mZ) b:=by obtain⟨k,rfl,a⟩:=zez (n:=h.aa.length) c;exact zev a _ _
def zET (h:ad)(m g p:Int):ad:=⟨h.ag,up h.aa m {ix h.aa m mZ with am:=up (ix h.aa m mZ).am g (zca (ix (ix h.aa m mZ).am g kZ) p)},zc2 h.ao (zeD m g) p,zc2 h.ak (zeD m g) p⟩
def z6X (H:ad)(m g p:Int)(o:ad->Ans):OA:=
 bif inb m (ln H.aa) then (bif inb m (ln H.aa) then (bif inb g (ln (ix H.aa m mZ).am) then (bif zd5 (ix (ix H.aa m mZ).am g kZ) p then (bif inb g (ln (ix H.aa m mZ).am) then (p0 (up H.aa m {ix H.aa m mZ with am:=up (ix H.aa m mZ).am g (zca (ix (ix H.aa m mZ).am g kZ) p)}) λx=>
  (cond (ziA m g) (cond (zfX H.ao (zeD m g) p) (cond (ziA m g) (cond (zfX H.ak (zeD m g) p) (some<|o ⟨H.ag,x,zc2 H.ao (zeD m g) p,zc2 H.ak (zeD m g) p⟩) none) none) none) none)) else none) else none) else none) else none) else none
def z6Y {H:ad}{m g p:Int}{o:ad->Ans}(b:SmH H)(a:j0 m (ln H.aa)=true)(hg:j0 g (ln (ix H.aa m mZ).am)=true):z6X H m g p o=some (o<|zET H m g p):=by have c:=b.2.1.2 _ (zbN a mZ);unfold z6X;exact i0 (zF a) (i0 (zF a)<|i0 (zF hg)<|i0 (zbg<|c.2.2.2.2.2.2 _<|zbN hg _)<|i0 (zF hg)<|shr (i0 rfl (i0 (zbg b.2.2.1) (i0 rfl (i0 (zbg b.2.2.2) rfl)))))
def zmE (h:ad)(m g p:Int):ad:=bif zdf h m then (cond (zcA (zD h m) g<|j0 p 4) (zET (zdF h m<|chg (zD h m) g (j0 p 4)<|zeE (gAt (zD h m) g) p) m g p) h) else h
@[simp] abbrev zuo (h:ad)(m g p:Int):Bool:=pc (zdx h)
@[simp] abbrev zoT (h:ad)(m g p:Int):ad:=zmE h m g p
def z1T {h:ad}{m:Int}(a:j0 m (ln h.aa)=true):(zD h m).ac=(ix h.aa m mZ).ac:=by unfold zD;rw[a];rfl
def zTG {h:ad}{m g:Int}{k:Bool}(i:SmH h)(e:zdf h m=true)(b:ai)(a:zcA (zD h m) g k=true):j0 g (ln (ix (zdF h m b).aa m mZ).am)=true:=by obtain⟨f,c⟩:=zc1.1 e;rw[zbc0 b c];show j0 g (ln (ix h.aa m mZ).am)=true;rw[ln,((zgw i f).1.2 _ (zbN c mZ)).2.2.2,<- z1T c];unfold zcA at a;cases d:zcy (zD h m) g;{rw [d]at a;cases a};{exact(zet.1 d).2}
def zxJ:Run:=rF4 dH dI dI dI λb c d e=>(zuo b c d e,[aH<|zoT b c d e,aB<|zlI b c d e])
def zCA (N:Nat)(i:ad)(a b c:Int):OA:=
 let h:=zl7 a b;let e:=zn i;let g:=ix e.aa a zi;let d:=ziG e a<|zfV (zbY g) b c;let f:=ix d.aa a zi;let j:=ix f.am b ze0; (oN (zbn i)<|oN (zgI e a)<|cond (nB<|zgH e a) (some [aH e,aB false])<|oN (inb a<|ln e.aa)<|oN (zfS g)<|oN (zum (zbY g) b c)<|cond (nB<|zjt (zbY g) b c) (some [aH e,aB false])<|oN (zfR e a<|zfV (zbY g) b c)<|oN (inb a<|ln d.aa)<|oN (inb a<|ln d.aa)<|oN (inb b<|ln f.am)<|oN (zd5 j c)<|oN (inb b<|ln f.am)<|p0 (up d.aa a ({f with am:=(up f.am b<|zh7 j c)}:Mon)) λk=>oN (ziA a b)<|oN (zfX d.ao h c)<|oN (ziA a b)<|oN (zfX d.ak h c)<|some [aH (⟨d.ag,k,ziw d.ao h c,ziw d.ak h c⟩:ad),aB true])
def zOz (a:ad)(c d e:Int)(j:zbE big [aH a,aI c,aI d,aI e])(q:zuo a c d e=true):∃N,zCA N a c d e=some [aH<|zoT a c d e,aB<|zlI a c d e]:=by
 have k:=(zT a).1 (zM.1 q);refine⟨0,?_⟩;unfold zCA zoT zlI zmE zhS oN nB;conv=>zeta
 refine i0 q (i0 rfl ?_);rw[show zgH (zn a) c=zdf a c from rfl];cases h:zdf a c;{rfl};{obtain⟨v,f⟩:=zc1.1 h;have r:=k.2.1.2 _ (zbN f mZ);have l:=zf0 r;have i:=zk8 h (zpI h);have u:zcA (zds<|ix a.aa c mZ) d (j0 e 4)=zcA (zD a c) d (j0 e 4):=znn i _ _;have s:zdF a c (zfV (zds<|ix a.aa c mZ) d e)=zdF a c (chg (zD a c) d (j0 e 4)<|zeE (gAt (zD a c) d) e):=(by rw[<- i.at];exact zrM i _ _ _ _ _);refine zcB rfl (i0 (zF f)<|i0 (zbg r)<|i0 (zbg l) ?_);rw[show zjt (zbY<|ix (zn a).aa c zi) d e=zcA (zD a c) d (j0 e 4) from u];cases t:zcA (zD a c) d (j0 e 4);{rfl};{have j:SmB (zfV (zds<|ix a.aa c mZ) d e):=zsi l (zPm _<|zjX _ l);refine zcB rfl (i0 (zbg ⟨f,j.2.1⟩) ?_);have n:=z6Y (H:=zdF a c (zfV (zds<|ix a.aa c mZ) d e)) (m:=c) (g:=d) (p:=e) (o:=λH=>[.agg<|zbt H,.one<|.b true]) (zLu k f j.2.1) (zWQ _ f) (zTG k h _ t);refine(show _=_ from n).trans ?_;rw[s];rfl}}
def zG5:vU 142 zxJ:=hF4 zTs zA zb9 zdQ (zq []) zOz
def z6q:zZ:=[(142,zxJ)]++z6p
def zTt:zS z6q:=zh zG5 zTs
def zZg (h:ad)(m p c v:Int):ad:={A0 h m p 2 with ag:=zbS (A0 h m p 2).ag (ix (ix (A0 h m p 2).aa m mZ).ae p sZ).af c v}
def zgx (h:ad)(m p c v:Int):Bool:=bif zc0 h m p then (cond (j0 c 4) (zk v 0 99) false) else false
def zpa (h:ad)(m p c v:Int):ad:=bif zgx h m p c v then zZg h m p c v else h
@[simp] abbrev zww (h:ad)(m p c v:Int):Bool:=pc (zdx h)
@[simp] abbrev zqX (h:ad)(m p c v:Int):ad:=zpa h m p c v
@[simp] abbrev zqY (h:ad)(m p c v:Int):Bool:=zgx h m p c v
def zbcM (H:ad)(m p c v:Int)(o:ad->Ans):OA:=
 bif pc (zWG H m p 2) then (cond (inb m<|ln (A0 H m p 2).aa) (cond (inb p<|ln (ix (A0 H m p 2).aa m mZ).ae) (cond (pc<|SmM (A0 H m p 2).ag) (some<|o<|zZg H m p c v) none) none) none) else none
def zban {h:ad}{m p c v:Int}{o:ad->Ans}(j:SmH h)(i:zc0 h m p=true):zbcM h m p c v o=some (o<|zZg h m p c v):=by obtain⟨g,b,a⟩:=zl4.1 i;have f:=zgw j g;obtain⟨d,e⟩:=zwF (n:=2) f b a;unfold zbcM;refine i0 (zbg ⟨f,b,a,.inr (.inl rfl),zuW (zir g _<|zbN b mZ) a⟩) (i0 (zF e)<|i0 (zF ?_) (i0 (zbg d.1.1) rfl));rw[ln,(d.2 _<|zbN e mZ).1];exact a
def zAd:Run:=rF5 dH dI dI dI dI λb c d e f=>(zww b c d e f,[aH<|zqX b c d e f,aB<|zqY b c d e f])
def zEf (N:Nat)(g:ad)(b c:Int)(e f:Int):OA:=
 let a:=zn g;let d:=zhN a b c 2;let h:=(ix d.aa b zi).ae;let i:=(ix h c zba).af; (oN (zbn g)<|oN (zpF a b c)<|cond (nB<|zgP a b c) (some [aH a,aB false])<|oN (zO e 0 3)<|cond (nB<|zk e 0 3) (some [aH a,aB false])<|oN (zO f 0 99)<|cond (nB<|zk f 0 99) (some [aH a,aB false])<|oN (zki a b c 2)<|oN (inb b<|ln d.aa)<|oN (inb c<|ln h)<|oN (zff d.ag i e f)<|some [aH ({d with ag:=(zeX d.ag i e f)}:ad),aB true])
def zRS (d:ad)(f g:Int)(a e:Int)(i:zww d f g a e=true):∃N,zEf N d f g a e=some [aH<|zqX d f g a e,aB<|zqY d f g a e]:=by
 have k:=(zT d).1 (zM.1 i);refine⟨0,?_⟩;unfold zEf zqX zqY zpa zgx oN nB;conv=>zeta
 refine i0 i (i0 rfl ?_);rw[show zgP (zn d) f g=zc0 d f g from rfl];cases j:zc0 d f g;{rfl};{refine zcB rfl (i0 rfl ?_);rw[show zk a 0 3=j0 a 4 from zbfm a];cases l:j0 a 4;{rfl};{refine zcB rfl (i0 rfl ?_);rw[show zk e 0 99=zk e 0 99 from rfl];cases m:zk e 0 99;{rfl};{have h:=zban (c:=a) (v:=e) (o:=λH=>[.agg<|zbt H,.one<|.b true]) k j;exact zcB rfl (show _=_ from h)}}}
def zKr:vU 147 zAd:=kF5 zTt zA zb9 zdQ (zq []) zRS
def z6r:zZ:=[(147,zAd)]++z6q
def z6s:zS z6r:=zh zKr zTt
def z6t:zZ:=z6r
def zEK:zS z6t:=z6s
def z7A (h:ad)(b:List ar)(m g c a:Int)(e:Bool):(lookOf h b m g c a e).2.2=zb8 h m g c a:=by cases d:zb8 h m g c a;{rw [ziN d]};{rw [zK8 d];unfold zhm zfv;generalize zjl b m g c a=x;cases x;{generalize zfi _ m g c a=y;cases y<;>rfl};{rfl}}
def zbdL {h:ad}{m g c a:Int}(b:List ar)(i:Bool)(f:SmH h)(d:zb8 h m g c a=true):SmM (lookOf h b m g c a i).1.ag:=by have hg:zbW h m g=true:=(by unfold zb8 at d;cases e:zbW h m g;{rw [e]at d;cases d};{rfl});exact(zvo f hg).shape.1.1
def zFi (h:ad)(m g a n:Int):ad×Int×Bool:=lookOf h h.ak m g (zbs a) n true
def ziq (h:ad)(m g a v:Int):Bool:=bif zk a 0 15 then (cond (zk v 0 99) (zb8 h m g (zbs a) 2) false) else false
def zrV (h:ad)(m g a v:Int):ad:=bif ziq h m g a v then { (zFi h m g a 2).1 with ag:=zbS (zFi h m g a 2).1.ag (zFi h m g a 2).2.1 (zdO a) v} else h
def zhj (h:ad)(m g a:Int):Bool:=bif zk a 0 15 then zb8 h m g (zbs a) 1 else false
def zpb (h:ad)(m g a:Int):ad:=bif zhj h m g a then (zFi h m g a 1).1 else h
def ztz (h:ad)(m g a:Int):Int:=bif zhj h m g a then cellAt (zFi h m g a 1).1.ag (zFi h m g a 1).2.1 (zdO a) else 0
@[simp] abbrev zyH (h:ad)(m g a v:Int):Bool:=pc (zdx h)
@[simp] abbrev zsU (h:ad)(m g a v:Int):ad:=zrV h m g a v
@[simp] abbrev zsV (h:ad)(m g a v:Int):Bool:=ziq h m g a v
@[simp] abbrev zwy (h:ad)(m g a:Int):Bool:=pc (zdx h)
@[simp] abbrev zqZ (h:ad)(m g a:Int):ad:=zpb h m g a
@[simp] abbrev zq0 (h:ad)(m g a:Int):Int:=ztz h m g a
@[simp] abbrev zq1 (h:ad)(m g a:Int):Bool:=zhj h m g a
def zC7:Run:=rF5 dH dI dI dI dI λb c d e f=>(zyH b c d e f,[aH<|zsU b c d e f,aB<|zsV b c d e f])
def zId (N:Nat)(g:ad)(c d:Int)(a e:Int):OA:=
 let b:=zn g;let h:=zmb b b.ak c d (zb3 a) 2 true;let f:=zgp b b.ak c d (zb3 a) 2 true; (oN (zbn g)<|oN (zO a 0 15)<|cond (nB<|zk a 0 15) (some [aH b,aB false])<|oN (zO e 0 99)<|cond (nB<|zk e 0 99) (some [aH b,aB false])<|oN (zbD a)<|oN (zmc b b.ak c d (zb3 a) 2 true)<|cond (nB<|ziF b b.ak c d (zb3 a) 2 true) (some [aH f,aB false])<|oN (zbD a)<|oN (zff f.ag h (zdg a) e)<|some [aH ({f with ag:=(zeX f.ag h (zdg a) e)}:ad),aB true])
def zVk (a:ad)(c d:Int)(b e:Int)(f:zyH a c d b e=true):∃N,zId N a c d b e=some [aH<|zsU a c d b e,aB<|zsV a c d b e]:=by
 have h:=(zT a).1 (zM.1 f);refine⟨0,?_⟩;unfold zId zsU zsV zrV ziq oN nB;conv=>zeta
 refine i0 f (i0 rfl ?_);rw[show zk b 0 15=zk b 0 15 from rfl];cases i:zk b 0 15;{rfl};{refine zcB rfl (i0 rfl ?_);rw[show zk e 0 99=zk e 0 99 from rfl];cases j:zk e 0 99;{rfl};{refine zcB rfl (i0 rfl (i0 f ?_));rw[show ziF (zn a) (zn a).ak c d (zb3 b) 2 true=zb8 a c d (zbs b) 2 from z7A _ _ _ _ _ _ _];cases g:zb8 a c d (zbs b) 2;{rw [show zgp (zn a) (zn a).ak c d (zb3 b) 2 true=a from congrArg Prod.fst (ziN g)];rfl};{exact zcB rfl (i0 rfl (i0 (zbg<|zbdL a.ak true h g) rfl))}}}
def zNt:vU 150 zC7:=kF5 zEK zA zb9 zdQ (zq []) zVk
def zAf:Run:=rF4 dH dI dI dI λb c d e=>(zwy b c d e,[aH<|zqZ b c d e,aI<|zq0 b c d e,aB<|zq1 b c d e])
def zEh (N:Nat)(f:ad)(c d a:Int):OA:=
 let b:=zn f;let g:=zmb b b.ak c d (zb3 a) 1 true;let e:=zgp b b.ak c d (zb3 a) 1 true; (oN (zbn f)<|oN (zO a 0 15)<|cond (nB<|zk a 0 15) (some [aH b,aI 0,aB false])<|oN (zbD a)<|oN (zmc b b.ak c d (zb3 a) 1 true)<|cond (nB<|ziF b b.ak c d (zb3 a) 1 true) (some [aH e,aI 0,aB false])<|oN (zbD a)<|oN (zeY e.ag g<|zdg a)<|some [aH e,aI<|zgz e.ag g<|zdg a,aB true])
def zRU (a:ad)(c d b:Int)(e:zwy a c d b=true):∃N,zEh N a c d b=some [aH<|zqZ a c d b,aI<|zq0 a c d b,aB<|zq1 a c d b]:=by
 have h:=(zT a).1 (zM.1 e);refine⟨0,?_⟩;unfold zEh zqZ zq0 zq1 zpb ztz zhj oN nB;conv=>zeta
 refine i0 e (i0 rfl ?_);rw[show zk b 0 15=zk b 0 15 from rfl];cases g:zk b 0 15;{rfl};{refine zcB rfl (i0 rfl (i0 e ?_));rw[show ziF (zn a) (zn a).ak c d (zb3 b) 1 true=zb8 a c d (zbs b) 1 from z7A _ _ _ _ _ _ _];cases f:zb8 a c d (zbs b) 1;{rw [show zgp (zn a) (zn a).ak c d (zb3 b) 1 true=a from congrArg Prod.fst (ziN f)];rfl};{exact zcB rfl (i0 rfl (i0 rfl rfl))}}
def zKt:vU 151 zAf:=kF4 zEK zA zb9 zdQ (zq []) zRU
def z6u:zZ:=[(150,zC7),(151,zAf)]++z6t
def z6v:zS z6u:=zh zNt (zh zKt zEK)
def z6w:zZ:=[(196,zr8),(197,znH)]++z6u
def zTu:zS z6w:=zh zvX (zh zo9 z6v)
def zl2:az:=⟨rp 4 false,zna⟩
@[simp] abbrev zyL (n:Int):Bool:=ieq n 4
@[simp] abbrev zx0 (n:Int):az:=zl2
def zDb:Run:=rF1 dI λb=>(zyL b,[aT .kept<|zx0 b])
def z0A (N:Nat)(b:Int):OA:=
 let a:=ln<|zim b; (oN (zkV b)<|oN (cond (few a) (ieq a a) false)<|some [aT .kept (⟨rp a false,zim b⟩:az)])
def zVp (a:Int)(b:zyL a=true):∃N,z0A N a=some [aT .kept<|zx0 a]:=by refine⟨0,?_⟩;have h:a=4:=qD b;subst h;change _=_;kernel_rfl
def zNx:vU 198 zDb:=kF1 zTu zA zb9 zdQ (zq []) zVp
def z6x:zZ:=[(198,zDb)]++z6w
def zTv:zS z6x:=zh zNx zTu
def zwH:List k0:=List.replicate 8 ⟨-1,0⟩
def zic (a:List (List Ins)):Mon:=⟨zwH,zSb,rp 8 false,(a.take 2).map zfZ,[],0,0,(a.take 2).map λ_=>zl2,0⟩
def zOF {d a b q:Type}(m:Nat)(f:d->a)(g:d->b)(K:List a×List b->Option q):∀(l:List d) (i:Nat) (u:List a×List b),u.1.length+l.length<=2147483648->u.2.length+l.length<=2147483648->
 goL (λ(i:Nat) x (u:List a×List b) k=>bif ilt (i:Int) (m:Int) then (cond (few<|ln<|ap u.1 [f x]) (cond (few<|ln<|ap u.2 [g x]) (k (ap u.1 [f x],ap u.2 [g x])) none) none) else K u) K l i u=K (u.1++(l.take<|m-i).map f,u.2++(l.take<|m-i).map g)
 |[],i,u,_,_=>by simp[goL]
 |x::l,i,u,n,p=>by simp only[qU]at n p;have e:few (ln<|ap u.1 [f x])=true:=zgv (by simp[ap];omega);have j:few (ln<|ap u.2 [g x])=true:=zgv (by simp[ap];omega);by_cases h:i<m;{have c:ilt (i:Int) (m:Int)=true:=qH (by omega);simp only[goL,c,e,j,cT];rw[zOF m f g K l (i+1) _ (by simp[ap];omega) (by simp[ap];omega)];rw[show m-i=m-(i+1)+1 by omega];simp[ap]};{have c:ilt (i:Int) (m:Int)=false:=qI (by omega);simp only[goL,c,cF];rw[show m-i=0 by omega];simp}
def z7H (u:List ah×List az):OA:=some [AV.agg<|Ty.cells .mon (⟨zwH,zSb,rp 8 false,u.1,[],0,0,u.2,0⟩:Mon)]
@[simp] abbrev zu6 (a:List (List Ins)):Bool:=pc (SmPs a)
@[simp] abbrev zLp (a:List (List Ins)):Mon:=zic a
def zFO:Run:=rF1 (dS<|.sl .ins) λb=>(zu6 b,[aT .mon<|zLp b])
def zMa (N:Nat)(k:lP):OA:=
 (oN (zkV 8)<|oN (zq2 8)<|oN (cond (few 8) (ieq 8 8) false)<|r0 (σ:=(Int×Int×Int×Int×Int×Int×Int×lP×lS×lM×lB×lG×LI×lK×lS×lM×lB×lG×LI×lK×Unit)) N (λl a=>let k:=a.2.2.2.2.2.2.2.2.2;let m:=k.2.2.2.2.2;let j:=m.1;let i:=m.2.1;let h:=m.2.2.1;let g:=m.2.2.2.1;let f:=m.2.2.2.2.1;let b:=a.2.2.2.2.2.2.2.1;let c:=m.2.2.2.2.2.1;let e:=ap g [zcJ<|ix b a.1 []];let d:=aT .mon (⟨j,i,h,g,f,a.2.2.2.2.1,a.2.2.2.2.2.1,c,a.2.2.2.2.2.2.1⟩:Mon); (cond (ilt a.1<|ln b) (cond (ilt a.1 2) (oN (inb a.1<|ln b)<|oN (zkT<|ix b a.1 [])<|oN (few<|ln e)<|oN (zyL 4)<|oN (few<|ln<|ap c [zx0 4])<|l (zI .i64 a.1 1,a.2.1,a.2.2.1,a.2.2.2.1,a.2.2.2.2.1,a.2.2.2.2.2.1,a.2.2.2.2.2.2.1,b,a.2.2.2.2.2.2.2.2.1,k.1,k.2.1,k.2.2.1,k.2.2.2.1,k.2.2.2.2.1,j,i,h,e,f,ap c [zx0 4],()))<|some [d])<|some [d])) (0,0,0,0,0,0,0,k,[],[],[],[],[],[],zim 8,zlt 8,rp 8 false,[],[],[],()))
def z0f:=zq [(70,0,{n:=36,tm:=[(0,.sl 0 []),(2,.lp 0 0),(3,.lp 1 0),(4,ti)],lo:=[(0,[.sl 1 [],.sl 2 [],.sl 3 [],.sl 4 [],.sl 5 [],ti,ti,.sl 6 [],ti]),(1,[.sl 7 [],.sl 8 [],.sl 9 [],.sl 10 [],.sl 11 [],ti,ti,.sl 12 [],ti])],ro:=[(0,.sl .ins,false),(1,.slot,true),(2,.sl .int,true),(3,.bool,true),(4,.guest,true),(5,.int,true),(6,.kept,true),(7,.slot,true),(8,.sl .int,true),(9,.bool,true),(10,.guest,true),(11,.int,true),(12,.kept,true)]})]
def zYq (a:List lI)(f:zu6 a=true):∃N,zMa N a=some [aT .mon<|zLp a]:=by
 have e:=zM.1 f;have c:=zcc e.1;refine zb2 λN d=>?_;unfold zMa oN;conv=>zeta
 refine i0 rfl (i0 rfl (i0 rfl ?_));refine(zbl a (λi (t:lG×lK)=>((i:Int),0,0,0,0,0,0,a,[],[],[],[],[],[],zim 8,zlt 8,rp 8 false,t.1,[],t.2,())) _ (λi (x:List Ins) (u:List ah×List az) h=>bif ilt (i:Int) ((2:Nat):Int) then (cond (few<|ln<|ap u.1 [zfZ x]) (cond (few<|ln<|ap u.2 [zl2]) (h (ap u.1 [zfZ x],ap u.2 [zl2])) none) none) else z7H u) (λ(t:lG×lK)=>some [.agg<|Ty.cells .mon (⟨zim 8,zlt 8,rp 8 false,t.1,[],0,0,t.2,0⟩:Mon)]) (λi b t rec=>?_) (λt rec=>?_) _ ([],[])<|d c.1).trans ?_;{simp only [zbo b,zX b,zbh b,zY b c.1,cT];have g:zkT a[i]=true:=zbg (e.2 _<|jE b);simp only[g,cT];rfl};{simp only [zbj,cF]};exact zOF 2 zfZ (λ_=>zl2) z7H a 0 ([],[]) (by simpa using c.2) (by simpa using c.2)
def zQV:vU 70 zFO:=kF1 zTv zA zb9 zdQ z0f zYq
def z6y:zZ:=[(70,zFO)]++z6x
def zTw:zS z6y:=zh zQV zTv
def z4L:List LI:=List.replicate 12 [0,0,0,0]
def zgJ (a:List (List<|List Ins)):ad:=⟨z4L,(a.take 3).map zic,[],[]⟩
def zMw (a:List (List<|List Ins)):Prop:=a.length<=1048576/\∀p∈a,SmPs p
@[simp] abbrev zyI (a:List (List<|List Ins)):Bool:=pc (zMw a)
@[simp] abbrev ziy (a:List (List<|List Ins)):ad:=zgJ a
def z2C (t:List Mon):OA:=some [AV.agg<|zbt ⟨z4L,t,[],[]⟩]
def zC8:Run:=rF1 (dS<|.sl<|.sl .ins) λb=>(zyI b,[aH<|ziy b])
def zIe (N:Nat)(d:lQ):OA:=
 (oN (zq2 12)<|r0 (σ:=(Int×lQ×lM×lN×lE×lE×lM×lN×lE×lE×Unit)) N (λe a=>let d:=a.2.2.2.2.2.2;let c:=ap d.2.1 [zLp<|ix a.2.1 a.1 []];let b:=aH (⟨d.1,d.2.1,d.2.2.1,d.2.2.2.1⟩:ad); (cond (ilt a.1<|ln a.2.1) (cond (ilt a.1 3) (oN (inb a.1<|ln a.2.1)<|oN (zu6<|ix a.2.1 a.1 [])<|oN (few<|ln c)<|e (zI .i64 a.1 1,a.2.1,a.2.2.1,a.2.2.2.1,a.2.2.2.2.1,a.2.2.2.2.2.1,d.1,c,d.2.2.1,d.2.2.2.1,()))<|some [b])<|some [b])) (0,d,[],[],[],[],zlt 12,[],[],[],()))
def zV2:=zq [(62,0,{n:=28,tm:=[(0,.sl 0 []),(2,.lp 0 0),(3,.lp 1 0),(4,ti)],lo:=[(0,[.sl 1 [],.sl 2 [],.sl 3 [],.sl 4 []]),(1,[.sl 5 [],.sl 6 [],.sl 7 [],.sl 8 []])],ro:=[(0,.sl<|.sl .ins,false),(1,.sl .int,true),(2,.mon,true),(3,.entry,true),(4,.entry,true),(5,.sl .int,true),(6,.mon,true),(7,.entry,true),(8,.entry,true)]})]
def zVm (a:List lP)(f:zyI a=true):∃N,zIe N a=some [aH<|ziy a]:=by
 have e:=zM.1 f;have d:=zcc e.1;refine zb2 λN c=>?_;unfold zIe oN;conv=>zeta
 refine i0 rfl ?_;refine(zbl a (λi (t:lN)=>((i:Int),a,[],[],[],[],zlt 12,t,[],[],())) _ (λi (x:List lI) (t:List Mon) h=>bif ilt (i:Int) ((3:Nat):Int) then (cond (few<|ln<|ap t [zic x]) (h<|ap t [zic x]) none) else z2C t) (λ(t:lN)=>some [.agg<|zbt (⟨zlt 12,t,[],[]⟩:ad)]) (λi b t rec=>?_) (λt rec=>?_) _ ([])<|c d.1).trans ?_;{simp only [zbo b,zX b,zbh b,zY b d.1,cT];have g:zu6 a[i]=true:=zbg (e.2 _<|jE b);simp only[g,cT];rfl};{simp only [zbj,cF]};exact zTR 3 zic z2C a 0 [] (by simpa using d.2)
def zNu:vU 62 zC8:=kF1 zTw zA zb9 zdQ zV2 zVm
def z6z:zZ:=[(62,zC8)]++z6y
def zTx:zS z6z:=zh zNu zTw
def zkz:Nat->Nat->az->az
 | 0,_,k=>k
 |n+1,i,k=>zkz n (i+1) (zca k (i:Int))
def zld (k:az):az:=zkz k.ay.length 0 k
def z4k (k:az)(p:Int):(zca k p).ay.length=k.ay.length:=by unfold zca;cases zdS k p;{rfl};{exact zid _ _ _}
def zyV:∀(n i:Nat) (k:az),SmK k->SmK (zkz n i k)
 | 0,_,_,h=>h
 |n+1,i,k,h=>zyV n (i+1) _ (zrB h)
@[simp] abbrev zyF (k:az):az:=zld k
def zxI:Run:=rF1 (dT .kept) λb=>(ze8 b,[aT .kept<|zyF b])
def zCz (N:Nat)(c:az):OA:=
 (oN (zhx c)<|r0 (σ:=(Int×lB×lS×lB×lS×Unit)) N (λd a=>let b:=(⟨a.2.1,a.2.2.1⟩:az); (cond (ilt a.1<|ln a.2.1) (oN (zd5 b a.1)<|d (zI .i64 a.1 1,(zh7 b a.1).ay,(zh7 b a.1).aA,a.2.2.2.1,a.2.2.2.2.1,()))<|some [aT .kept b])) (0,(zej c).ay,(zej c).aA,[],[],()))
def zPS:=zq [(178,0,{n:=17,tm:=[(1,.lp 0 0),(2,.lp 1 0),(3,ti)],lo:=[(0,[.sl 0 [],.sl 1 []]),(1,[.sl 2 [],.sl 3 []])],ro:=[(0,.bool,true),(1,.slot,true),(2,.bool,true),(3,.slot,true)]})]
def zOx (a:az)(g:ze8 a=true):∃N,zCz N a=some [aT .kept<|zyF a]:=by
 have d:=zM.1 g;have f:=zcc d.1;refine zb2 λN c=>?_;unfold zCz oN;conv=>zeta
 refine i0 (zbr<|(zzh _).2 d) ?_;refine(zha a.ay.length (λi (k:az)=>((i:Int),k.ay,k.aA,[],[],())) _ (λi k=>SmK k/\k.ay.length=a.ay.length) (λi k=>some [AV.agg<|Ty.cells .kept<|zkz (a.ay.length-i) i k]) (λi k rec e b h=>?_) (λk rec b=>?_) N 0 a ⟨d,rfl⟩ (jN _)<|c f.1).trans rfl;{refine i0 (zbo (by rw[b.2];exact e)) (i0 (zbg b.1) ?_);have q:=h (zca k (i:Int)) ⟨zrB b.1,by rw[z4k];exact b.2⟩;rw[show a.ay.length-i=a.ay.length-(i+1)+1 by omega];rw[zY e f.1];exact q};{refine zcB (by show ilt (a.ay.length:Int) (ln k.ay)=false;rw[ln,b.2];exact qI (by omega)) ?_;rw[kH];rfl}
def zG4:vU 178 zxI:=kF1 zTx zA zb9 zdQ zPS zOx
def z6A:zZ:=[(178,zxI)]++z6z
def zTy:zS z6A:=zh zG4 zTx
def zw1:Nat->Nat->List az->List az
 | 0,_,l=>l
 |n+1,j,l=>zw1 n (j+1) (up l (j:Int)<|zld<|ix l (j:Int) kZ)
def zw2 (x:Mon)(n j:Nat):Mon:={x with am:=zw1 n j x.am}
def zpW:Nat->Nat->List Mon->List Mon
 | 0,_,t=>t
 |n+1,i,t=>zpW n (i+1) (up t (i:Int)<|zw2 (ix t (i:Int) mZ) (ix t (i:Int) mZ).am.length 0)
def cold (h:ad):ad:=⟨h.ag,zpW h.aa.length 0 h.aa,[],[]⟩
def zPq:∀(n j:Nat) (l:List az),j+n<=l.length->zEv l->zEv (zw1 n j l)
 | 0,_,_,_,h=>h
 |n+1,j,l,b,h=>by have a:j<l.length:=(by omega);refine zPq n (j+1) _ (by rw[zid];omega) (zAs h<|zyV _ _ _ ?_);rw[zbh a];exact h.2 _ (jE a)
def zPs {x:Mon}(h:zgs x){n j:Nat}(a:j+n<=x.am.length):zgs (zw2 x n j):=⟨h.1,h.2.1,h.2.2.1,h.2.2.2.1,h.2.2.2.2.1,zPq n j _ a h.2.2.2.2.2⟩
@[simp] abbrev zZl (h:ad):ad:=cold h
def zO1:Run:=rF1 dH λb=>(zbn b,[aH<|zZl b])
def zWA (N:Nat)(d:ad):OA:=
 (oN (zbn d)<|r0 (σ:=(Int×lM×lN×lE×lE×lM×lN×lE×lE×Unit)) N (λg b=>cond (ilt b.1<|ln b.2.2.1) (r0 (σ:=(Int×Int×lM×lN×lE×lE×lM×lN×lE×lE×Unit)) N (λh a=>let b:=a.2.2.2.2.2;let e:=inb a.1<|ln a.2.2.2.1;let c:=ix a.2.2.2.1 a.1 zi;let f:=ix c.am a.2.1 ze0; (oN e<|cond (ilt a.2.1<|ln c.am) (oN e<|oN e<|oN (inb a.2.1<|ln c.am)<|oN (ze8 f)<|oN (inb a.2.1<|ln c.am)<|p0 (up a.2.2.2.1 a.1 ({c with am:=(up c.am a.2.1<|zyF f)}:Mon)) λi=>h (a.1,zI .i64 a.2.1 1,a.2.2.1,i,a.2.2.2.2.1,b.1,b.2.1,b.2.2.1,b.2.2.2.1,b.2.2.2.2.1,()))<|g (zI .i64 a.1 1,a.2.2.1,a.2.2.2.1,a.2.2.2.2.1,b.1,b.2.1,b.2.2.1,b.2.2.2.1,b.2.2.2.2.1,()))) (b.1,0,b.2.1,b.2.2.1,b.2.2.2.1,b.2.2.2.2.1,b.2.2.2.2.2.1,b.2.2.2.2.2.2.1,b.2.2.2.2.2.2.2.1,b.2.2.2.2.2.2.2.2.1,()))<|some [aH (⟨b.2.1,b.2.2.1,[],[]⟩:ad)]) (0,(zn d).ag,(zn d).aa,(zn d).ao,(zn d).ak,[],[],[],[],()))
def z5S:=zq [(58,0,{n:=48,tm:=[(1,.lp 0 0),(2,.lp 1 0),(3,ti)],lo:=[(0,[.sl 0 [],.sl 1 [],.sl 2 [],.sl 3 []]),(1,[.sl 4 [],.sl 5 [],.sl 6 [],.sl 7 []])],ro:=[(0,.sl .int,true),(1,.mon,true),(2,.entry,true),(3,.entry,true),(4,.sl .int,true),(5,.mon,true),(6,.entry,true),(7,.entry,true)]}),(58,2,{n:=48,tm:=[(1,.lp 0 0),(2,.lp 1 0),(3,ti),(4,ti)],lo:=[(0,[.sl 0 [],.sl 1 [],.sl 2 [],.sl 3 []]),(1,[.sl 4 [],.sl 5 [],.sl 6 [],.sl 7 []])],ro:=[(0,.sl .int,true),(1,.mon,true),(2,.entry,true),(3,.entry,true),(4,.sl .int,true),(5,.mon,true),(6,.entry,true),(7,.entry,true)]})]
def z4J (a:ad)(m:zbn a=true):∃N,zWA N a=some [aH<|zZl a]:=by
 have v:=(zT a).1 (zM.1 m);have s:=zcc v.2.1.1;refine zb2 λN f=>?_;unfold zWA oN;conv=>zeta
 refine i0 m ?_;refine(zha a.aa.length (λi (t:List Mon)=>((i:Int),a.ag,t,a.ao,a.ak,[],[],[],[],())) _ (λi t=>ztj t/\t.length=a.aa.length) (λi t=>some [AV.agg<|zbt ⟨a.ag,zpW (a.aa.length-i) i t,[],[]⟩]) (λi t rec n e x=>?_) (λt rec e=>?_) N 0 a.aa ⟨v.2.1,rfl⟩ (jN _)<|f s.1).trans rfl
 .have hit:i<t.length:=(by rw[e.2];exact n);have l:zgs (ix t (i:Int) mZ):=by rw[zbh hit];exact e.1.2 _ (jE hit)
  have r:=zcc l.2.2.2.2.2.1;refine i0 (zbo hit) ?_;refine(zha (ix t (i:Int) mZ).am.length (λj (u:List Mon)=>((i:Int),(j:Int),a.ag,u,a.ao,a.ak,[],[],[],[],()))
   _ (λj u=>u.length=t.length/\zgs (ix u (i:Int) mZ)/\(ix u (i:Int) mZ).am.length=(ix t (i:Int) mZ).am.length)
   (λj u=>rec (((i+1:Nat):Int),a.ag,up u (i:Int)<|zw2 (ix u (i:Int) mZ) ((ix t (i:Int) mZ).am.length-j) j,a.ao,a.ak,[],[],[],[],()))
   (λj u h p c k=>?_) (λu h c=>?_) N 0 t ⟨rfl,l,rfl⟩ (jN _) (f r.1)).trans ?_
  .have b:i<u.length:=(by rw[c.1];exact hit);have d:j<(ix u (i:Int) mZ).am.length:=(by rw[c.2.2];exact p);have g:SmK (ix (ix u (i:Int) mZ).am (j:Int) kZ):=by rw[zbh d];exact c.2.1.2.2.2.2.2.2 _ (jE d)
   refine i0 (zX b) (i0 (zbo d)<|i0 (zX b)<|i0 (zX b)<|i0 (zX d)<|i0 (zbg g)<|i0 (zX d)<|shr ?_);have w:zgs {ix u (i:Int) mZ with am:=up (ix u (i:Int) mZ).am (j:Int) (zld<|ix (ix u (i:Int) mZ).am (j:Int) kZ)} :=
    ⟨c.2.1.1,c.2.1.2.1,c.2.1.2.2.1,c.2.1.2.2.2.1,c.2.1.2.2.2.2.1,zAs c.2.1.2.2.2.2.2<|zyV _ _ _ g⟩
   have q:=k (up u (i:Int) {ix u (i:Int) mZ with am:=up (ix u (i:Int) mZ).am (j:Int) (zld<|ix (ix u (i:Int) mZ).am (j:Int) kZ)}) ⟨by rw[zid];exact c.1,by rw[zev b];exact w,by rw[zev b];simp only[zid];exact c.2.2⟩;rw[zY p r.1];refine q.trans ?_;rw[zev b,zx8,show (ix t (i:Int) mZ).am.length-j=(ix t (i:Int) mZ).am.length-(j+1)+1 by omega];rfl
  {have b:i<u.length:=(by rw[c.1];exact hit);refine i0 (zX b) (zcB (by show ilt ((ix t (i:Int) mZ).am.length:Int) (ln (ix u (i:Int) mZ).am)=false;rw[ln,c.2.2];exact qI (by omega)) ?_);rw[zY n s.1,kH];show rec (_,a.ag,u,_)=rec (_,a.ag,up u (i:Int)<|ix u (i:Int) mZ,_);rw[zAz b]};{have q:=x (up t (i:Int)<|zw2 (ix t (i:Int) mZ) (ix t (i:Int) mZ).am.length 0) ⟨zk9 e.1<|zPs l (by omega),by rw[zid];exact e.2⟩;refine q.trans ?_;rw[show a.aa.length-i=a.aa.length-(i+1)+1 by omega];rfl}
 {refine zcB (by show ilt (a.aa.length:Int) (ln t)=false;rw[ln,e.2];exact qI (by omega)) ?_;rw[kH];rfl}
def zXO:vU 58 zO1:=kF1 zTy zA zb9 zdQ z5S z4J
def z6B:zZ:=[(58,zO1)]++z6A
def z6C:zS z6B:=zh zXO zTy
def z6D:zZ:=z6B
def zTz:zS z6D:=z6C
def zDs:∀(n i:Nat) (t:List Mon),i+n<=t.length->ztj t->ztj (zpW n i t)
 | 0,_,_,_,h=>h
 |n+1,i,t,b,h=>by have a:i<t.length:=(by omega);refine zDs n (i+1) _ (by rw[zid];omega) (zk9 h<|zPs ?_ (by omega));rw[zbh a];exact h.2 _ (jE a)
def zbaJ {h:ad}(a:SmH h):SmH (cold h):=⟨a.1,zDs _ _ _ (by omega) a.2.1,by simp[cold],by simp[cold]⟩
def zpo {h:ad}{m:Int}{b:ai}(c:SmH h)(d:zdf h m=true->SmB b):SmH (zjg h m b):=by unfold zjg;cases a:zdf h m;{exact c};{exact zLu c (zc1.1 a).2 (d a).2.1}
def z8y {h:ad}{m g p:Int}(c:SmH h):SmH (zmE h m g p):=by unfold zmE;cases e:zdf h m;{exact c};{cases l:zcA (zD h m) g (j0 p 4);{exact c};{have d:=(zc1.1 e).2;have f:=zB2 c d;have k:SmB (chg (zD h m) g (j0 p 4)<|zeE (gAt (zD h m) g) p):=zsi f (zPm _<|zjX _ f);have b:=zLu c d k.2.1;have i:=zWQ (chg (zD h m) g (j0 p 4)<|zeE (gAt (zD h m) g) p) d;have j:=zTG c e (chg (zD h m) g (j0 p 4)<|zeE (gAt (zD h m) g) p) l;have a:=b.2.1.2 _ (zbN i mZ);simp only[cT];exact⟨b.1,zk9 b.2.1 ⟨a.1,a.2.1,a.2.2.1,a.2.2.2.1,a.2.2.2.2.1,zAs a.2.2.2.2.2<|zrB<|a.2.2.2.2.2.2 _<|zbN j _⟩,qT (zBa _ _ _) b.2.2.1,qT (zBa _ _ _) b.2.2.2⟩}}
def zbaK {h:ad}{m p c v:Int}(e:SmH h):SmH (zpa h m p c v):=by unfold zpa;cases a:zgx h m p c v;{exact e};{have f:zc0 h m p=true:=(by unfold zgx at a;cases b:zc0 h m p;{rw [b]at a;cases a};{rfl});obtain⟨g,i,b⟩:=zl4.1 f;have d:=(zwF (n:=2) (zgw e g) i b).1.1;exact⟨zB4 d.1,d.2⟩}
def zYK {h:ad}{m g c a:Int}(b:List ar)(i:Bool)(f:SmH h)(d:zb8 h m g c a=true):SmH (lookOf h b m g c a i).1:=by have hg:zbW h m g=true:=(by unfold zb8 at d;cases e:zbW h m g;{rw [e]at d;cases d};{rfl});exact(zvo f hg).shape.1
def zbed {h:ad}{m g a v:Int}(e:SmH h):SmH (zrV h m g a v):=by unfold zrV;cases b:ziq h m g a v;{exact e};{have f:zb8 h m g (zbs a) 2=true:=(by unfold ziq at b;cases c:zk a 0 15;{rw [c]at b;cases b};{cases d:zk v 0 99;{rw [c,d]at b;cases b};{rw [c,d]at b;exact b}});have c:=zYK h.ak true e f;exact⟨zB4 c.1,c.2⟩}
def zbaL {h:ad}{m g a:Int}(d:SmH h):SmH (zpb h m g a):=by unfold zpb;cases b:zhj h m g a;{exact d};{have e:zb8 h m g (zbs a) 1=true:=(by unfold zhj at b;cases c:zk a 0 15;{rw [c]at b;cases b};{rw [c]at b;exact b});exact zYK h.ak true d e}
def zbee {h:ad}{m p:Int}(a:SmH h):SmH (zr0 h m p):=by unfold zr0;cases b:zc0 h m p;{exact a};{obtain⟨c,d,e⟩:=zl4.1 b;cases zmi h m p;{exact(zPf (zgw a c).1 d).1};{exact a}}
def zbfh {h:ad}{m p:Int}(a:SmH h):SmH (zv9 h m p):=by unfold zv9;cases b:zc0 h m p;{exact a};{obtain⟨c,d,e⟩:=zl4.1 b;cases zmi h m p;{exact a};{exact(zlS (zgw a c) d e).1.1}}
def z8C {h:ad}{m t:Int}(a:SmH h):SmH (zlB h m t):=by unfold zlB;cases zcr h;{exact a};{cases c:j0 m (ln h.aa);{exact a};{cases zk t 0 3;{exact a};{have b:zgs (ix h.aa m mZ):=a.2.1.2 _ (zbN c mZ);exact⟨a.1,zk9 a.2.1 ⟨b.1,b.2.1,b.2.2.1,b.2.2.2.1,b.2.2.2.2.1,b.2.2.2.2.2⟩,a.2.2⟩}}}
def zv0 (h:ad)(a:GAct):ad:=bif ieq a.Kind 1 then (zbz h a.M a.G).1 else (cond (ieq a.Kind 2) (zol h a.M a.G a.X ⟨a.Y,a.Z⟩)<|cond (ieq a.Kind 3) (zmE h a.M a.G a.X)<|cond (ieq a.Kind 4) (zkI h a.M a.G a.X)<|cond (ieq a.Kind 5) (zkM h a.M a.G)<|cond (ieq a.Kind 6) (zkK h a.M a.G a.X)<|cond (ieq a.Kind 7) (zoj h a.M a.G ⟨a.X,a.Y,ieq a.Z 1⟩)<|cond (ieq a.Kind 8) (zpa h a.M a.X a.Y a.Z)<|cond (ieq a.Kind 9) (zmJ h a.M a.X)<|cond (ieq a.Kind 10) (zog h a.M)<|cond (ieq a.Kind 11) (zrV h a.M a.G a.X a.Y)<|zpb h a.M a.G a.X)
def zFg (h:ad)(a:GAct):aE:=bif ieq a.Kind 1 then ⟨(zbz h a.M a.G).2,0⟩ else (cond (ieq a.Kind 2) ⟨zom h a.M a.G a.X ⟨a.Y,a.Z⟩,0⟩<|cond (ieq a.Kind 3) ⟨zlI h a.M a.G a.X,0⟩<|cond (ieq a.Kind 4) ⟨zkJ h a.M a.G a.X,0⟩<|cond (ieq a.Kind 5) ⟨zkN h a.M a.G,0⟩<|cond (ieq a.Kind 6) ⟨zkL h a.M a.G a.X,0⟩<|cond (ieq a.Kind 7) ⟨zok h a.M a.G ⟨a.X,a.Y,ieq a.Z 1⟩,0⟩<|cond (ieq a.Kind 8) ⟨zgx h a.M a.X a.Y a.Z,0⟩<|cond (ieq a.Kind 9) ⟨zmK h a.M a.X,0⟩<|cond (ieq a.Kind 10) ⟨zoi h a.M,zoh h a.M⟩<|cond (ieq a.Kind 11) ⟨ziq h a.M a.G a.X a.Y,0⟩<|⟨zhj h a.M a.G a.X,ztz h a.M a.G a.X⟩)
def zop (h:ad)(a:GAct):ad:=bif ieq a.Kind 13 then zr0 h a.M a.X else (cond (ieq a.Kind 14) (zv9 h a.M a.X)<|cond (ieq a.Kind 15) (zvS h a.M a.X)<|cond (ieq a.Kind 16) (zlB h a.M a.X)<|cold h)
def zON (h:ad)(a:GAct):aE:=bif ieq a.Kind 13 then ⟨zFE h a.M a.X,0⟩ else (cond (ieq a.Kind 14) ⟨zLc h a.M a.X,0⟩<|cond (ieq a.Kind 15) ⟨zc0 h a.M a.X,0⟩<|cond (ieq a.Kind 16) ⟨zB0 h a.M a.X,0⟩<|⟨true,0⟩)
def zfF (h:ad)(a:GAct):ad:=bif zk a.Kind 1 17 then (cond (zk a.Kind 13 17) (zop h a)<|zv0 h a) else h
def zli (h:ad)(a:GAct):aE:=bif zk a.Kind 1 17 then (cond (zk a.Kind 13 17) (zON h a)<|zFg h a) else ⟨false,0⟩
def z8B {h:ad}{a:GAct}(b:SmH h):SmH (zop h a):=by unfold zop;cases ieq a.Kind 13;{cases ieq a.Kind 14;{cases ieq a.Kind 15;{cases ieq a.Kind 16;{exact zbaJ b};{exact z8C b}};{exact z8z b}};{exact zbfh b}};{exact zbee b}
def z8A {h:ad}{a:GAct}(c:SmH h):SmH (zv0 h a):=by have d:zdf h a.M=true->SmB (zD h a.M):=λb=>zB2 c (zc1.1 b).2;unfold zv0;cases ieq a.Kind 1;{cases ieq a.Kind 2;{cases ieq a.Kind 3;{cases ieq a.Kind 4;{cases ieq a.Kind 5;{cases ieq a.Kind 6;{cases ieq a.Kind 7;{cases ieq a.Kind 8;{cases ieq a.Kind 9;{cases ieq a.Kind 10;{cases ieq a.Kind 11;{exact zbaL c};{exact zbed c}};{exact zpo c (λb=>z2Z (d b))}};{exact zpo c (λb=>zZJ _ (d b))}};{exact zbaK c}};{exact zpo c (λb=>z3a _ _ (d b))}};{exact zpo c (λb=>zPi _ _ (d b))}};{exact zpo c (λb=>zPj _ (d b))}};{exact zpo c (λb=>zPh _ _ (d b))}};{exact z8y c}};{exact zpo c (λb=>z3b _ _ _ (d b))}};{exact(zUe a.M a.G c).sm}
def z3f {h:ad}{a:GAct}(b:SmH h):SmH (zfF h a):=by unfold zfF;cases zk a.Kind 1 17;{exact b};{cases zk a.Kind 13 17;{exact z8A b};{exact z8B b}}
@[simp] abbrev zjc (h:ad)(a:GAct):Bool:=pc (zdx h)
@[simp] abbrev zm8 (h:ad)(a:GAct):ad:=zop h a
@[simp] abbrev zk2 (h:ad)(a:GAct):aE:=zON h a
def zAl:Run:=rF2 dH (dT .act) λb c=>(zjc b c,[aH<|zm8 b c,aT .told<|zk2 b c])
def zEu (N:Nat)(c:ad)(a:GAct):OA:=
 (cond (ieq a.Kind 13) (oN (zjQ c a.M a.X)<|some [aH<|zsW c a.M a.X,.agg [.b<|zsX c a.M a.X,.i .i64 0]])<|cond (ieq a.Kind 14) (oN (zjQ c a.M a.X)<|some [aH<|zu7 c a.M a.X,.agg [.b<|zu8 c a.M a.X,.i .i64 0]])<|cond (ieq a.Kind 15) (oN (zjQ c a.M a.X)<|some [aH<|zxQ c a.M a.X,.agg [.b<|zgP c a.M a.X,.i .i64 0]])<|cond (ieq a.Kind 16) (oN (zwA c a.M a.X)<|some [aH<|zq5 c a.M a.X,.agg [.b<|zq6 c a.M a.X,.i .i64 0]])<|oN (zbn c)<|some [aH<|zZl c,.agg [.b true,.i .i64 0]])
def zR7 (a:ad)(b:GAct)(c:zjc a b=true):∃N,zEu N a b=some [aH<|zm8 a b,aT .told<|zk2 a b]:=by have d:=zM.1 c;refine⟨0,?_⟩;unfold zEu oN;refine br (λ_=>mu ?_) (λ_=>br (λ_=>mu ?_) λ_=>br (λ_=>mu ?_) λ_=>br (λ_=>mu ?_) λ_=>mu ?_);all_goals first|rfl|(simp only [*,zm8,zk2,zop,zON,cT,cF]<;>rfl)|simp_all[Ty.cells,zm8,zk2,zop,zON]
def zKO:vU 140 zAl:=kF2 zTz zA zb9 zdQ (zq []) zR7
def z6E:zZ:=[(140,zAl),(42,zIY),(40,zDa),(38,zIZ)]++z6D
def zTA:zS z6E:=zh zKO (zh zUE<|zh zNw<|zh zUF zTz)
@[simp] abbrev zot (h:ad)(a:GAct):ad:=zfF h a
@[simp] abbrev zou (h:ad)(a:GAct):aE:=zli h a
def zug:Run:=rF2 dH (dT .act) λb c=>(zjc b c,[aH<|zot b c,aT .told<|zou b c])
def zIb (N:Nat)(c:ad)(a:GAct):OA:=
 let d:=(⟨a.Y,a.Z⟩:k0); (oN (zpB a)<|cond (nB<|zAm a) (oN (zbn c)<|some [aH<|zn c,.agg [.b false,.i .i64 0]])<|oN (zyK a.Kind)<|cond (ztI a.Kind) (oN (zjc c a)<|some [aH<|zm8 c a,.agg [.b (zk2 c a).Ok,.i .i64 (zk2 c a).N]])<|cond (ieq a.Kind 1) (oN (zc4 c a.M a.G)<|some [aH<|zcm c a.M a.G,.agg [.b<|zcn c a.M a.G,.i .i64 0]])<|cond (ieq a.Kind 2) (oN (zyJ c a.M a.G a.X d)<|some [aH<|zol c a.M a.G a.X d,.agg [.b<|zom c a.M a.G a.X d,.i .i64 0]])<|cond (ieq a.Kind 3) (oN (zuo c a.M a.G a.X)<|some [aH<|zoT c a.M a.G a.X,.agg [.b<|zlI c a.M a.G a.X,.i .i64 0]])<|cond (ieq a.Kind 4) (oN (zsb c a.M a.G a.X)<|some [aH<|zkI c a.M a.G a.X,.agg [.b<|zkJ c a.M a.G a.X,.i .i64 0]])<|cond (ieq a.Kind 5) (oN (zsd c a.M a.G)<|some [aH<|zkM c a.M a.G,.agg [.b<|zkN c a.M a.G,.i .i64 0]])<|cond (ieq a.Kind 6) (oN (zsc c a.M a.G a.X)<|some [aH<|zkK c a.M a.G a.X,.agg [.b<|zkL c a.M a.G a.X,.i .i64 0]])<|cond (ieq a.Kind 7) (oN (zpB a)<|oN (zyG c a.M a.G<|zr9 a)<|some [aH<|zoj c a.M a.G<|zr9 a,.agg [.b<|zok c a.M a.G<|zr9 a,.i .i64 0]])<|cond (ieq a.Kind 8) (oN (zww c a.M a.X a.Y a.Z)<|some [aH<|zqX c a.M a.X a.Y a.Z,.agg [.b<|zqY c a.M a.X a.Y a.Z,.i .i64 0]])<|cond (ieq a.Kind 9) (oN (zwx c a.M a.X)<|some [aH<|zmJ c a.M a.X,.agg [.b<|zmK c a.M a.X,.i .i64 0]])<|cond (ieq a.Kind 10) (oN (zfG c a.M)<|some [aH<|zog c a.M,.agg [.b<|zoi c a.M,.i .i64<|zoh c a.M]])<|cond (ieq a.Kind 11) (oN (zyH c a.M a.G a.X a.Y)<|some [aH<|zsU c a.M a.G a.X a.Y,.agg [.b<|zsV c a.M a.G a.X a.Y,.i .i64 0]])<|oN (zwy c a.M a.G a.X)<|some [aH<|zqZ c a.M a.G a.X,.agg [.b<|zq1 c a.M a.G a.X,.i .i64<|zq0 c a.M a.G a.X]])
def zVi (a:ad)(b:GAct)(c:zjc a b=true):∃N,zIb N a b=some [aH<|zot a b,aT .told<|zou a b]:=by
 have d:=zM.1 c;refine⟨0,?_⟩;unfold zIb oN nB;conv=>zeta
 refine i0 rfl (brN (λ_=>mu ?_) λ_=>i0 rfl (br (λ_=>mu ?_) λ_=>br (λ_=>mu ?_) λ_=>br (λ_=>mu ?_) λ_=>br (λ_=>mu ?_) λ_=>br (λ_=>mu ?_) λ_=>br (λ_=>mu ?_) λ_=>br (λ_=>mu ?_) λ_=>br (λ_=>i0 rfl (mu ?_)) λ_=>br (λ_=>mu ?_) λ_=>br (λ_=>mu ?_) λ_=>br (λ_=>mu ?_) λ_=>br (λ_=>mu ?_) λ_=>mu ?_));all_goals first|rfl|(simp only [*,zot,zou,zfF,zli,zv0,zFg,cT,cF]<;>rfl)|simp_all[Ty.cells,zot,zou,zfF,zli,zv0,zFg]
def zxk:vU 31 zug:=kF2 zTA zA zb9 zdQ (zq []) zVi
def z6F:zZ:=[(31,zug)]++z6E
def zTB:zS z6F:=zh zxk zTA
def zFK:List GAct->ad×List aE->ad×List aE
 |[],u=>u
 |a::l,u=>zFK l (zfF u.1 a,ap u.2 [zli u.1 a])
def zBn (a:List (List<|List Ins))(l:List GAct):ad×List aE:=zFK (l.take 80) (zgJ a,[])
abbrev HSt:Type:=(List aE)×(List<|LI)×(List Mon)×(List ar)×(List ar)
def hOf (t:HSt):ad:=⟨t.2.1,t.2.2.1,t.2.2.2.1,t.2.2.2.2⟩
def tOf (u:ad×List aE):HSt:=(u.2,u.1.ag,u.1.aa,u.1.ao,u.1.ak)
def zBD (t:HSt):OA:=some [AV.agg<|zbt<|hOf t,AV.one<|.s .told t.1]
def z3g {e:List (List<|List Ins)}(h:zMw e):SmH (zgJ e):=by refine⟨show SmM z4L from ⟨by decide,by decide⟩,⟨?_,?_⟩,by simp[zgJ],by simp[zgJ]⟩;{simp only [zgJ,uR,vQ];omega};{intro x d;simp only[zgJ,jH]at d;obtain⟨p,f,rfl⟩:=d;have b:=h.2 p (jX f);refine⟨show zwH.length<=1048576 by decide,show SmM zSb from ⟨by decide,by decide⟩,show (rp 8 false).length<=1048576 by decide,⟨?_,?_⟩,by simp[zic],⟨?_,?_⟩⟩;{simp only [zic,uR,vQ];omega};{intro y a;simp only[zic,jH]at a;obtain⟨q,c,rfl⟩:=a;exact⟨b.2 q<|jX c,show zna.length<=1048576 by decide,show zna.length<=1048576 by decide,by simp[zfZ]⟩};{simp only [zic,uR,vQ];omega};{intro y a;simp only[zic,jH]at a;obtain⟨q,c,rfl⟩:=a;exact⟨show (rp 4 false).length<=1048576 by decide,show zna.length<=1048576 by decide⟩}}
def zIJ {c:ad->GAct->Bool}(d:∀h a,SmH h->c h a=true)(m:Nat):∀(l:List GAct) (i:Nat) (u:ad×List aE),SmH u.1->u.2.length+l.length<=2147483648->
 goL (λ(i:Nat) x (t:HSt) n=>bif ilt (i:Int) (m:Int) then (cond (c (hOf t) x) (cond (few<|ln<|ap t.1 [zli (hOf t) x]) (n (ap t.1 [zli (hOf t) x],(zfF (hOf t) x).ag,(zfF (hOf t) x).aa,(zfF (hOf t) x).ao,(zfF (hOf t) x).ak)) none) none) else zBD t) zBD l i (tOf u)=zBD (tOf<|zFK (l.take<|m-i) u)
 |[],i,u,_,_=>by simp[goL,zFK]
 |a::l,i,u,e,k=>by simp only[qU]at k;have g:few (ln<|ap u.2 [zli u.1 a])=true:=zgv (by simp[ap];omega);have j:hOf (tOf u)=u.1:=rfl;have f:(tOf u).1=u.2:=rfl;by_cases h:i<m;{have b:ilt (i:Int) (m:Int)=true:=qH (by omega);simp only[goL,b,j,f,g,d _ _ e,cT];refine(zIJ d m l (i+1) (zfF u.1 a,ap u.2 [zli u.1 a]) (z3f e) (by simp[ap];omega)).trans ?_;rw[show m-i=m-(i+1)+1 by omega];rfl};{have b:ilt (i:Int) (m:Int)=false:=qI (by omega);simp only[goL,b,cF];rw[show m-i=0 by omega];rfl}
@[simp] abbrev zwv (a:List (List<|List Ins))(l:List GAct):Bool:=pc (zMw a/\l.length<=1048576)
@[simp] abbrev zwu (a:List (List<|List Ins))(l:List GAct):ad:=(zBn a l).1
@[simp] abbrev zFV (a:List (List<|List Ins))(l:List GAct):List aE:=(zBn a l).2
def zAc:Run:=rF2 (dS<|.sl<|.sl .ins) (dS .act) λb c=>(zwv b c,[aH<|zwu b c,aS .told<|zFV b c])
def zEe (N:Nat)(b:lQ)(g:lA):OA:=
 (oN (zyI b)<|r0 (σ:=(Int×lA×lT×lM×lN×lE×lE×lM×lN×lE×lE×Unit)) N (λh a=>let b:=a.2.2.2.2.2;let e:=ix a.2.1 a.1 zbfX;let c:=(⟨b.2.2.1,b.2.2.2.1,b.2.2.2.2.1,b.2.2.2.2.2.1⟩:ad);let f:=ap a.2.2.1 [zou c e];let d:=zot c e; (cond (ilt a.1<|ln a.2.1) (cond (ilt a.1 80) (oN (inb a.1<|ln a.2.1)<|oN (zjc c e)<|oN (few<|ln f)<|h (zI .i64 a.1 1,a.2.1,f,a.2.2.2.1,a.2.2.2.2.1,b.1,b.2.1,d.ag,d.aa,d.ao,d.ak,()))<|some [aH c,aS .told a.2.2.1])<|some [aH c,aS .told a.2.2.1])) (0,g,[],[],[],[],[],(ziy b).ag,(ziy b).aa,(ziy b).ao,(ziy b).ak,()))
def zSD:=zq [(235,0,{n:=39,tm:=[(1,.sl 0 []),(4,.lp 0 0),(6,.lp 1 0),(7,.sl 1 []),(8,ti)],lo:=[(0,[.sl 2 [],.sl 3 [],.sl 4 [],.sl 5 []]),(1,[.sl 6 [],.sl 7 [],.sl 8 [],.sl 9 []])],ro:=[(0,.act,false),(1,.told,true),(2,.sl .int,true),(3,.mon,true),(4,.entry,true),(5,.entry,true),(6,.sl .int,true),(7,.mon,true),(8,.entry,true),(9,.entry,true)]})]
def zRR (b:List lP)(c:List GAct)(k:zwv b c=true):∃N,zEe N b c=some [aH<|zwu b c,aS .told<|zFV b c]:=by
 obtain⟨j,g⟩:=zM.1 k;have f:=zcc g;refine zb2 λN e=>?_;unfold zEe oN;conv=>zeta
 refine i0 (zbg j) ?_;refine(zbl c (λi (t:lT×lM×lN×lE×lE)=>((i:Int),c,t.1,[],[],[],[],t.2.1,t.2.2.1,t.2.2.2.1,t.2.2.2.2,())) _ (λi (x:GAct) (t:HSt) m=>bif ilt (i:Int) ((80:Nat):Int) then (cond (zjc (hOf t) x) (cond (few<|ln<|ap t.1 [zli (hOf t) x]) (m (ap t.1 [zli (hOf t) x],(zfF (hOf t) x).ag,(zfF (hOf t) x).aa,(zfF (hOf t) x).ao,(zfF (hOf t) x).ak)) none) none) else zBD t) (λ(t:lT×lM×lN×lE×lE)=>some [.agg<|zbt (⟨t.2.1,t.2.2.1,t.2.2.2.1,t.2.2.2.2⟩:ad),.one<|.s .told t.1]) (λi d t rec=>?_) (λt rec=>?_) _ ([],(ziy b).ag,(ziy b).aa,(ziy b).ao,(ziy b).ak)<|e f.1).trans ?_;{simp only [zbo d,zX d,zbh d,zY d f.1,cT];rfl};{simp only [zbj,cF]};exact zIJ (λh a l=>zbg ((zT h).2 l)) 80 c 0 (zgJ b,[]) (z3g j) (by simpa using f.2)
def zKq:vU 235 zAc:=kF2 zTB zA zb9 zdQ zSD zRR
def zXa:zZ:=[(235,zAc)]++z6F
def zyr:zS zXa:=zh zKq zTB
def zGg (h:ad):Prop:=∃a l,zMw a/\(1<=a.length/\∀p∈a,1<=p.length/\∀x∈p,zdN x=true)/\h=(zBn a l).1
def zLl {p:List Ins}(h:zdN p=true):p.length<=12:=by unfold zdN at h;cases a:p.all ze1 with|false=>rw[a]at h;cases h|true=>rw[a,cT]at h;have b:=(zf1.1 h).2;unfold ln at b;omega
def zyh (N:Nat)(c:Cur)  : OA :=
 let a:=({ (znY c) with b:=c.b}:Cur); (oN (zrv c)<|oN (zoz a 20)<|oN (zwv (zwD c)<|ztM a 20)<|some [.agg [.s .u8 c.b,.i .i64 (zoA a 20).i,.i .i64 (zoA a 20).h],aH<|zwu (zwD c)<|ztM a 20])
def zrx (c:Cur)(s:Cur)(a:ad):Prop:=(∃N,zyh N c=some (AV.agg (zb5 s)::[aH a]))/\(s.b=c.b/\0<=s.i)/\(zGg a)
def zgn (c:Cur)  : Bool:=wC (zrx c)
def zkh (c:Cur)  : Cur:=wS (zrx c)
def ziD (c:Cur)  : ad:=wV (zrx c)
def zyR {c:Cur}(h:zgn c=true):zrx c (zkh c) (ziD c):=wG h
def z1L (c:Cur)  : 0<=(zkh c).i:=wP λh=>h.2.1.2
def z1K (c:Cur)(h:∃N,Ends (wE (λa=>aH a) c.b λa=>zGg a)<|zyh N c):zgn c=true:=wI (λ_ _ h=>h) h
def zzZ:zeg:=rP0 λc=>(zgn c,zkh c,[aH<|ziD c])
def zNV:zbX Tryz.prog 99 [false,true,true] zzZ:=hP0 zyr zU zY4 zl (zq []) (λ_ h=>(zyR h).1)
def zN2 {c:Cur}(h:zbb c):zgn c=true:=by
 refine z1K c ⟨0,?_⟩;have e:zbb {znY c with b:=c.b}:=zbJ h (z5u _);have a:=(zPb<|zba1 h).2.2;have f:=(zJc<|z5X e (m:=20) (by omega) (by omega)).2.2;unfold zyh oN;conv=>zeta
 have i:(ztM {znY c with b:=c.b} 20).length<=65:=by unfold ln at f;omega
 have S:zMw (zwD c):=⟨by omega,λp d=>by
  have g:=a.2.2 p d;exact⟨by omega,λx j=>by have:=zLl (g.2.2 x j);omega⟩⟩
 exact zB (zba1 h) (zB (z5X e (by omega) (by omega))<|zB (zbg ⟨S,qT i (by decide)⟩)<|zbC aH (z1N _ _) ⟨_,_,S,⟨a.1,λp d=>⟨(a.2.2 p d).1,(a.2.2 p d).2.2⟩⟩,rfl⟩)
def z4Y:zcW:=[(99,[false,true,true],zzZ)]++zbcv
def zwb:zb7 z4Y:=zcq zY4 (by
 intro x a;simp only[qG,qM,or_false]at a;rcases a with rfl
 .exact zNV)
def zXB {f c b:Type}{G:b->Prop}{a:Nat->f->c->(c->Option b)->Option b}{K:c->Option b}(e:∀i x t g,(∀t,Ends G<|g t)->Ends G (a i x t g))(d:∀t,Ends G<|K t):∀(l:List f) (i:Nat) (t:c),Ends G (goL a K l i t)
 |[],i,t=>d t
 |x::l,i,t=>e i x t _ (λt=>zXB e d l (i+1) t)
def zpM (N:Nat)(c:LI):OA:=
 (r0 (σ:=(Int×Int×LI×lM×lN×lE×lE×Unit)) N (λd a=>let b:=(⟨a.2.2.1,0,a.1⟩:Cur); (cond (ilt a.2.1<|ln a.2.2.1) (cond (ilt a.2.1 4000) (oN (inb a.2.1<|ln a.2.2.1)<|d (wand .i64 (zI .i64 (zI .i64 (zk3 .i64 a.1 131)<|wcv .i64<|ix a.2.2.1 a.2.1 0) 7) 1073741823,zI .i64 a.2.1 1,a.2.2.1,a.2.2.2.1,a.2.2.2.2.1,a.2.2.2.2.2.1,a.2.2.2.2.2.2.1,()))<|oN (zgn b)<|some [aH<|ziD b])<|oN (zgn b)<|some [aH<|ziD b])) (zI .i64 94701<|ln c,0,c,[],[],[],[],()))
def zsl:=zq [(100,0,{n:=32,tm:=[(0,.sl 0 []),(3,ti),(4,ti)],lo:=[(0,[.sl 1 [],.sl 2 [],.sl 3 [],.sl 4 []])],ro:=[(0,.u8,false),(1,.sl .int,true),(2,.mon,true),(3,.entry,true),(4,.entry,true)],sk:=[(0,2,0,.lp 0 0)]})]
def zun (b:LI)(a:ad):Prop:=(∃N,zpM N b=some [aH a])/\(zGg a)
def zkS (a:LI):Bool:=uC (T:=ad) (λr=>zun a r)
def zZn (a:LI):ad:=uV (λr=>zun a r)
def zqV (a:LI):ad:=(zZn a)
def zFU {a:LI}(h:zkS a=true):zun a (zqV a):=uG h
def zZm (c:LI)(h:∃N,Ends (λa=>∃b,a=[aH b]/\(zGg b))<|zpM N c):zkS c=true:=by obtain⟨N,a,e,b,rfl,h⟩:=h;exact zbg ⟨b,⟨N,e⟩,h⟩
def zAb:Run:=rF1 (dS .u8) λb=>(zkS b,[aH<|zqV b])
def zRP (a:LI)(b:zkS a=true):∃N,zpM N a=some [aH<|zqV a]:=by exact(zFU b).1
def zKp:vU 10 zAb:=kF1 zyr zU zwb zl zsl zRP
def zMN {b:LI}(h:b.length<=big):zkS b=true:=by
 refine zZm b (zb2 λN e=>?_);unfold zpM oN;conv=>zeta
 have c:∀t,Ends (λa=>∃g,a=[aH g]/\zGg g) (cond (zgn ⟨b,0,t⟩) (some [aH<|ziD ⟨b,0,t⟩]) none):=λt=>
  have f:zbb ⟨b,0,t⟩:=⟨kF 0,h⟩
  zB (zN2 f) ⟨_,rfl,_,rfl,(zyR<|zN2 f).2.2⟩
 refine(congrArg (Ends _)<|zbl b (λi (t:Int)=>(t,(i:Int),b,[],[],[],[],())) _ (λi x (t:Int) j=>bif ilt (i:Int) 4000 then j (wand .i64 (zI .i64 (zI .i64 (zk3 .i64 t 131)<|wcv .i64 x) 7) 1073741823) else (cond (zgn ⟨b,0,t⟩) (some [aH<|ziD ⟨b,0,t⟩]) none)) (λ(t:Int)=>cond (zgn ⟨b,0,t⟩) (some [aH<|ziD ⟨b,0,t⟩]) none) (λi d t rec=>?_) (λt rec=>?_) N (zI .i64 94701<|ln b)<|e h).mpr ?_;{simp only [zbo d,zX d,zbh d,zY d h,cT]};{simp only [zbj,cF]};exact zXB (λi x t j k=>zby (λ_=>k _) λ_=>c t) c _ _ _
def z6k:zZ:=[(10,zAb)]++zXa
def z6l:zS z6k:=zh zKp zyr
instance:Inhabited k0:=⟨⟨0,0⟩⟩
instance:Inhabited ar:=⟨⟨0,0,0,0⟩⟩
instance:Inhabited aD:=⟨⟨0,0,false,0⟩⟩
instance:Inhabited ah:=⟨⟨[],0,0,[],[],⟨0,0,false⟩,0,⟨0,0,false,0⟩,false,[]⟩⟩
def zw0 {c:Cur}(h:zbb c){n m:Int}(a:0<n)(b:n<=m):inb (zo c n) m=true:=by have:=zfB h a;exact qH (by omega)
def zEB {c:Cur}(h:zbb c){n m:Int}(a:0<n)(b:n<=m+1):inr 0 (zo c n) m=true:=by have:=zfB h a;exact qH (by omega)
def zFx {a:Type}(l:List a)(n:Int):(tk l n).length<=l.length:=by simp[tk];omega
def zjF {a:Type}(l:List a)(n:Int)(x:a):(up l n x).length=l.length:=by simp[up]
def z90 {a:Type}(l:List a)(n:Int):ln (tk l n)<=ln l:=by have:=zFx l n;unfold ln;omega
def z92 {a:Type}(l:List a)(n:Int)(x:a):ln (up l n x)=ln l:=by unfold ln;rw[zjF]
def I64 (x:Int):Prop:=-9223372036854775808<=x/\x<=9223372036854775807
def zYP {f:Type}{c:Cur}(h:zbb c){P:f->Prop}{m:Int}(r:0<=m)(I:m<=1000){fc:Cur->Bool}{fs:Cur->Cur}{fv:Cur->f}(z:∀{c:Cur},zbb c->fc c=true)(C:∀c,0<=(fs c).i)(hg:∀{c:Cur},zbb c->P (fv c)){G:Ans->Prop}{R:Cur->List f->Ans}(w:∀s l,s.b=c.b->0<=s.i->ln l=m->(∀x∈l,P x)->G (R s l)){j:Type}(S:Int->Int×Int×List f->j){F:(j->OA)->j->OA}(v:∀rec t i k l,F rec (S t (i,k,l))=bif ilt t m then (cond (fc ⟨c.b,i,k⟩) (cond (few<|ln<|ap l [fv ⟨c.b,i,k⟩]) (rec<|S (zI .i64 t 1) ((fs ⟨c.b,i,k⟩).i,(fs ⟨c.b,i,k⟩).h,ap l [fv ⟨c.b,i,k⟩])) none) none) else some (R ⟨c.b,i,k⟩ l)):Ends G (r0 1002 F<|S 0 (c.i,c.h,[])):=by refine zjB (λn s=>∃t i k l,s=S t (i,k,l)/\t+(n:Int)=1000/\0<=t/\t<=m/\0<=i/\(∀x∈l,P x)/\ln l=t) ?_ 1002 1000 _ ⟨0,c.i,c.h,[],rfl,rfl,kF 0,r,h.1,by simp,rfl⟩ (by omega);rintro n s rec ⟨t,i,k,l,rfl,D,u,E,p,q,H⟩ d;rw[v];have a:zbb ⟨c.b,i,k⟩:=zbJ h p;refine zby (λg=>?_) (λg=>?_);{have B:t<m:=qD g;have J:=ziQ (y:=1) u (by omega) (by omega) (by omega);refine zB (z a) (zB (ziW (by rw[zgB];omega))<|d (n-1) _ (by omega) ⟨_,_,_,_,rfl,by omega,by omega,by omega,C _,?_,by rw[zgB];omega⟩);intro x e;rcases jC.1 e with e|e;{exact q x e};{rw [qF.1 e];exact hg a}};{have A:¬ t<m:=jQ g;exact zto (w _ l rfl p (by omega) q)}
def ztW (N:Nat)(c:Cur)  : OA :=
 let a:=zbd c [3,3,1,2,0,3,1,-1,4,9223372036854775807]; (oN (zbx c [3,3,1,2,0,3,1,-1,4,9223372036854775807])<|some [.agg [.s .u8 c.b,.i .i64 a.i,.i .i64 a.h],aI<|zbq c [3,3,1,2,0,3,1,-1,4,9223372036854775807]])
def znR (c:Cur)(s:Cur)(a:Int):Prop:=(∃N,ztW N c=some (AV.agg (zb5 s)::[aI a]))/\(s.b=c.b/\0<=s.i)/\(True)
def zlM (c:Cur)  : Bool:=wC (znR c)
def zlN (c:Cur)  : Cur:=wS (znR c)
def zsY (c:Cur)  : Int:=wV (znR c)
def zVJ {c:Cur}(h:zlM c=true):znR c (zlN c) (zsY c):=wG h
def zVL (c:Cur)  : 0<=(zlN c).i:=wP λh=>h.2.1.2
def zVK (c:Cur)(h:∃N,Ends (wE (λa=>aI a) c.b λa=>True)<|ztW N c):zlM c=true:=wI (λ_ _ h=>h) h
def zwd:zeg:=rP0 λc=>(zlM c,zlN c,[aI<|zsY c])
def zHh:zbX Tryz.prog 457 [false,true,true] zwd:=hP0 zeo zU zwb zl (zq []) (λ_ h=>(zVJ h).1)
def zbat {c:Cur}(h:zbb c):zlM c=true:=by
 refine zVK c ⟨0,?_⟩;unfold ztW oN;conv=>zeta
 exact zB (zfa h (by simp)) (zbC aI (zb1 _ _) trivial)
def zbcx:zcW:=[(457,[false,true,true],zwd)]++z4Y
def zY6:zb7 zbcx:=zcq zwb (by
 intro x a;simp only[qG,qM,or_false]at a;rcases a with rfl
 .exact zHh)
def zbbA:zZ:=[(215,zmV),(286,zjJ),(409,zkP),(411,zlJ)]++zJD
def ze4:zS zbbA:=zh zzw (zh zuC<|zh zvV<|zh zxl zeo)
def zyb (N:Nat)(c:Cur)(d:Int):OA:=
 let e:=({ (zV c 5) with b:=c.b}:Cur);let a:=({ (zf e d) with b:=c.b}:Cur); (oN (zc6 c 5)<|cond (zdo c 5) (oN zbR<|some [.agg [.s .u8 c.b,.i .i64 (zV c 5).i,.i .i64 (zV c 5).h],.agg [.i .i64 zbm.af,.i .i64 zbm.aj]])<|oN (zC e d)<|oN (zbx a [3,3,3,1,2])<|some [.agg [.s .u8 c.b,.i .i64 (zbd a [3,3,3,1,2]).i,.i .i64 (zbd a [3,3,3,1,2]).h],.agg [.i .i64<|zo e d,.i .i64<|zbq a [3,3,3,1,2]]])
def zrh (c:Cur)(a:Int)(s:Cur)(d:k0):Prop:=(∃N,zyb N c a=some (AV.agg (zb5 s)::[aT .slot d]))/\(s.b=c.b/\0<=s.i)/\(0<a->a<=1000->I64 d.af)
def zka (c:Cur)(a:Int):Bool:=wC (zrh c a)
def zhu (c:Cur)(a:Int):Cur:=wS (zrh c a)
def zgZ (c:Cur)(a:Int):k0:=wV (zrh c a)
def zyM {c:Cur}{a:Int}(h:zka c a=true):zrh c a (zhu c a) (zgZ c a):=wG h
def zI8 (c:Cur)(a:Int):0<=(zhu c a).i:=wP λh=>h.2.1.2
def z1C (c:Cur)(a:Int)(h:∃N,Ends (wE (λd=>aT .slot d) c.b λd=>0<a->a<=1000->I64 d.af)<|zyb N c a):zka c a=true:=wI (λ_ _ h=>h) h
def zzT:zeg:=rP1 dI λc b=>(zka c b,zhu c b,[aT .slot<|zgZ c b])
def zNJ:zbX Tryz.prog 456 [false,true,true] zzT:=hP1 ze4 zU zY6 zl (zq []) (λ_ _ h=>(zyM h).1)
def zPg {c:Cur}(h:zbb c)(a:Int):zka c a=true:=by
 refine z1C c a ⟨0,?_⟩;unfold zyb oN;conv=>zeta
 have d:zbb {zV c 5 with b:=c.b}:=zbJ h (zco _ _);have g:zbb {zf {zV c 5 with b:=c.b} a with b:=c.b}:=zbJ h (zG _ _);refine zB (zjH h 5) (zby (λ_=>zB rfl (zbC (aT .slot) (v:=⟨_,_⟩) (zco _ _) λ_ _=>?_)) λ_=>zB (zbw d a) (zB (zfa g (by simp))<|zbC (aT .slot) (v:=⟨_,_⟩) (zb1 _ _) λe f=>?_));{exact⟨by decide,by decide⟩};{have:=zfB d e;exact⟨Int.le_trans (by decide) this.1,Int.le_trans (vR this.2) (by omega)⟩}
def zbcy:zcW:=[(456,[false,true,true],zzT)]++zbcx
def zLg:zb7 zbcy:=zcq zY6 (by
 intro x a;simp only[qG,qM,or_false]at a;rcases a with rfl
 .exact zNJ)
def zAB (N:Nat)(c:Cur)(a:Int):OA:=
 let e:=({ (zhu c a) with b:=c.b}:Cur);let d:=({ (zf e 12) with b:=c.b}:Cur);let f:=zbd d [-1,-2,a,9223372036854775807,-9223372036854775808]; (oN (zka c a)<|oN (zC e 12)<|cond (ieq (zo e 12) 0) (oN (zbx d [-1,-2,a,9223372036854775807,-9223372036854775808])<|some [.agg [.s .u8 c.b,.i .i64 f.i,.i .i64 f.h],.agg [.i .i64<|zbq d [-1,-2,a,9223372036854775807,-9223372036854775808],.i .i64 (zgZ c a).aj]])<|cond (ieq (zo e 12) 1) (oN (zlM d)<|some [.agg [.s .u8 c.b,.i .i64 (zlN d).i,.i .i64 (zlN d).h],.agg [.i .i64 (zgZ c a).af,.i .i64<|zsY d]])<|some [.agg [.s .u8 c.b,.i .i64 (zf e 12).i,.i .i64 (zf e 12).h],.agg [.i .i64 (zgZ c a).af,.i .i64 (zgZ c a).aj]])
def zsZ (c:Cur)(a:Int)(s:Cur)(d:k0):Prop:=(∃N,zAB N c a=some (AV.agg (zb5 s)::[aT .slot d]))/\(s.b=c.b/\0<=s.i)/\(0<a->a<=1000->I64 d.af)
def zre (c:Cur)(a:Int):Bool:=wC (zsZ c a)
def zrf (c:Cur)(a:Int):Cur:=wS (zsZ c a)
def zLq (c:Cur)(a:Int):k0:=wV (zsZ c a)
def zO5 {c:Cur}{a:Int}(h:zre c a=true):zsZ c a (zrf c a) (zLq c a):=wG h
def z5e (c:Cur)(a:Int):0<=(zrf c a).i:=wP λh=>h.2.1.2
def z5d (c:Cur)(a:Int)(h:∃N,Ends (wE (λd=>aT .slot d) c.b λd=>0<a->a<=1000->I64 d.af)<|zAB N c a):zre c a=true:=wI (λ_ _ h=>h) h
def zCP:zeg:=rP1 dI λc b=>(zre c b,zrf c b,[aT .slot<|zLq c b])
def zQ9:zbX Tryz.prog 392 [false,true,true] zCP:=hP1 ze4 zU zLg zl (zq []) (λ_ _ h=>(zO5 h).1)
def zTl {c:Cur}(h:zbb c)(a:Int):zre c a=true:=by
 refine z5d c a ⟨0,?_⟩;unfold zAB oN;conv=>zeta
 have d:zbb {zhu c a with b:=c.b}:=zbJ h (zI8 _ _);have f:zbb {zf {zhu c a with b:=c.b} 12 with b:=c.b}:=zbJ h (zG _ _);have g:=(zyM<|zPg h a).2.2;refine zB (zPg h a) (zB (zbw d 12)<|zby (λ_=>zB (zfa f (by simp)) (zbC (aT .slot) (v:=⟨zbq _ _,(zgZ c a).aj⟩) (zb1 _ _) λe i=>?_)) λ_=>zby (λ_=>zB (zbat f) (zbC (aT .slot) (v:=⟨(zgZ c a).af,zsY _⟩) (zVL _) λe d=>g e d)) λ_=>zbC (aT .slot) (v:=⟨(zgZ c a).af,(zgZ c a).aj⟩) (zG _ _) λe d=>g e d);have j:=z2Q f (l:=[-1,-2,a,9223372036854775807,-9223372036854775808]) (by simp);simp only[qG,qM,or_false]at j;unfold I64;dsimp only;omega
def zvx (N:Nat)(c:Cur)(g j:Int):OA:=
 (r0 (σ:=(Int×Int×Int×Int×Int×lS×LI×Unit)) N (λk a=>let b:=a.2.2.2.2;let e:=b.2.2.1;let d:=(⟨e,a.2.2.2.1,b.1⟩:Cur);let f:=ap b.2.1 [zgZ d a.2.1]; (cond (ilt a.2.2.1 a.1) (oN (zka d a.2.1)<|oN (few<|ln f)<|k (a.1,a.2.1,zI .i64 a.2.2.1 1,(zhu d a.2.1).i,(zhu d a.2.1).h,f,e,()))<|some [.agg [.s .u8 e,.i .i64 a.2.2.2.1,.i .i64 b.1],aS .slot b.2.1])) (g,j,0,c.i,c.h,[],c.b,()))
def zSI:=zq [(391,0,{n:=22,tm:=[(0,.lp 0 0),(1,ti),(2,ti),(7,.sl 0 []),(8,ti)],lo:=[(0,[.sl 1 [],ti,ti])],ro:=[(0,.slot,true),(1,.u8,false)]})]
def zoV (c:Cur)(a:Int)(d:Int)(s:Cur)(e:List k0):Prop:=(∃N,zvx N c a d=some (AV.agg (zb5 s)::[aS .slot e]))/\(s.b=c.b/\0<=s.i)/\(0<=a->a<=1000->ln e=a/\(0<d->d<=1000->∀s∈e,I64 s.af))
def zi9 (c:Cur)(a:Int)(b:Int):Bool:=wC (zoV c a b)
def zN (c:Cur)(a:Int)(b:Int):Cur:=wS (zoV c a b)
def zd4 (c:Cur)(a:Int)(b:Int):List k0:=wV (zoV c a b)
def zwB {c:Cur}{a:Int}{b:Int}(h:zi9 c a b=true):zoV c a b (zN c a b) (zd4 c a b):=wG h
def zja (c:Cur)(a:Int)(b:Int):0<=(zN c a b).i:=wP λh=>h.2.1.2
def zZr (c:Cur)(a:Int)(d:Int)(h:∃N,Ends (wE (λe=>aS .slot e) c.b λe=>0<=a->a<=1000->ln e=a/\(0<d->d<=1000->∀s∈e,I64 s.af))<|zvx N c a d):zi9 c a d=true:=wI (λ_ _ h=>h) h
def zxt:zeg:=rP2 dI dI λc b d=>(zi9 c b d,zN c b d,[aS .slot<|zd4 c b d])
def zKG:zbX Tryz.prog 391 [false,true,true] zxt:=hP2 ze4 zU zLg zl zSI (λ_ _ _ h=>(zwB h).1)
def zAv {c:Cur}(h:zbb c){d:Int}(g:0<=d)(j:d<=1000)(a:Int):zi9 c d a=true:=by
 refine zZr c d a ⟨1002,?_⟩;unfold zvx oN;conv=>zeta
 exact zYP h (P:=λs=>0<a->a<=1000->I64 s.af) g j (fc:=λc=>zka c a) (fs:=λc=>zhu c a) (fv:=λc=>zgZ c a) (R:=λs l=>AV.agg (zb5 s)::[aS .slot l]) (λh=>zPg h a) (λc=>zI8 c a) (λh=>(zyM<|zPg h a).2.2) (λs l m n p q=>⟨s,l,rfl,⟨m,n⟩,λ_ _=>⟨p,λe f s r=>q s r e f⟩⟩) ((λi t=>(d,a,(i:Int),t.1,t.2.1,t.2.2,c.b,())):Int->Int×Int×List k0->_) (λrec t i k l=>rfl)
def zbeg {c:Cur}(h:zbb c){n m:Int}(a:0<=n)(b:n<=1000)(d:0<m)(e:m<=1000):ln (zd4 c n m)=n/\∀s∈zd4 c n m,I64 s.af:=by have g:=(zwB<|zAv h a b m).2.2 a b;exact⟨g.1,g.2 d e⟩
def zbcz:zcW:=[(392,[false,true,true],zCP),(391,[false,true,true],zxt)]++zbcy
def zLh:zb7 zbcz:=zcq zLg (by
 intro x a;simp only[qG,qM,or_false]at a;rcases a with rfl|rfl
 .exact zQ9
 .exact zKG)
def zpN (N:Nat)(c:Cur)(a d:Int):OA:=
 let g:=zd4 c a d;let f:=({ (zN c a d) with b:=c.b}:Cur);let e:=({ (zf f 8) with b:=c.b}:Cur);let k:=zo e a;let j:=({ (zf e a) with b:=c.b}:Cur); (oN (zi9 c a d)<|oN (zC f 8)<|cond (ieq (zo f 8) 0) (oN (zC e a)<|oN (zre j d)<|oN (inb k<|ln g)<|p0 (up g k<|zLq j d) λl=>some [.agg [.s .u8 c.b,.i .i64 (zrf j d).i,.i .i64 (zrf j d).h],aS .slot l])<|cond (ieq (zo f 8) 1) (oN (zC e a)<|oN (inr 0 k<|ln g)<|some [.agg [.s .u8 c.b,.i .i64 (zf e a).i,.i .i64 (zf e a).h],aS .slot<|tk g k])<|some [.agg [.s .u8 c.b,.i .i64 (zf f 8).i,.i .i64 (zf f 8).h],aS .slot g])
def zlv (c:Cur)(a:Int)(d:Int)(s:Cur)(e:List k0):Prop:=(∃N,zpN N c a d=some (AV.agg (zb5 s)::[aS .slot e]))/\(s.b=c.b/\0<=s.i)/\(0<a->a<=1000->ln e<=a/\(0<d->d<=1000->∀s∈e,I64 s.af))
def zgG (c:Cur)(a:Int)(b:Int):Bool:=wC (zlv c a b)
def zhY (c:Cur)(a:Int)(b:Int):Cur:=wS (zlv c a b)
def zfY (c:Cur)(a:Int)(b:Int):List k0:=wV (zlv c a b)
def zrb {c:Cur}{a:Int}{b:Int}(h:zgG c a b=true):zlv c a b (zhY c a b) (zfY c a b):=wG h
def zrd (c:Cur)(a:Int)(b:Int):0<=(zhY c a b).i:=wP λh=>h.2.1.2
def zO4 (c:Cur)(a:Int)(d:Int)(h:∃N,Ends (wE (λe=>aS .slot e) c.b λe=>0<a->a<=1000->ln e<=a/\(0<d->d<=1000->∀s∈e,I64 s.af))<|zpN N c a d):zgG c a d=true:=wI (λ_ _ h=>h) h
def ztG:zeg:=rP2 dI dI λc b d=>(zgG c b d,zhY c b d,[aS .slot<|zfY c b d])
def zDK:zbX Tryz.prog 239 [false,true,true] ztG:=hP2 ze4 zU zLh zl (zq []) (λ_ _ _ h=>(zrb h).1)
def zpS {c:Cur}(h:zbb c){n:Int}(a:0<n)(j:n<=1000)(m:Int):zgG c n m=true:=by
 refine zO4 c n m ⟨0,?_⟩;unfold zpN oN;conv=>zeta
 have l:zbb {zN c n m with b:=c.b}:=zbJ h (zja _ _ _);have i:zbb {zf {zN c n m with b:=c.b} 8 with b:=c.b}:=zbJ h (zG _ _);have k:zbb {zf {zf {zN c n m with b:=c.b} 8 with b:=c.b} n with b:=c.b}:=zbJ h (zG _ _);have g:=(zwB<|zAv h (vR a) j m).2.2 (vR a) j;generalize zd4 c n m=T at g;refine zB (zAv h (vR a) j m) (zB (zbw l 8)<|zby (λ_=>zB (zbw i n) (zB (zTl k m)<|zB (zw0 i a (by omega))<|zkx<|zbC (aS .slot) (z5e _ _) λ_ _=>⟨by rw[z92];omega,λe f s d=>?_⟩)) λ_=>zby (λ_=>zB (zbw i n) (zB (zEB i a (by omega))<|zbC (aS .slot) (zG _ _) λ_ _=>⟨?_,λe f s d=>g.2 e f s (jX d)⟩)) λ_=>zbC (aS .slot) (zG _ _) λ_ _=>⟨by omega,g.2⟩);{rcases qZ d with d|rfl;{exact g.2 e f s d};{exact(zO5<|zTl k m).2.2 e f}};{have:=z90 T;exact Int.le_trans (this _) (by omega)}
def zyc (N:Nat)(c:Cur)  : OA :=
 (r0 (σ:=(Int×Int×Int×LI×LI×Unit)) N (λf a=>let d:=(⟨a.2.2.2.2.1,a.2.1,a.2.2.1⟩:Cur);let e:=ap a.2.2.2.1 [zo d 100]; (cond (ilt a.1 4) (oN (zC d 100)<|oN (few<|ln e)<|f (zI .i64 a.1 1,(zf d 100).i,(zf d 100).h,e,a.2.2.2.2.1,()))<|some [.agg [.s .u8 a.2.2.2.2.1,.i .i64 a.2.1,.i .i64 a.2.2.1],aS .int a.2.2.2.1])) (0,c.i,c.h,[],c.b,()))
def zV7:=zq [(393,0,{n:=16,tm:=[(0,.lp 0 0),(3,.sl 0 []),(4,ti)],lo:=[(0,[.sl 1 [],ti,ti])],ro:=[(0,.int,true),(1,.u8,false)]})]
def zri (c:Cur)(s:Cur)(a:LI):Prop:=(∃N,zyc N c=some (AV.agg (zb5 s)::[aS .int a]))/\(s.b=c.b/\0<=s.i)/\(a.length=4)
def zkb (c:Cur)  : Bool:=wC (zri c)
def zgl (c:Cur)  : Cur:=wS (zri c)
def zpD (c:Cur)  : LI:=wV (zri c)
def zyN {c:Cur}(h:zkb c=true):zri c (zgl c) (zpD c):=wG h
def zI9 (c:Cur)  : 0<=(zgl c).i:=wP λh=>h.2.1.2
def z1D (c:Cur)(h:∃N,Ends (wE (λa=>aS .int a) c.b λa=>a.length=4)<|zyc N c):zkb c=true:=wI (λ_ _ h=>h) h
def zzU:zeg:=rP0 λc=>(zkb c,zgl c,[aS .int<|zpD c])
def zNL:zbX Tryz.prog 393 [false,true,true] zzU:=hP0 ze4 zU zLh zl zV7 (λ_ h=>(zyN h).1)
def zOT {c:Cur}(h:zbb c):zkb c=true:=by
 refine z1D c ⟨1002,?_⟩;unfold zyc oN;conv=>zeta
 exact zYP h (P:=λ_=>True) (m:=4) (by omega) (by omega) (fc:=λc=>zC c 100) (fs:=λc=>zf c 100) (fv:=λc=>zo c 100) (R:=λs l=>AV.agg (zb5 s)::[aS .int l]) (λh=>zbw h _) (λc=>zG c _) (λ_=>trivial) (λs l a d e f=>⟨s,l,rfl,⟨a,d⟩,by unfold ln at e;omega⟩) ((λi t=>((i:Int),t.1,t.2.1,t.2.2,c.b,())):Int->Int×Int×LI->_) (λrec t i k l=>rfl)
def zbcA:zcW:=[(239,[false,true,true],ztG),(393,[false,true,true],zzU)]++zbcz
def zLi:zb7 zbcA:=zcq zLh (by
 intro x a;simp only[qG,qM,or_false]at a;rcases a with rfl|rfl
 .exact zDK
 .exact zNL)
def zAC (N:Nat)(c:Cur)(f:Int):OA:=
 (r0 (σ:=(Int×Int×Int×Int×lM×LI×Unit)) N (λg a=>let b:=a.2.2.2.2;let d:=(⟨b.2.1,a.2.2.1,a.2.2.2.1⟩:Cur);let e:=ap b.1 [zpD d]; (cond (ilt a.2.1 a.1) (oN (zkb d)<|oN (few<|ln e)<|g (a.1,zI .i64 a.2.1 1,(zgl d).i,(zgl d).h,e,b.2.1,()))<|some [.agg [.s .u8 b.2.1,.i .i64 a.2.2.1,.i .i64 a.2.2.2.1],aS (.sl .int) b.1])) (f,0,c.i,c.h,[],c.b,()))
def z0l:=zq [(340,0,{n:=19,tm:=[(0,.lp 0 0),(1,ti),(5,.sl 0 []),(6,ti)],lo:=[(0,[.sl 1 [],ti,ti])],ro:=[(0,.sl .int,true),(1,.u8,false)]})]
def zs4 (c:Cur)(a:Int)(s:Cur)(d:List LI):Prop:=(∃N,zAC N c a=some (AV.agg (zb5 s)::[aS (.sl .int) d]))/\(s.b=c.b/\0<=s.i)/\(0<=a->a<=1000->ln d=a/\∀r∈d,r.length=4)
def zin (c:Cur)(a:Int):Bool:=wC (zs4 c a)
def zjU (c:Cur)(a:Int):Cur:=wS (zs4 c a)
def zh9 (c:Cur)(a0:Int):List LI:=wV (zs4 c a0)
def zvb {c:Cur}{a0:Int}(h:zin c a0=true):zs4 c a0 (zjU c a0) (zh9 c a0):=wG h
def zO7 (c:Cur)(a0:Int):0<=(zjU c a0).i:=wP λh=>h.2.1.2
def z5g (c:Cur)(a:Int)(h:∃N,Ends (wE (λd=>aS (.sl .int) d) c.b λd=>(0<=a->a<=1000->ln d=a/\∀r∈d,r.length=4))<|zAC N c a):zin c a=true:=wI (λ_ _ h=>h) h
def zCQ:zeg:=rP1 dI λc b=>(zin c b,zjU c b,[aS (.sl .int)<|zh9 c b])
def zzy:zbX Tryz.prog 340 [false,true,true] zCQ:=hP1 ze4 zU zLi zl z0l (λ_ _ h=>(zvb h).1)
def zbcl {c:Cur}(h:zbb c){a0:Int}(a:0<=a0)(d:a0<=1000):zin c a0=true:=by
 refine z5g c a0 ⟨1002,?_⟩;unfold zAC oN;conv=>zeta
 exact zYP h (P:=λr=>r.length=4) a d (fc:=zkb) (fs:=zgl) (fv:=zpD) (R:=λs l=>AV.agg (zb5 s)::[aS (.sl .int) l]) zOT zI9 (λh=>(zyN<|zOT h).2.2) (λs l e f g j=>⟨s,l,rfl,⟨e,f⟩,λ_ _=>⟨g,j⟩⟩) ((λi t=>(a0,(i:Int),t.1,t.2.1,t.2.2,c.b,())):Int->Int×Int×List LI->_) (λrec t i k l=>rfl)
def zvy (N:Nat)(c:Cur)  : OA :=
 let d:=zpD c;let e:=({ (zgl c) with b:=c.b}:Cur);let f:=zf e 6;let a:=({f with b:=c.b}:Cur);let g:=({ (zf a 4) with b:=c.b}:Cur); (oN (zkb c)<|oN (zC e 6)<|cond (ieq (zo e 6) 0) (oN (zC a 4)<|oN (inr 0 (zo a 4)<|ln d)<|some [.agg [.s .u8 c.b,.i .i64 (zf a 4).i,.i .i64 (zf a 4).h],aS .int<|tk d<|zo a 4])<|cond (ieq (zo e 6) 1) (oN (zC a 4)<|oN (zbx g [-1,99,100])<|oN (inb (zo a 4)<|ln d)<|p0 (up d (zo a 4)<|zbq g [-1,99,100]) λj=>some [.agg [.s .u8 c.b,.i .i64 (zbd g [-1,99,100]).i,.i .i64 (zbd g [-1,99,100]).h],aS .int j])<|cond (ieq (zo e 6) 2) (oN (few<|ln<|ap d [1])<|some [.agg [.s .u8 c.b,.i .i64 f.i,.i .i64 f.h],aS .int<|ap d [1]])<|some [.agg [.s .u8 c.b,.i .i64 f.i,.i .i64 f.h],aS .int d])
def zoW (c:Cur)(s:Cur)(a:LI):Prop:=(∃N,zvy N c=some (AV.agg (zb5 s)::[aS .int a]))/\(s.b=c.b/\0<=s.i)/\(a.length<=5)
def zm2 (c:Cur)  : Bool:=wC (zoW c)
def zm3 (c:Cur)  : Cur:=wS (zoW c)
def zva (c:Cur)  : LI:=wV (zoW c)
def zFY {c:Cur}(h:zm2 c=true):zoW c (zm3 c) (zva c):=wG h
def zZt (c:Cur)  : 0<=(zm3 c).i:=wP λh=>h.2.1.2
def zZs (c:Cur)(h:∃N,Ends (wE (λa=>aS .int a) c.b λa=>a.length<=5)<|zvy N c):zm2 c=true:=wI (λ_ _ h=>h) h
def zxu:zeg:=rP0 λc=>(zm2 c,zm3 c,[aS .int<|zva c])
def zKH:zbX Tryz.prog 240 [false,true,true] zxu:=hP0 ze4 zU zLi zl (zq []) (λ_ h=>(zFY h).1)
def z2o {c:Cur}(h:zbb c):zm2 c=true:=by
 refine zZs c ⟨0,?_⟩;unfold zvy oN;conv=>zeta
 have e:zbb {zgl c with b:=c.b}:=zbJ h (zI9 _);have a:zbb {zf {zgl c with b:=c.b} 6 with b:=c.b}:=zbJ h (zG _ _);have f:zbb {zf {zf {zgl c with b:=c.b} 6 with b:=c.b} 4 with b:=c.b}:=zbJ h (zG _ _);have g:=(zyN<|zOT h).2.2;generalize zpD c=T at g;have d:ln T=4:=(by unfold ln;omega);refine zB (zOT h) (zB (zbw e 6)<|zby (λ_=>zB (zbw a 4) (zB (zEB a (by omega) (by omega))<|zbC (aS .int) (zG _ _)<|qT (zFx T _) (by omega))) λ_=>zby (λ_=>zB (zbw a 4) (zB (zfa f (by simp))<|zB (zw0 a (by omega) (by omega))<|zkx<|zbC (aS .int) (zb1 _ _) (by rw[zjF];omega))) λ_=>zby (λ_=>zB (ziW (by rw[zgB];omega)) (zbC (aS .int) (zG _ _) ?_)) λ_=>zbC (aS .int) (zG _ _) (by omega));simp[ap];omega
def zbcB:zcW:=[(340,[false,true,true],zCQ),(240,[false,true,true],zxu)]++zbcA
def zY7:zb7 zbcB:=zcq zLi (by
 intro x a;simp only[qG,qM,or_false]at a;rcases a with rfl|rfl
 .exact zzy
 .exact zKH)
def ztY (N:Nat)(c:Cur)  : OA :=
 let d:=({ (zhy c) with b:=c.b}:Cur);let a:=({ (zf d 10) with b:=c.b}:Cur);let e:=zbd a [-1,0,12,15,16,99,100,9223372036854775807]; (oN (zlw c)<|oN (zC d 10)<|cond (ieq (zo d 10) 0) (oN (zC a 11)<|some [.agg [.s .u8 c.b,.i .i64 (zf a 11).i,.i .i64 (zf a 11).h],.agg [.i .i64<|wsub .i64 (zo a 11) 1,.i .i64 (zhf c).X]])<|cond (ieq (zo d 10) 1) (oN (zbx a [-1,0,12,15,16,99,100,9223372036854775807])<|some [.agg [.s .u8 c.b,.i .i64 e.i,.i .i64 e.h],.agg [.i .i64 (zhf c).Op,.i .i64<|zbq a [-1,0,12,15,16,99,100,9223372036854775807]]])<|some [.agg [.s .u8 c.b,.i .i64 (zf d 10).i,.i .i64 (zf d 10).h],.agg [.i .i64 (zhf c).Op,.i .i64 (zhf c).X]])
def znV (c:Cur)(s:Cur)(a:Ins):Prop:=(∃N,ztY N c=some (AV.agg (zb5 s)::[aT .ins a]))/\(s.b=c.b/\0<=s.i)/\(True)
def zlQ (c:Cur)  : Bool:=wC (znV c)
def zlR (c:Cur)  : Cur:=wS (znV c)
def zyO (c:Cur)  : Ins:=wV (znV c)
def zVO {c:Cur}(h:zlQ c=true):znV c (zlR c) (zyO c):=wG h
def zVQ (c:Cur)  : 0<=(zlR c).i:=wP λh=>h.2.1.2
def zVP (c:Cur)(h:∃N,Ends (wE (λa=>aT .ins a) c.b λa=>True)<|ztY N c):zlQ c=true:=wI (λ_ _ h=>h) h
def zwf:zeg:=rP0 λc=>(zlQ c,zlR c,[aT .ins<|zyO c])
def zHj:zbX Tryz.prog 448 [false,true,true] zwf:=hP0 ze4 zU zY7 zl (zq []) (λ_ h=>(zVO h).1)
def z8S {c:Cur}(h:zbb c):zlQ c=true:=by
 refine zVP c ⟨0,?_⟩;unfold ztY oN;conv=>zeta
 have d:zbb {zhy c with b:=c.b}:=zbJ h (zBR _);have a:zbb {zf {zhy c with b:=c.b} 10 with b:=c.b}:=zbJ h (zG _ _);exact zB (zWl h) (zB (zbw d 10)<|zby (λ_=>zB (zbw a 11) (zbC (aT .ins) (v:=⟨wsub .i64 _ 1,(zhf c).X⟩) (zG _ _) trivial)) λ_=>zby (λ_=>zB (zfa a (by simp)) (zbC (aT .ins) (v:=⟨(zhf c).Op,zbq _ _⟩) (zb1 _ _) trivial)) λ_=>zbC (aT .ins) (v:=zhf c) (zG _ _) trivial)
def zbcC:zcW:=[(448,[false,true,true],zwf)]++zbcB
def zBJ:zb7 zbcC:=zcq zY7 (by
 intro x a;simp only[qG,qM,or_false]at a;rcases a with rfl
 .exact zHj)
def zrK (N:Nat)(c:Cur)  : OA :=
 let e:=zcj c;let g:=({ (zbf c) with b:=c.b}:Cur);let k:=zf g 8;let d:=({k with b:=c.b}:Cur); (oN (ziC c)<|oN (zC g 8)<|cond (ieq (zo g 8) 0) (oN (zlQ d)<|oN (inb 0<|ln e)<|p0 (up e 0<|zyO d) λm=>some [.agg [.s .u8 c.b,.i .i64 (zlR d).i,.i .i64 (zlR d).h],aS .ins m])<|cond (ieq (zo g 8) 1) (r0 (σ:=(Int×Int×lI×LI×Unit)) N (λl a=>let j:=(⟨a.2.2.2.1,a.1,a.2.1⟩:Cur);let f:=({ (zf j 2) with b:=a.2.2.2.1}:Cur); (oN (zC j 2)<|cond (ilt (ln a.2.2.1)<|zI .i64 12<|zo j 2) (oN (zlw f)<|oN (few<|ln<|ap a.2.2.1 [zhf f])<|l ((zhy f).i,(zhy f).h,ap a.2.2.1 [zhf f],a.2.2.2.1,()))<|some [.agg [.s .u8 a.2.2.2.1,.i .i64 (zf j 2).i,.i .i64 (zf j 2).h],aS .ins a.2.2.1])) (k.i,k.h,e,c.b,()))<|cond (ieq (zo g 8) 2) (oN (zC d 2)<|oN (inr 0 (zo d 2)<|ln e)<|some [.agg [.s .u8 c.b,.i .i64 (zf d 2).i,.i .i64 (zf d 2).h],aS .ins<|tk e<|zo d 2])<|some [.agg [.s .u8 c.b,.i .i64 k.i,.i .i64 k.h],aS .ins e])
def zLE:=zq [(364,1,{n:=34,tm:=[(0,.lp 0 0),(3,.sl 0 [])],lo:=[(0,[.sl 1 [],ti,ti])],ro:=[(0,.ins,true),(1,.u8,false)]})]
def zmv (c:Cur)(s:Cur)(a:List Ins):Prop:=(∃N,zrK N c=some (AV.agg (zb5 s)::[aS .ins a]))/\(s.b=c.b/\0<=s.i)/\(a.length<=13)
def zkW (c:Cur)  : Bool:=wC (zmv c)
def zkX (c:Cur)  : Cur:=wS (zmv c)
def zrj (c:Cur)  : List Ins:=wV (zmv c)
def zAq {c:Cur}(h:zkW c=true):zmv c (zkX c) (zrj c):=wG h
def zSo (c:Cur)  : 0<=(zkX c).i:=wP λh=>h.2.1.2
def zSn (c:Cur)(h:∃N,Ends (wE (λa=>aS .ins a) c.b λa=>a.length<=13)<|zrK N c):zkW c=true:=wI (λ_ _ h=>h) h
def zuF:zeg:=rP0 λc=>(zkW c,zkX c,[aS .ins<|zrj c])
def zFc:zbX Tryz.prog 364 [false,true,true] zuF:=hP0 ze4 zU zBJ zl zLE (λ_ h=>(zAq h).1)
def zTk {c:Cur}(h:zbb c):zkW c=true:=by
 refine zSn c ⟨1002,?_⟩;unfold zrK oN;conv=>zeta
 have B:zbb {zbf c with b:=c.b}:=zbJ h (zkd _);have q:zbb {zf {zbf c with b:=c.b} 8 with b:=c.b}:=zbJ h (zG _ _);have g:=(zs7<|zFG h).2.2;have p:=zLl g;have j:1<=(zcj c).length:=(by unfold zdN at g;cases d:(zcj c).all ze1 with|false=>rw[d] at g;cases g|true=>rw[d,cT] at g;have:=(zf1.1 g).1;unfold ln at this;omega);generalize zcj c=T at p j;have y:1<=ln T/\ln T<=12:=(by unfold ln;omega);have e:(2:Int)<=ln T+1:=(by omega);refine zB (zFG h) (zB (zbw B 8)<|zby (λ_=>zB (z8S q) (zB (qH (by omega))<|zkx<|zbC (aS .ins) (zVQ _) (by rw[zjF];omega))) λ_=>zby (λ_=>?_) λ_=>zby (λ_=>zB (zbw q 2) (zB (zEB q (n:=2) (by omega) e)<|zbC (aS .ins) (zG _ _)<|qT (zFx T _) (by omega))) λ_=>zbC (aS .ins) (zG _ _) (by omega));{refine zjB (λn s=>s.2.2.1.length+n=13/\0<=s.1/\s.2.2.2.1=c.b) ?_ 1002 (13-T.length) _ ⟨by dsimp only;omega,zG _ _,rfl⟩ (by omega);rintro n ⟨i,k,l,b,u⟩ rec ⟨v,r,t⟩ m;dsimp only at v r t ⊢;subst t;have a:zbb ⟨c.b,i,k⟩:=zbJ h r;have A:=zfB a (n:=2) (by omega);have z:=ziQ (x:=12) (by omega) (by omega) A.1 (by omega);have w:zbb {zf ⟨c.b,i,k⟩ 2 with b:=c.b}:=zbJ h (zG _ _);refine zB (zbw a 2) (zby (λd=>?_) λd=>?_);{have f:ln l<zI .i64 12 (zo ⟨c.b,i,k⟩ 2):=qD d;rw[z]at f;unfold ln at f;exact zB (zWl w) (zB (ziW (by rw[zgB];unfold ln;omega))<|m (n-1) _ (by omega) ⟨by simp[ap];omega,zBR _,rfl⟩)};{exact zbC (aS .ins) (zG _ _) (by omega)}}
def zAE (N:Nat)(c:Cur)  : OA :=
 let a:=zcS c;let e:=({ (zcx c) with b:=c.b}:Cur);let f:=zf e 8;let d:=({f with b:=c.b}:Cur);let g:=zbd d [-1,255,256,9223372036854775807]; (oN (zlx c)<|oN (zC e 8)<|cond (ieq (zo e 8) 0) (oN (zbx d [-1,2,3,4])<|some [.agg [.s .u8 c.b,.i .i64 (zbd d [-1,2,3,4]).i,.i .i64 (zbd d [-1,2,3,4]).h],.agg [.i .i64<|zbq d [-1,2,3,4],.i .i64 a.Post,.b a.Open]])<|cond (ieq (zo e 8) 1) (oN (zbx d [-1,255,256,9223372036854775807])<|some [.agg [.s .u8 c.b,.i .i64 g.i,.i .i64 g.h],.agg [.i .i64 a.aq,.i .i64<|zbq d [-1,255,256,9223372036854775807],.b a.Open]])<|cond (ieq (zo e 8) 2) (some [.agg [.s .u8 c.b,.i .i64 f.i,.i .i64 f.h],.agg [.i .i64 a.aq,.i .i64 a.Post,.b<|nB a.Open]])<|some [.agg [.s .u8 c.b,.i .i64 f.i,.i .i64 f.h],.agg [.i .i64 a.aq,.i .i64 a.Post,.b a.Open]])
def zs8 (c:Cur)(s:Cur)(a:Ctl):Prop:=(∃N,zAE N c=some (AV.agg (zb5 s)::[.agg<|zn6 a]))/\(s.b=c.b/\0<=s.i)/\(True)
def zrl (c:Cur)  : Bool:=wC (zs8 c)
def zrm (c:Cur)  : Cur:=wS (zs8 c)
def zBS (c:Cur)  : Ctl:=wV (zs8 c)
def z5i {c:Cur}(h:zrl c=true):zs8 c (zrm c) (zBS c):=wG h
def z5k (c:Cur)  : 0<=(zrm c).i:=wP λh=>h.2.1.2
def z5j (c:Cur)(h:∃N,Ends (wE (λa=>.agg (zn6 a)) c.b λa=>True)<|zAE N c):zrl c=true:=wI (λ_ _ h=>h) h
def zCS:zeg:=rP0 λc=>(zrl c,zrm c,[.agg<|zn6<|zBS c])
def zRe:zbX Tryz.prog 394 [false,true,true] zCS:=hP0 ze4 zU zBJ zl (zq []) (λ_ h=>(z5i h).1)
def z8R {c:Cur}(h:zbb c):zrl c=true:=by
 refine z5j c ⟨0,?_⟩;unfold zAE oN nB;conv=>zeta
 have d:zbb {zcx c with b:=c.b}:=zbJ h (zBT _);have a:zbb {zf {zcx c with b:=c.b} 8 with b:=c.b}:=zbJ h (zG _ _);exact zB (z3K h) (zB (zbw d 8)<|zby (λ_=>zB (zfa a (by simp)) (zbC (λx=>AV.agg (zn6 x)) (v:=⟨zbq _ _,(zcS c).Post,(zcS c).Open⟩) (zb1 _ _) trivial)) λ_=>zby (λ_=>zB (zfa a (by simp)) (zbC (λx=>AV.agg (zn6 x)) (v:=⟨(zcS c).aq,zbq _ _,(zcS c).Open⟩) (zb1 _ _) trivial)) λ_=>zby (λ_=>zbC (λx=>AV.agg (zn6 x)) (v:=⟨(zcS c).aq,(zcS c).Post,bif (zcS c).Open then false else true⟩) (zG _ _) trivial) λ_=>zbC (λx=>AV.agg (zn6 x)) (v:=(zcS c)) (zG _ _) trivial)
def zye (N:Nat)(c:Cur)  : OA :=
 let f:=zf c 5;let d:=({f with b:=c.b}:Cur);let j:=zf d 100;let a:=zo d 100;let e:=({ (zf d 4) with b:=c.b}:Cur);let g:=zdK (zo d 4)<|zdo e 2; (oN (zC c 5)<|cond (ieq (zo c 5) 0) (oN (zC d 4)<|oN (zc6 e 2)<|oN (zfo (zo d 4)<|zdo e 2)<|some [.agg [.s .u8 c.b,.i .i64 (zV e 2).i,.i .i64 (zV e 2).h],.agg [.i .i64 g.Kind,.i .i64 g.af,.b g.Write,.i .i64 g.N]])<|cond (ieq (zo c 5) 1) (oN (zC d 100)<|oN (zfc a)<|some [.agg [.s .u8 c.b,.i .i64 j.i,.i .i64 j.h],.agg [.i .i64 (zeV a).Kind,.i .i64 (zeV a).af,.b (zeV a).Write,.i .i64 (zeV a).N]])<|cond (ieq (zo c 5) 2) (oN (zC d 100)<|oN (zfc a)<|some [.agg [.s .u8 c.b,.i .i64 j.i,.i .i64 j.h],.agg [.i .i64 (zga a).Kind,.i .i64 (zga a).af,.b (zga a).Write,.i .i64 (zga a).N]])<|cond (ieq (zo c 5) 3) (some [.agg [.s .u8 c.b,.i .i64 f.i,.i .i64 f.h],.agg [.i .i64 4,.i .i64 0,.b false,.i .i64 0]])<|some [.agg [.s .u8 c.b,.i .i64 f.i,.i .i64 f.h],.agg [.i .i64 0,.i .i64 0,.b false,.i .i64 0]])
def zrp (c:Cur)(s:Cur)(a:aD):Prop:=(∃N,zye N c=some (AV.agg (zb5 s)::[.agg<|zg2 a]))/\(s.b=c.b/\0<=s.i)/\(True)
def zke (c:Cur)  : Bool:=wC (zrp c)
def zgm (c:Cur)  : Cur:=wS (zrp c)
def zcs (c:Cur)  : aD:=wV (zrp c)
def z1F {c:Cur}(h:zke c=true):zrp c (zgm c) (zcs c):=wG h
def zyP (c:Cur)  : 0<=(zgm c).i:=wP λh=>h.2.1.2
def z1G (c:Cur)(h:∃N,Ends (wE (λa=>.agg (zg2 a)) c.b λa=>True)<|zye N c):zke c=true:=wI (λ_ _ h=>h) h
def zzW:zeg:=rP0 λc=>(zke c,zgm c,[.agg<|zg2<|zcs c])
def zNO:zbX Tryz.prog 435 [false,true,true] zzW:=hP0 ze4 zU zBJ zl (zq []) (λ_ h=>(z1F h).1)
def zXs {c:Cur}(h:zbb c):zke c=true:=by
 refine z1G c ⟨0,?_⟩;unfold zye oN;conv=>zeta
 have a:zbb {zf c 5 with b:=c.b}:=zbJ h (zG _ _);have d:zbb {zf {zf c 5 with b:=c.b} 4 with b:=c.b}:=zbJ h (zG _ _);exact zB (zbw h 5) (zby (λ_=>zB (zbw a 4) (zB (zjH d 2) (zB rfl (zbC (λx=>AV.agg (zg2 x)) (v:=zdK _ _) (zco _ _) trivial)))) λ_=>zby (λ_=>zB (zbw a 100) (zB rfl (zbC (λx=>AV.agg (zg2 x)) (v:=zeV _) (zG _ _) trivial))) λ_=>zby (λ_=>zB (zbw a 100) (zB rfl (zbC (λx=>AV.agg (zg2 x)) (v:=zga _) (zG _ _) trivial))) λ_=>zby (λ_=>zbC (λx=>AV.agg (zg2 x)) (v:=⟨4,0,false,0⟩) (zG _ _) trivial) λ_=>zbC (λx=>AV.agg (zg2 x)) (v:=⟨0,0,false,0⟩) (zG _ _) trivial)
def zbcD:zcW:=[(364,[false,true,true],zuF),(394,[false,true,true],zCS),(435,[false,true,true],zzW)]++zbcC
def zr2:zb7 zbcD:=zcq zBJ (by
 intro x a;simp only[qG,qM,or_false]at a;rcases a with rfl|rfl|rfl
 .exact zFc
 .exact zRe
 .exact zNO)
def zAG (N:Nat)(c:Cur)  : OA :=
 let a:=zcs c;let e:=({ (zgm c) with b:=c.b}:Cur);let d:=({ (zf e 8) with b:=c.b}:Cur); (oN (zke c)<|oN (zC e 8)<|cond (ieq (zo e 8) 0) (oN (zC d 7)<|some [.agg [.s .u8 c.b,.i .i64 (zf d 7).i,.i .i64 (zf d 7).h],.agg [.i .i64<|wsub .i64 (zo d 7) 1,.i .i64 a.af,.b a.Write,.i .i64 a.N]])<|cond (ieq (zo e 8) 1) (oN (zbx d [-1,3,4])<|some [.agg [.s .u8 c.b,.i .i64 (zbd d [-1,3,4]).i,.i .i64 (zbd d [-1,3,4]).h],.agg [.i .i64 a.Kind,.i .i64<|zbq d [-1,3,4],.b a.Write,.i .i64 a.N]])<|cond (ieq (zo e 8) 2) (oN (zbx d [-1,99,100])<|some [.agg [.s .u8 c.b,.i .i64 (zbd d [-1,99,100]).i,.i .i64 (zbd d [-1,99,100]).h],.agg [.i .i64 a.Kind,.i .i64 a.af,.b a.Write,.i .i64<|zbq d [-1,99,100]]])<|some [.agg [.s .u8 c.b,.i .i64 (zf e 8).i,.i .i64 (zf e 8).h],.agg [.i .i64 a.Kind,.i .i64 a.af,.b a.Write,.i .i64 a.N]])
def zta (c:Cur)(s:Cur)(a:aD):Prop:=(∃N,zAG N c=some (AV.agg (zb5 s)::[.agg<|zg2 a]))/\(s.b=c.b/\0<=s.i)/\(True)
def zrn (c:Cur)  : Bool:=wC (zta c)
def zro (c:Cur)  : Cur:=wS (zta c)
def zBU (c:Cur)  : aD:=wV (zta c)
def z5n {c:Cur}(h:zrn c=true):zta c (zro c) (zBU c):=wG h
def z5p (c:Cur)  : 0<=(zro c).i:=wP λh=>h.2.1.2
def z5o (c:Cur)(h:∃N,Ends (wE (λa=>.agg (zg2 a)) c.b λa=>True)<|zAG N c):zrn c=true:=wI (λ_ _ h=>h) h
def zCU:zeg:=rP0 λc=>(zrn c,zro c,[.agg<|zg2<|zBU c])
def zRg:zbX Tryz.prog 395 [false,true,true] zCU:=hP0 ze4 zU zr2 zl (zq []) (λ_ h=>(z5n h).1)
def z5Y {c:Cur}(h:zbb c):zrn c=true:=by
 refine z5o c ⟨0,?_⟩;unfold zAG oN;conv=>zeta
 have d:zbb {zgm c with b:=c.b}:=zbJ h (zyP _);have a:zbb {zf {zgm c with b:=c.b} 8 with b:=c.b}:=zbJ h (zG _ _);exact zB (zXs h) (zB (zbw d 8)<|zby (λ_=>zB (zbw a 7) (zbC (λx=>AV.agg (zg2 x)) (v:=⟨wsub .i64 _ 1,(zcs c).af,(zcs c).Write,(zcs c).N⟩) (zG _ _) trivial)) λ_=>zby (λ_=>zB (zfa a (by simp)) (zbC (λx=>AV.agg (zg2 x)) (v:=⟨(zcs c).Kind,zbq _ _,(zcs c).Write,(zcs c).N⟩) (zb1 _ _) trivial)) λ_=>zby (λ_=>zB (zfa a (by simp)) (zbC (λx=>AV.agg (zg2 x)) (v:=⟨(zcs c).Kind,(zcs c).af,(zcs c).Write,zbq _ _⟩) (zb1 _ _) trivial)) λ_=>zbC (λx=>AV.agg (zg2 x)) (v:=(zcs c)) (zG _ _) trivial)
def zyf (N:Nat)(c:Cur)  : OA :=
 let a:=({ (zf c 256) with b:=c.b}:Cur);let d:=({ (zf a 256) with b:=c.b}:Cur);let e:=zbd d [0,1,128,255,zo c 256,zo a 256,-1,256,9223372036854775807]; (oN (zC c 256)<|oN (zC a 256)<|oN (zbx d [0,1,128,255,zo c 256,zo a 256,-1,256,9223372036854775807])<|some [.agg [.s .u8 c.b,.i .i64 e.i,.i .i64 e.h],aI<|zbq d [0,1,128,255,zo c 256,zo a 256,-1,256,9223372036854775807]])
def zrq (c:Cur)(s:Cur)(a:Int):Prop:=(∃N,zyf N c=some (AV.agg (zb5 s)::[aI a]))/\(s.b=c.b/\0<=s.i)/\(True)
def zl8 (c:Cur)  : Bool:=wC (zrq c)
def zkf (c:Cur)  : Cur:=wS (zrq c)
def zpE (c:Cur)  : Int:=wV (zrq c)
def z1H {c:Cur}(h:zl8 c=true):zrq c (zkf c) (zpE c):=wG h
def zJa (c:Cur)  : 0<=(zkf c).i:=wP λh=>h.2.1.2
def z1I (c:Cur)(h:∃N,Ends (wE (λa=>aI a) c.b λa=>True)<|zyf N c):zl8 c=true:=wI (λ_ _ h=>h) h
def zzX:zeg:=rP0 λc=>(zl8 c,zkf c,[aI<|zpE c])
def zNP:zbX Tryz.prog 339 [false,true,true] zzX:=hP0 ze4 zU zr2 zl (zq []) (λ_ h=>(z1H h).1)
def z7X {c:Cur}(h:zbb c):zl8 c=true:=by
 refine z1I c ⟨0,?_⟩;unfold zyf oN;conv=>zeta
 have a:zbb {zf c 256 with b:=c.b}:=zbJ h (zG _ _);have d:zbb {zf {zf c 256 with b:=c.b} 256 with b:=c.b}:=zbJ h (zG _ _);exact zB (zbw h 256) (zB (zbw a 256)<|zB (zfa d (by simp))<|zbC aI (zb1 _ _) trivial)
def zvA (N:Nat)(c:Cur)  : OA :=
 let a:=zbd c [0,1,2,3,0,1,-1,4,9223372036854775807]; (oN (zbx c [0,1,2,3,0,1,-1,4,9223372036854775807])<|some [.agg [.s .u8 c.b,.i .i64 a.i,.i .i64 a.h],aI<|zbq c [0,1,2,3,0,1,-1,4,9223372036854775807]])
def zoY (c:Cur)(s:Cur)(a:Int):Prop:=(∃N,zvA N c=some (AV.agg (zb5 s)::[aI a]))/\(s.b=c.b/\0<=s.i)/\(True)
def zm4 (c:Cur)  : Bool:=wC (zoY c)
def zm5 (c:Cur)  : Cur:=wS (zoY c)
def zvc (c:Cur)  : Int:=wV (zoY c)
def zZw {c:Cur}(h:zm4 c=true):zoY c (zm5 c) (zvc c):=wG h
def zZy (c:Cur)  : 0<=(zm5 c).i:=wP λh=>h.2.1.2
def zZx (c:Cur)(h:∃N,Ends (wE (λa=>aI a) c.b λa=>True)<|zvA N c):zm4 c=true:=wI (λ_ _ h=>h) h
def zxw:zeg:=rP0 λc=>(zm4 c,zm5 c,[aI<|zvc c])
def zKJ:zbX Tryz.prog 242 [false,true,true] zxw:=hP0 ze4 zU zr2 zl (zq []) (λ_ h=>(zZw h).1)
def zbej {c:Cur}(h:zbb c):zm4 c=true:=by
 refine zZx c ⟨0,?_⟩;unfold zvA oN;conv=>zeta
 exact zB (zfa h (by simp)) (zbC aI (zb1 _ _) trivial)
def z0B (N:Nat)(c:Cur)  : OA :=
 let a:=zbd c [0,1,2,3,3,4,7,8,-1,9223372036854775807,-9223372036854775808]; (oN (zbx c [0,1,2,3,3,4,7,8,-1,9223372036854775807,-9223372036854775808])<|some [.agg [.s .u8 c.b,.i .i64 a.i,.i .i64 a.h],aI<|zbq c [0,1,2,3,3,4,7,8,-1,9223372036854775807,-9223372036854775808]])
def zrg (c:Cur)(s:Cur)(a:Int):Prop:=(∃N,z0B N c=some (AV.agg (zb5 s)::[aI a]))/\(s.b=c.b/\0<=s.i)/\(True)
def zI6 (c:Cur)  : Bool:=wC (zrg c)
def zI7 (c:Cur)  : Cur:=wS (zrg c)
def zUc (c:Cur)  : Int:=wV (zrg c)
def z1B {c:Cur}(h:zI6 c=true):zrg c (zI7 c) (zUc c):=wG h
def zzS:zeg:=rP0 λc=>(zI6 c,zI7 c,[aI<|zUc c])
def zNI:zbX Tryz.prog 355 [false,true,true] zzS:=hP0 ze4 zU zr2 zl (zq []) (λ_ h=>(z1B h).1)
def zvz (N:Nat)(c:Cur)  : OA :=
 let e:=({ (zf c 3) with b:=c.b}:Cur);let d:=({ (zf e 4) with b:=c.b}:Cur);let a:=({ (zf d 6) with b:=c.b}:Cur); (oN (zC c 3)<|oN (zC e 4)<|oN (zC d 6)<|oN (zC a 3)<|some [.agg [.s .u8 c.b,.i .i64 (zf a 3).i,.i .i64 (zf a 3).h],.agg [.i .i64<|zI .i64 1<|zo c 3,.i .i64<|zo e 4,.i .i64<|zo d 6,.i .i64<|zI .i64 1<|zo a 3]])
def zoX (c:Cur)(s:Cur)(a:ar):Prop:=(∃N,zvz N c=some (AV.agg (zb5 s)::[aT .entry a]))/\(s.b=c.b/\0<=s.i)/\(True)
def zjb (c:Cur)  : Bool:=wC (zoX c)
def zhL (c:Cur)  : Cur:=wS (zoX c)
def znU (c:Cur)  : ar:=wV (zoX c)
def zZu {c:Cur}(h:zjb c=true):zoX c (zhL c) (znU c):=wG h
def zwC (c:Cur)  : 0<=(zhL c).i:=wP λh=>h.2.1.2
def zZv (c:Cur)(h:∃N,Ends (wE (λa=>aT .entry a) c.b λa=>True)<|zvz N c):zjb c=true:=wI (λ_ _ h=>h) h
def zxv:zeg:=rP0 λc=>(zjb c,zhL c,[aT .entry<|znU c])
def zKI:zbX Tryz.prog 202 [false,true,true] zxv:=hP0 ze4 zU zr2 zl (zq []) (λ_ h=>(zZu h).1)
def zQa {c:Cur}(h:zbb c):zjb c=true:=by
 refine zZv c ⟨0,?_⟩;unfold zvz oN;conv=>zeta
 have a:zbb {zf c 3 with b:=c.b}:=zbJ h (zG _ _);have d:zbb {zf {zf c 3 with b:=c.b} 4 with b:=c.b}:=zbJ h (zG _ _);have e:zbb {zf {zf {zf c 3 with b:=c.b} 4 with b:=c.b} 6 with b:=c.b}:=zbJ h (zG _ _);exact zB (zbw h 3) (zB (zbw a 4)<|zB (zbw d 6)<|zB (zbw e 3)<|zbC (aT .entry) (v:=⟨_,_,_,_⟩) (zG _ _) trivial)
def zbcE:zcW:=[(395,[false,true,true],zCU),(339,[false,true,true],zzX),(242,[false,true,true],zxw),(355,[false,true,true],zzS),(202,[false,true,true],zxv)]++zbcD
def zbak:zb7 zbcE:=zcq zr2 (by
 intro x a;simp only[qG,qM,or_false]at a;rcases a with rfl|rfl|rfl|rfl|rfl
 .exact zRg
 .exact zNP
 .exact zKJ
 .exact zNI
 .exact zKI)
section
open Go Go.RowKit
structure Cw (w0:World) (blk:Nat) (u:Value) (c:Cur) (w:World):Prop where
 os:w.os=w0.os
 tape:w.tape=w0.tape
 output:w.output=w0.output
 size:w0.heap.size<=w.heap.size
 keep:∀b,b<w0.heap.size->b≠blk->w.heap[b]?=w0.heap[b]?
 cur:∃e,w.heap[blk]?=some (.cells #[u,.int .i64 c.i,.int .i64 c.h] e (0,0))
def Cw.trans {g w1 h:World}{blk:Nat}{u:Value}{i d:Cur}(a:Cw g blk u i w1)(c:Cw w1 blk u d h):Cw g blk u d h :=
 ⟨c.os.trans a.os,c.tape.trans a.tape,c.output.trans a.output,qT a.size c.size,λb e f=>(c.keep b (jG e a.size) f).trans (a.keep b e f),c.cur⟩
def Cw.drew {a w:World}{blk:Nat}{u:Value}{c:Cur}(h:Cw a blk u c w):Cw a blk u c w.drew:=⟨h.os,h.tape,h.output,h.size,h.keep,h.cur⟩
def Cw.at (w:World)(blk:Nat)(u:Value)(c:Cur)(h:∃e,w.heap[blk]?=some (.cells #[u,.int .i64 c.i,.int .i64 c.h] e (0,0))):Cw w blk u c w:=⟨rfl,rfl,rfl,qW _,λ_ _ _=>rfl,h⟩
def Cw.alloc {d w:World}{blk:Nat}{u:Value}{c:Cur}(h:Cw d blk u c w)(a:blk<w.heap.size)(o:Obj):Cw d blk u c (w.alloc o):=
 ⟨h.os,h.tape,h.output,qT h.size (by simp),λb a g=>(heap_alloc_old w o<|jG a h.size).trans (h.keep b a g),by obtain⟨e,f⟩:=h.cur;exact⟨e,(heap_alloc_old w o a).trans f⟩⟩
def Cw.lt {b w:World}{blk:Nat}{u:Value}{c:Cur}(h:Cw b blk u c w):blk<w.heap.size:=by obtain⟨e,a⟩:=h.cur;exact(qO.1 a).1
def zJQ {P:Program}{f:FuncId}{y:LC->LA->Option (Bool×LC×LA)}(V:zbX P f [false,true,true] y){w:World}{blk:Nat}{u:Value}{c c2:Cur}{z:zbc}(q:∃e,w.heap[blk]?=some (.cells #[u,.int .i64 c.i,.int .i64 c.h] e (0,0)))(hu:Rep false w u (.s .u8 c.b) z)(W:∀x,z x->x<w.heap.size/\x≠blk){avs rs:LA}{xs:List Value}{Ka:zbc}(l:zdY false w (zJ avs) xs λ_=>Ka)(p:∀x,Ka x->x<w.heap.size/\x≠blk)(hr:y (zb5 c) avs=some (true,zb5 c2,rs)) :
 Calls P f (#[.pointer<|some ⟨blk,0,none⟩]++(zb6 avs xs).toArray) w λe B=>∃C A,e = .returned (zlp<|zb6 rs C)/\Cw w blk u c2 B/\zvi (zqj f) B (zJ rs) C A/\(∀i x,i<(zJ rs).length->A i x->w.heap.size<=x/\x<B.heap.size):=by
 obtain⟨e,Y⟩:=q;refine(V.2 w blk _ e (zb5 c) (λj x=>j=0/\z x) avs xs Ka (zb5 c2) rs Y rfl rfl ?_ ?_ ?_ l ?_ hr).mono ?_
 .intro j cv v m k
  match j,m,k with
  | 0,m,k=>cases m;cases k;exact hu.weak (λx l=>⟨rfl,l⟩)
  | 1,m,k=>cases m;cases k;exact .i _ _ _
  | 2,m,k=>cases m;cases k;exact .i _ _ _
  |j+3,m,k=>simp[zb5]at m
 .intro j x _ l;exact W x l.2
 .intro i j x r t n hne l hx2;have:i=0:=l.1;subst this;simp[zbi]at n
 .intro x l;refine⟨(p x l).1,(p x l).2,λj t n d=>?_⟩;have:j=0:=d.1;subst this;simp[zbi]at n
 .intro E B hp;cases E with
  |panicked _=>exact hp.elim
  |outgrown=>exact hp.elim
  |returned v=>
   obtain⟨Q,R,S,T,U,a,G,K',C,A,I,L,g3,F,M,N,g7,O,g9,J,K⟩:=hp;have g:∀i x,i<(zb5 c).length->zbi [false,true,true] i->¬ ((λ(j:Nat) x=>j=0/\z x) i x):=by intro i x r n d;have:i=0:=d.1;subst this;simp[zbi]at n
   have k:a = #[u,.int .i64 c2.i,.int .i64 c2.h]:=by
    have hs:a.size=3:=L;have D:=(F 0 _ (a[0]'(by omega)) rfl (jK _)).2 (by simp[zbi]);have H:=F 1 _ (a[1]'(by omega)) rfl (jK _);have E:=F 2 _ (a[2]'(by omega)) rfl (jK _);have D:u=a[0]'(by omega):=(by simpa using D);apply Array.ext;{exact hs}
    .intro i r hi2
     match i,r with
     | 0,_=>exact D.symm
     | 1,_=>exact H
     | 2,_=>exact E
     |i+3,h=>omega
   subst k;refine⟨C,A,by rw[N],⟨Q,R,S,T,λb X Z=>U b X Z λj t n d=>g j b t n d,G,I⟩,M,λi x r d=>?_⟩;obtain⟨k1,k2,k3⟩:=O i x r d;rcases k3 with⟨j,t,n,d⟩|d;{exact absurd d (g j x t n)};{exact⟨d,k1⟩}
def zfD (c:Cur):List LI:=zh9 c 3
def zBz (c:Cur):Cur:={zjU c 3 with b:=c.b}
def z4D (c:Cur):Int:=zo (zBz c) 8
def zje (c:Cur):Cur:={zf (zBz c) 8 with b:=c.b}
def z4C (c:Cur):Int:=zo (zje c) 3
def zuU (c:Cur):Cur:={zf (zje c) 3 with b:=c.b}
def l04n (c:Cur):Int:=zo (zuU c) 4
def z4A (c:Cur):Cur:={zf (zuU c) 4 with b:=c.b}
def zv2 (c:Cur):Int:=zbq (zje c) [-1,100]
def z4B (c:Cur):Cur:={zbd (zje c) [-1,100] with b:=c.b}
def zpO (_:Nat)(c:Cur):OA:=
 bif zin c 3 then (bif zC (zBz c) 8 then (bif ieq (z4D c) 0 then (cond (zC (zje c) 3) (cond (zC (zuU c) 4) (some (AV.agg (zb5<|z4A c)::[aS (.sl .int)<|up (zfD c) (z4C c)<|tk (ix (zfD c) 0 [])<|l04n c])) none) none)
  else (bif ieq (z4D c) 1 then (cond (zbx (zje c) [-1,100]) (some (AV.agg (zb5<|z4B c)::[aS (.sl .int)<|up (zfD c) 1<|up (ix (zfD c) 1 []) 2<|zv2 c])) none)
  else (cond (ieq (z4D c) 2) (cond (zC (zje c) 3) (some (AV.agg (zb5<|zuU c)::[aS (.sl .int)<|tk (zfD c)<|z4C c])) none)<|some (AV.agg (zb5<|zje c)::[aS (.sl .int)<|zfD c])))) else none) else none
def zs3 (c:Cur)(s:Cur)(a:List LI):Prop:=(∃N,zpO N c=some (AV.agg (zb5 s)::[aS (.sl .int) a]))/\(s.b=c.b/\0<=s.i)/\(a.length<=3/\∀r∈a,r.length<=4)
def znS (c:Cur)  : Bool:=wC (zs3 c)
def zhv (c:Cur)  : Cur:=wS (zs3 c)
def zm1 (c:Cur)  : List LI:=wV (zs3 c)
def zBQ {c:Cur}(h:znS c=true):zs3 c (zhv c) (zm1 c):=wG h
def zO6 (c:Cur)  : 0<=(zhv c).i:=wP λh=>h.2.1.2
def z5f (c:Cur)(h:∃N,Ends (wE (λa=>aS (.sl .int) a) c.b λa=>a.length<=3/\∀r∈a,r.length<=4)<|zpO N c):znS c=true:=wI (λ_ _ h=>h) h
def zt7:zeg:=rP0 λc=>(znS c,zhv c,[aS (.sl .int)<|zm1 c])
def zbaa {w:World}{blk:Nat}{u:Value}{c:Cur}{l:zbc}{n:Int}(g:∃e,w.heap[blk]?=some (.cells #[u,.int .i64 c.i,.int .i64 c.h] e (0,0)))(t:Rep false w u (.s .u8 c.b) l)(q:∀x,l x->x<w.heap.size/\x≠blk)(r:zin c n=true) :
 Calls Tryz.prog 340 #[.pointer<|some ⟨blk,0,none⟩,.int .i64 n] w λe k=>∃v j,e = .returned v/\Cw w blk u {zjU c n with b:=c.b} k/\Rep true k v (.s (.sl .int)<|zh9 c n) j/\(∀x,j x->w.heap.size<=x/\x<k.heap.size):=by
 have:=zJQ (c:=c) (c2:=zjU c n) zzy g t q (avs:=[.one<|.i .i64 n]) (rs:=[aS (.sl .int)<|zh9 c n]) (xs:=[.int .i64 n]) (Ka:=λ_=>False) ⟨rfl,λi A x a d=>by
  match i,a,d with
  | 0,a,d=>cases a;cases d;exact .i _ _ _
  |i+1,a,d=>simp at d⟩ (λx d=>d.elim) (by show some (zin ⟨c.b,c.i,c.h⟩ n,_,_)=_;rw[show (⟨c.b,c.i,c.h⟩:Cur)=c from rfl,r])
 refine Calls.mono this ?_
 rintro e k ⟨z,j,rfl,f,m,p⟩
 match z,m.1 with
 |[y],_=>exact⟨y,j 0,rfl,⟨f.os,f.tape,f.output,f.size,f.keep,f.cur⟩,m.2 0 _ y rfl rfl,λx d=>p 0 x (by simp[zJ,AV.cvs]) d⟩
def zuO {w:World}{blk:Nat}{u:Value}{c:Cur}{j:zbc}{n:Int}(g:∃e,w.heap[blk]?=some (.cells #[u,.int .i64 c.i,.int .i64 c.h] e (0,0)))(r:Rep false w u (.s .u8 c.b) j)(p:∀x,j x->x<w.heap.size/\x≠blk)(q:zC c n=true) :
 Calls Tryz.prog 101 #[.pointer<|some ⟨blk,0,none⟩,.int .i64 n] w λe l=>e = .returned (.int .i64<|zo c n)/\Cw w blk u {zf c n with b:=c.b} l:=by
 have:=zJQ (c:=c) (c2:=zf c n) zvY g r p (avs:=[.one<|.i .i64 n]) (rs:=[aI<|zo c n]) (xs:=[.int .i64 n]) (Ka:=λ_=>False) ⟨rfl,λi z x a d=>by
  match i,a,d with
  | 0,a,d=>cases a;cases d;exact .i _ _ _
  |i+1,a,d=>simp at d⟩ (λx d=>d.elim) (by show some (zC ⟨c.b,c.i,c.h⟩ n,_,_)=_;rw[show (⟨c.b,c.i,c.h⟩:Cur)=c from rfl,q])
 refine Calls.mono this ?_
 rintro e l ⟨t,v,rfl,f,k,A⟩
 match t,k.1,k.2 with
 |[y],_,m=>have:=(m 0 _ y rfl rfl).int_inv;subst this;exact⟨rfl,f.os,f.tape,f.output,f.size,f.keep,f.cur⟩
def z7Y {w:World}{blk:Nat}{u:Value}{c:Cur}{k:zbc}{l:LI}{v:Value}{Ka:zbc}(f:∃e,w.heap[blk]?=some (.cells #[u,.int .i64 c.i,.int .i64 c.h] e (0,0)))(t:Rep false w u (.s .u8 c.b) k)(q:∀x,k x->x<w.heap.size/\x≠blk)(r:zbx c l=true)(z:Rep false w v (.s .int l) Ka)(j:∀x,Ka x->x<w.heap.size/\x≠blk) :
 Calls Tryz.prog 109 #[.pointer<|some ⟨blk,0,none⟩,v] w λe n=>e = .returned (.int .i64<|zbq c l)/\Cw w blk u {zbd c l with b:=c.b} n:=by
 have:=zJQ (c:=c) (c2:=zbd c l) zty f t q (avs:=[.one<|.s .int l]) (rs:=[aI<|zbq c l]) (xs:=[v]) (Ka:=Ka) ⟨rfl,λi C x a g=>by
  match i,a,g with
  | 0,a,g=>cases a;cases g;exact z
  |i+1,a,g=>simp at g⟩ j (by show some (zbx ⟨c.b,c.i,c.h⟩ l,_,_)=_;rw[show (⟨c.b,c.i,c.h⟩:Cur)=c from rfl,r])
 refine Calls.mono this ?_
 rintro e n ⟨A,B,rfl,d,m,D⟩
 match A,m.1,m.2 with
 |[y],_,p=>have:=(p 0 _ y rfl rfl).int_inv;subst this;exact⟨rfl,d.os,d.tape,d.output,d.size,d.keep,d.cur⟩
def z8f {w:World}{v:Value}{l:List LI}{K:zbc}(h:Rep true w v (.s (.sl .int) l) K)(n:l.length=3):∃(b off cap:Nat) (arr:LV) (e:TypeId) (V:Nat->Value) (c:Nat->zbc),v = .slice (some ⟨b,off,none⟩) 3 cap/\w.heap[b]?=some (.cells arr e (0,0))/\3<=cap/\off+cap<=arr.size/\K b/\
 (∀i x,i<3->c i x->K x/\x≠b)/\(∀i g x,i<3->g<3->c i x->c g x->i=g)/\(∀i,i<3->arr[off+i]?=some (V i))/\∀i x,l[i]?=some x->Rep true w (V i) (.s .int x) (c i):=by
 cases h with
 |nil=>simp at n
 |void _ _ _ B=>cases B
 |sl _ _ b off cap arr e E V c _ y k r p f u a d C z=>have:=k rfl;subst this;have t:Ty.wi (.sl .int)=1:=rfl;rw[t,vC]at f;refine⟨b,off,cap,arr,e,λi=>V i 0,λi=>c i 0,by rw[n],y,by omega,f,u,λi x q j=>⟨(a i 0 x (by omega) (by decide) j).1,(a i 0 x (by omega) (by decide) j).2 rfl⟩,λi g x q A j m=>(d rfl i 0 g 0 x (by omega) (by decide) (by omega) (by decide) j m).1,λi q=>?_,λi x D=>z i x D 0 _ rfl⟩;have:=C i 0 (by omega) (by decide);rwa [t,vC,jZ] at this
def zZk {w:World}{v:Value}{l:LI}{K:zbc}(h:Rep true w v (.s .int l) K)(d:l.length=4):∃(b off cap:Nat) (arr:LV) (e:TypeId),v = .slice (some ⟨b,off,none⟩) 4 cap/\w.heap[b]?=some (.cells arr e (0,0))/\4<=cap/\off+cap<=arr.size/\K b/\
 ∀i x,l[i]?=some x->arr[off+i]?=some (.int .i64 x):=by
 cases h with
 |nil=>simp at d
 |void _ _ _ u=>cases u
 |sl _ _ b off cap arr e A V z _ q c j f a p k g y r=>have:=c rfl;subst this;have m:Ty.wi .int=1:=rfl;rw[m,vC]at a;refine⟨b,off,cap,arr,e,by rw[d],q,by omega,a,p,λi x n=>?_⟩;have t:i<l.length:=(qA.1 n).1;have:=y i 0 t (by decide);rw[m,vC,jZ] at this;rw[this,(r i x n 0 (.i .i64 x) rfl).int_inv]
def zLm {o:Bool}{w:World}{b off cap:Nat}{arr:LV}{e:TypeId}(g:w.heap[b]?=some (.cells arr e (0,0))){l:LI}(r:l.length<=1000)(c:l.length<=cap)(m:off+cap<=arr.size)(n:∀i x,l[i]?=some x->arr[off+i]?=some (.int .i64 x)):Rep o w (.slice (some ⟨b,off,none⟩) l.length cap) (.s .int l) (λx=>x=b):=by
 refine .sl .int l b off cap arr e (0,0) (λi j=>.int .i64 (l.getD i 0)) (λ_ _ _=>False) _ g (λ_=>rfl) (by rw[ziJ];omega) c (by show off+cap*1<=arr.size;omega) rfl (λi j x _ _ h=>h.elim) (λ_ i j t u x _ _ _ _ h=>h.elim) (λi j f k=>?_) (λi x p j q a=>?_);{have d:j=0:=(by have:j<1:=k;omega);subst d;have:=n i _ (qB f);show arr[off+i*1+0]?=_;rw[vC,jZ,this];simp[List.getD,qB f]}
 .match j,a with
  | 0,a=>cases a;have:l.getD i 0=x:=(by simp[List.getD,p]);show Rep o w (.int .i64<|l.getD i 0) _ _;rw[this];exact .i _ _ _
  |j+1,a=>simp[Ty.cells]at a
def zLn {w:World}{b off cap:Nat}{arr:LV}{e:TypeId}(n:w.heap[b]?=some (.cells arr e (0,0))){l:List LI}(A:l.length<=1000)(c:l.length<=cap)(t:off+cap<=arr.size)(V:Nat->Value){K:zbc}(f:K b)(u:∀i,i<l.length->arr[off+i]?=some (V i))(r:∀i x,l[i]?=some x->∃d,Rep false w (V i) (.s .int x) d/\∀y,d y->K y):Rep false w (.slice (some ⟨b,off,none⟩) l.length cap) (.s (.sl .int) l) K:=by
 refine .sl (.sl .int) l b off cap arr e (0,0) (λi _=>V i) (λ_ _=>K) _ n (λ_=>rfl) (by rw[ziJ];omega) c (by show off+cap*1<=arr.size;omega) f (λi j x _ _ h=>⟨h,λh=>by cases h⟩) (λh=>by cases h) (λi j p q=>?_) (λi x v j z a=>?_);{have g:j=0:=(by have:j<1:=q;omega);subst g;show arr[off+i*1+0]?=_;rw[vC,jZ];exact u i p}
 .match j,a with
  | 0,a=>cases a;obtain⟨d,k,m⟩:=r i x v;exact k.weak m
  |j+1,a=>simp[Ty.cells]at a
def zxe {w:World}{b o:Nat}{arr:LV}{e:TypeId}(a:w.heap[b]?=some (.cells arr e (0,0))):w.frozen? ⟨b,o,none⟩=false:=by simp[World.frozen?,a]
set_option maxHeartbeats 3000000 in
def z01 {w:World}{blk:Nat}{u:Value}{c:Cur}{K0:zbc}{r:Ans}(N:Nat)(b5:∃e,w.heap[blk]?=some (.cells #[u,.int .i64 c.i,.int .i64 c.h] e (0,0)))(hu:Rep false w u (.s .u8 c.b) K0)(hK:∀x,K0 x->x<w.heap.size/\x≠blk)(hE:zpO N c=some r) :
 Calls Tryz.prog 243 #[.pointer<|some ⟨blk,0,none⟩] w λe p=>∃c2 l v Kr,r=AV.agg (zb5 c2)::[aS (.sl .int) l]/\e = .returned v/\Cw w blk u c2 p/\Rep false p v (.s (.sl .int) l) Kr/\(∀x,Kr x->w.heap.size<=x/\x<p.heap.size):=by
 unfold zpO at hE;cases hm:zin c 3 with
 |false=>rw[hm]at hE;cases hE
 |true=>
 cases K:zC (zBz c) 8 with
 |false=>rw[hm,K]at hE;cases hE
 |true=>
 rw[hm,K,cT,cT]at hE;have a7:∀{p:World} {O:Cur},Cw w blk u O p->O.b=c.b->Rep false p u (.s .u8 O.b) K0/\∀x,K0 x->x<p.heap.size/\x≠blk:=by intro p O h e;rw[e];exact⟨hu.frame λx d=>h.keep x (hK x d).1 (hK x d).2,λx d=>⟨jG (hK x d).1 h.size,(hK x d).2⟩⟩
 have hM:=(zvb hm).2.2 (by omega) (by omega)
 have a8:(zfD c).length=3:=by have:=hM.1;unfold ln at this;unfold zfD;omega
 have h5:=(zi8 K).2.2 (by omega)
 obtain⟨k,hk⟩:∃k,zo (zBz c) 8=k:=⟨_,rfl⟩;have f1:z4D c=k:=hk;rw[f1]at hE
 go_enter Tryz.func243,Tryz.ntmps243
 go_wp2_with fail
 refine(zbaa b5 hu hK hm).mono ?_
 rintro e L ⟨v,K1,rfl,F,b3,m⟩
 have b3:Rep true L v (.s (.sl .int)<|zfD c) K1:=b3;have F:Cw w blk u (zBz c) L:=F;obtain⟨E,t,a3,d7,e0,V,Kc,rfl,c3,g9,d1,Z,G,e9,hV,c1⟩:=z8f b3 a8;have h3:blk<w.heap.size:=by obtain⟨e,he⟩:=b5;exact(qO.1 he).1
 have e5:E≠blk:=by have:=(m E Z).1;omega
 have cellAt:∀{p:World} {O:Cur},Cw L blk u O p->p.heap[E]?=some (.cells d7 e0 (0,0)):=λh=>(h.keep E (m E Z).2 e5).trans c3
 go_wp2_with fail
 obtain⟨g1,f2⟩:=a7 F rfl;refine(zuO F.cur g1 f2 K).mono ?_;rw[hk]
 rintro e X ⟨rfl,B⟩
 have B:Cw L blk u (zje c) X:=B;obtain⟨g2,f3⟩:=a7 (F.trans B) rfl;have g0:=B.size;have g8:w.heap.size<=E/\E<L.heap.size:=m E Z
 have b2:∀{p:World} (i:Nat) (x:LI),(∀b,Kc i b->b<L.heap.size->b≠blk->b≠E->p.heap[b]?=L.heap[b]?)->i<3->(zfD c)[i]?=some x->Rep false p (V i) (.s .int x) (Kc i)/\∀y,Kc i y->w.heap.size<=y/\y<L.heap.size:=by intro p i x hf P d;refine⟨((c1 i x d).frame λy S=>?_).ro,λy S=>m y (G i y P S).1⟩;have:=m y (G i y P S).1;exact hf y S this.2 (by omega) (G i y P S).2
 go_wp2_with fail
 .have h0:ieq k 0=true:=by assumption
  rw[h0,cT]at hE;cases J:zC (zje c) 3 with
  |false=>rw[J]at hE;cases hE
  |true=>
  cases b4:zC (zuU c) 4 with
  |false=>rw[J,b4]at hE;cases hE
  |true=>
   rw[J,b4,cT,cT]at hE;have hj:=(zi8 J).2.2 (by omega);obtain⟨j,a0⟩:=u2 hj.1;have c8:z4C c=(j:Int):=a0;have hn:=(zi8 b4).2.2 (by omega);obtain⟨n,c9⟩:=u2 hn.1;have f8:l04n c=(n:Int):=c9;rw[c8,f8]at hE;rw[a0]at hj;rw[c9]at hn;have e6:j<3:=(by omega);have h6:n<4:=(by omega);obtain⟨R0,c0⟩:∃R0,(zfD c)[0]?=some R0:=⟨_,qB (by omega)⟩;have e2:R0.length=4:=hM.2 R0 (qK c0);obtain⟨f,a,g,T,e1,f0,c4,c6,a9,D,W⟩:=zZk (c1 0 R0 c0) e2;have Q:∀{p:World} {O:Cur},Cw L blk u O p->p.cell? ⟨E,t,none⟩=some (.slice (some ⟨f,a,none⟩) 4 g):=λh=>(by have:=hV 0 (by omega);rw[jZ,f0] at this;rw[F0<|cellAt h];exact this);have b7:∀{p:World} {O:Cur},Cw L blk u O p->p.cell? ⟨E,t+j,none⟩=some (V j)/\p.frozen? ⟨E,t+j,none⟩=false:=λh=>by rw[F0<|cellAt h];exact⟨hV j e6,zxe<|cellAt h⟩
   have d8:∀{I:World},Cw L blk u (z4A c) I->∃c2 l v Kr,r=AV.agg (zb5 c2)::[aS (.sl .int) l]/\Ending.returned (.slice (some ⟨E,t,none⟩) 3 a3) = .returned v/\Cw w blk u c2 (I.setCell ⟨E,t+j,none⟩<|.slice (some ⟨f,a,none⟩) n g)/\Rep false (I.setCell ⟨E,t+j,none⟩<|.slice (some ⟨f,a,none⟩) n g) v (.s (.sl .int) l) Kr/\
    (∀x,Kr x->w.heap.size<=x/\x<(I.setCell ⟨E,t+j,none⟩<|.slice (some ⟨f,a,none⟩) n g).heap.size):=by
    intro I h4;have hz:=h4.size;have a6:=m f (G 0 f (by omega) D).1
    have U:f≠blk:=by omega
    have a5:f≠E:=(G 0 f (by omega) D).2
    have ho:∀b,b≠E->(I.setCell ⟨E,t+j,none⟩<|.slice (some ⟨f,a,none⟩) n g).heap[b]?=I.heap[b]?:=λb K=>heap_setCell_other I _ b _ K;have d0:=heap_setCell_same I E (t+j) d7 e0 (.slice (some ⟨f,a,none⟩) n g) (cellAt h4);have A:=F.trans h4;refine⟨_,_,_,K1,(Option.some.inj hE).symm,rfl,⟨A.os,A.tape,A.output,by rw[World.size_setCell];exact A.size,λb K hn=>(ho b (by omega)).trans (A.keep b K hn),by obtain⟨e,he⟩:=A.cur;exact⟨e,(ho blk λh=>e5 h.symm).trans he⟩⟩,?_,λx d=>⟨(m x d).1,by rw[World.size_setCell];have:=m x d;omega⟩⟩
    have c7:ix (zfD c) 0 []=R0:=by unfold ix;simp[List.getD,c0]
    have a1:(up (zfD c) (j:Int)<|tk (ix (zfD c) 0 []) (n:Int)).length=3:=by rw[zjF];exact a8
    have:=zLn d0 (l:=up (zfD c) (j:Int) (tk (ix (zfD c) 0 []) (n:Int))) (by omega) (cap:=a3) (off:=t) (by omega) (by simpa using d1) (λi=>if i=j then .slice (some ⟨f,a,none⟩) n g else V i) Z (λi P=>by
     rw[a1]at P;rw[uF]
     by_cases M:i=j
     .subst M;rw[if_pos rfl,if_pos (by omega),if_pos rfl]
     .rw [if_neg (by omega),if_neg M]
      exact hV i P) (λi x d=>by
     have P:i<3:=by rw[<- a1];exact(qA.1 d).1
     unfold up at d;rw[q0]at d
     by_cases M:i=j
     .subst M;rw[kO,if_pos rfl,if_pos (by omega),c7]at d
      cases d;refine⟨λx=>x=f,?_,λy S=>by rw[S];exact(G 0 f (by omega) D).1⟩
      have hl:(tk R0 (n:Int)).length=n:=by simp[tk];omega
      have:=zLm (o:=false) (w:=I.setCell ⟨E,t+i,none⟩ (.slice (some ⟨f,a,none⟩) n g)) (b:=f) (off:=a) (cap:=g) (arr:=T) (e:=e1) ((ho f a5).trans ((h4.keep f a6.2 U).trans c4)) (l:=tk R0 (n:Int)) (by omega) (by omega) a9 (λq z hq=>by
       unfold tk at hq;rw[jF]at hq;split at hq
       .exact W q z hq
       .cases hq)
      rw[hl] at this;rw[if_pos rfl];exact this
     .rw [kO,if_neg (by omega)]at d
      rw[if_neg M];exact⟨Kc i,(b2 i x (λb _ K hn c3=>(ho b c3).trans (h4.keep b K hn)) P d).1,λy S=>(G i y P S).1⟩)
    rw[a1] at this;exact this
   have Y:Cw L blk u (zje c) X.drew:=B.drew;obtain⟨e8,e7⟩:=a7 (F.trans Y) rfl;have d2:=Q Y
   go_region_with (first
    |(go_at_call_of 101 (Value.int IntKind.i64 3);refine(zuO (c:=zje c) (n:=3) Y.cur e8 e7 J).mono ?_;rw[a0];rintro e w3 ⟨rfl,H⟩;have H:Cw X.drew blk u (zuU c) w3:=H;have C:=Y.trans H;have d3:=Q C;obtain⟨g3,f4⟩:=a7 (F.trans C) rfl)
    |(go_at_call_of 101 (Value.int IntKind.i64 4);refine(zuO (c:=zuU c) (n:=4) C.cur g3 f4 b4).mono ?_;rw[c9];rintro e I ⟨rfl,b8⟩;have b8:Cw w3 blk u (z4A c) I:=b8;have b9:=C.trans b8;have d4:=Q b9;obtain⟨d5,d6⟩:=b7 b9))
   (all_goals go_wp2);(all_goals go_ret);all_goals exact d8 b9
 .have h0:ieq k 0=false:=by assumption
  have h1:ieq k 1=true:=by assumption
  rw[h0,h1,cF,cT]at hE;cases c5:zbx (zje c) [-1,100] with
  |false=>rw[c5]at hE;cases hE
  |true=>
   rw[c5,cT]at hE;obtain⟨R1,a4⟩:∃R1,(zfD c)[1]?=some R1:=⟨_,qB (by omega)⟩;have e3:R1.length=4:=hM.2 R1 (qK a4);obtain⟨f,a,g,T,e1,e4,c4,c6,a9,D,W⟩:=zZk (c1 1 R1 a4) e3;have a6:=m f (G 1 f (by omega) D).1;have U:f≠blk:=(by omega);have a5:f≠E:=(G 1 f (by omega) D).2;have R:∀{p:World} {O:Cur},Cw L blk u O p->p.cell? ⟨E,t+1,none⟩=some (.slice (some ⟨f,a,none⟩) 4 g):=λh=>(by have:=hV 1 (by omega);rw[e4] at this;rw[F0<|cellAt h];exact this);have a2:∀{p:World} {O:Cur},Cw L blk u O p->p.heap[f]?=some (.cells T e1 (0,0)):=λh=>(h.keep f a6.2 U).trans c4;have b6:∀{p:World} {O:Cur},Cw L blk u O p->p.cell? ⟨f,a+2,none⟩=some (.int .i64 R1[2])/\p.frozen? ⟨f,a+2,none⟩=false:=λh=>by rw[F0<|a2 h];exact⟨W 2 _<|qB (by omega),zxe<|a2 h⟩
   have Y:Cw L blk u (zje c) X.drew:=B.drew;have d2:=R Y;have d9:∀{I:World},Cw L blk u (z4B c) I->∃c2 l v Kr,r=AV.agg (zb5 c2)::[aS (.sl .int) l]/\Ending.returned (.slice (some ⟨E,t,none⟩) 3 a3) = .returned v/\Cw w blk u c2 (I.setCell ⟨f,a+2,none⟩<|.int .i64<|zv2 c)/\Rep false (I.setCell ⟨f,a+2,none⟩<|.int .i64<|zv2 c) v (.s (.sl .int) l) Kr/\
    (∀x,Kr x->w.heap.size<=x/\x<(I.setCell ⟨f,a+2,none⟩<|.int .i64<|zv2 c).heap.size):=by
    intro I h4;have hz:=h4.size;have ho:∀b,b≠f->(I.setCell ⟨f,a+2,none⟩<|.int .i64<|zv2 c).heap[b]?=I.heap[b]?:=λb K=>heap_setCell_other I _ b _ K;have d0:=heap_setCell_same I f (a+2) T e1 (.int .i64<|zv2 c) (a2 h4);have A:=F.trans h4;refine⟨_,_,_,K1,(Option.some.inj hE).symm,rfl,⟨A.os,A.tape,A.output,by rw[World.size_setCell];exact A.size,λb K hn=>(ho b (by omega)).trans (A.keep b K hn),by obtain⟨e,he⟩:=A.cur;exact⟨e,(ho blk λh=>U h.symm).trans he⟩⟩,?_,λx d=>⟨(m x d).1,by rw[World.size_setCell];have:=m x d;omega⟩⟩
    have c7:ix (zfD c) 1 []=R1:=by unfold ix;show (zfD c).getD 1 []=R1;simp[List.getD,a4]
    have a1:(up (zfD c) 1<|up (ix (zfD c) 1 []) 2<|zv2 c).length=3:=by rw[zjF];exact a8
    have:=zLn ((ho E λh=>a5 h.symm).trans (cellAt h4)) (l:=up (zfD c) 1 (up (ix (zfD c) 1 []) 2<|zv2 c)) (by omega) (cap:=a3) (off:=t) (by omega) d1 V Z (λi P=>hV i (by omega)) (λi x d=>by
     have P:i<3:=by rw[<- a1];exact(qA.1 d).1
     unfold up at d;rw[q0]at d
     by_cases M:i=1
     .subst M;rw[show (1:Int).toNat=1 from rfl,if_pos rfl,if_pos (by omega),c7]at d
      cases d;refine⟨λx=>x=f,?_,λy S=>by rw[S];exact(G 1 f (by omega) D).1⟩
      have hl:(List.set R1 (2:Int).toNat<|zv2 c).length=4:=by simp;omega
      have:=zLm (o:=false) (w:=I.setCell ⟨f,a+2,none⟩ (.int .i64<|zv2 c)) (b:=f) (off:=a) (cap:=g) d0 (l:=List.set R1 (2:Int).toNat (zv2 c)) (by omega) (by omega) (by simpa using a9) (λq z hq=>by
       rw[q0]at hq;rw[uF]
       by_cases f9:q=2
       .subst f9;rw[show (2:Int).toNat=2 from rfl,if_pos rfl,if_pos (by omega)]at hq
        cases hq;rw[if_pos rfl,if_pos (by omega)]
       .rw [show (2:Int).toNat=2 from rfl,if_neg (by omega)]at hq
        rw[if_neg (by omega)]
        exact W q z hq)
      rw[hl] at this;rw[e4];exact this
     .rw [show (1:Int).toNat=1 from rfl,if_neg (by omega)]at d
      refine⟨Kc i,(b2 i x (λb f6 K hn g7=>?_) P d).1,λy S=>(G i y P S).1⟩;exact(ho b λe=>M (e9 i 1 b P (by omega) f6 (by rw[e];exact D))).trans (h4.keep b K hn))
    rw[a1] at this;exact this
   have hA:Cw L blk u (zje c) (X.alloc<|Obj.cells #[Value.int .i64<|-1,Value.int .i64 100] 3).drew:=(B.alloc B.lt _).drew;obtain⟨g4,f5⟩:=a7 (F.trans hA) rfl;have dA:=R hA;have g5:Rep false (X.alloc<|Obj.cells #[Value.int .i64<|-1,Value.int .i64 100] 3).drew (.slice (some ⟨X.heap.size,0,none⟩) 2 2) (.s .int [-1,100]) (λx=>x=X.heap.size):=by
    have hh:(X.alloc<|Obj.cells #[Value.int .i64<|-1,Value.int .i64 100] 3).drew.heap[X.heap.size]?=some (.cells #[Value.int .i64<|-1,Value.int .i64 100] 3 (0,0)):=heap_alloc_new X _;exact zLm (o:=false) hh (l:=[-1,100]) (cap:=2) (off:=0) (by decide) (by decide) (by decide) (λi x d=>by
     match i,d with
     | 0,d=>cases d;rfl
     | 1,d=>cases d;rfl
     |i+2,d=>simp at d)
   go_region_with (first
    |(go_at_call_of 109 (Value.slice (some ⟨X.heap.size,0,none⟩) 2 2);refine(z7Y (c:=zje c) (l:=[-1,100]) hA.cur g4 f5 c5 g5 (λx d=>by rw[d];exact⟨by simp,Nat.ne_of_gt B.lt⟩)).mono ?_;rintro e w3 ⟨rfl,H⟩;have H:Cw (X.alloc<|Obj.cells #[Value.int .i64<|-1,Value.int .i64 100] 3).drew blk u (z4B c) w3:=H;have C:=hA.trans H;have d3:=R C;obtain⟨d4,d5⟩:=b6 C))
   (all_goals go_wp2);(all_goals go_ret);all_goals exact d9 C
 .have h0:ieq k 0=false:=by assumption
  have h1:ieq k 1=false:=by assumption
  have h2:ieq k 2=true:=by assumption
  rw[h0,h1,h2,cF,cF,cT]at hE;cases J:zC (zje c) 3 with
  |false=>rw[J]at hE;cases hE
  |true=>
   rw[J,cT]at hE;have hj:=(zi8 J).2.2 (by omega);obtain⟨j,a0⟩:=u2 hj.1;have c8:z4C c=(j:Int):=a0;rw[c8]at hE;refine(zuO B.cur g2 f3 J).mono ?_;rw[a0];rintro e w3 ⟨rfl,H⟩;have H:Cw X blk u (zuU c) w3:=H;go_wp2;go_ret;have e6:j<3:=(by omega);have f7:(tk (zfD c) (j:Int)).length=j:=(by simp[tk];omega);have C:=B.trans H;refine⟨_,_,_,K1,(Option.some.inj hE).symm,rfl,F.trans C,?_,λx d=>⟨(m x d).1,by have:=m x d;have:=C.size;omega⟩⟩
   have:=zLn (cellAt C) (l:=tk (zfD c) (j:Int)) (by omega) (cap:=a3) (off:=t) (by omega) d1 V Z (λi P=>hV i (by omega)) (λi x d=>by
    have P:i<(tk (zfD c) (j:Int)).length:=(qA.1 d).1;have g6:(zfD c)[i]?=some x:=by unfold tk at d;rw[jF]at d;split at d;{exact d};{cases d}
    exact⟨Kc i,(b2 i x (λb _ K hn _=>C.keep b K hn) (by omega) g6).1,λy S=>(G i y (by omega) S).1⟩)
   rw[f7] at this;exact this
 .have h0:ieq k 0=false:=by assumption
  have h1:ieq k 1=false:=by assumption
  have h2:ieq k 2=false:=by assumption
  rw[h0,h1,h2,cF,cF,cF]at hE
  go_ret
  exact⟨_,_,_,K1,(Option.some.inj hE).symm,rfl,F.trans B,(b3.frame λx d=>B.keep x (m x d).2 (by have:=m x d;omega)).ro,λx d=>⟨(m x d).1,by have:=m x d;omega⟩⟩
def zBy {c:Cur}(h:zbb c):znS c=true:=by
 refine z5f c ⟨0,?_⟩;unfold zpO;have t:=zbcl h (a0:=3) (by omega) (by omega);have y:zbb (zBz c):=zbJ h (zO7 _ _);have k:zbb (zje c):=zbJ h (zG _ _);have z:zbb (zuU c):=zbJ h (zG _ _);have p:=(zvb t).2.2 (by omega) (by omega);have A:(zfD c).length=3:=(by have:=p.1;unfold ln at this;unfold zfD;omega);have f:∀r∈zfD c,r.length<=4:=λr f=>uD (p.2 r f);have u:∀n,(ix (zfD c) n []).length<=4:=(by intro n;unfold ix List.getD;cases e:(zfD c)[n.toNat]? with|none=>simp|some r=>exact f r (qK e));have g:∀(n:Int) (r:LI),r.length<=4->∀q∈up (zfD c) n r,q.length<=4:=by intro n r j q e;rcases qZ e with e|rfl;{exact f q e};{exact j}
 have d:∀(s:Cur) (l:List LI),s.b=c.b->0<=s.i->l.length<=3->(∀r∈l,r.length<=4)->Ends (λa=>∃s m,a=(AV.agg (zb5 s)::[aS (.sl .int) m])/\(s.b=c.b/\0<=s.i)/\(m.length<=3/\∀r∈m,r.length<=4)) (some (AV.agg (zb5 s)::[aS (.sl .int) l])):=
  λs l v w x j=>⟨_,rfl,s,l,rfl,⟨v,w⟩,x,j⟩
 exact zB t (zB (zbw y 8) (zby (λ_=>zB (zbw k 3) (zB (zbw z 4) (d _ _ rfl (zG _ _) (by rw[zjF];omega) (g _ _<|qT (zFx _ _)<|u _))))
  (λ_=>zby (λ_=>zB (zfa k (by simp)) (d _ _ rfl (zb1 _ _) (by rw[zjF];omega) (g _ _ (by rw[zjF];exact u _)))) λ_=>zby (λ_=>zB (zbw k 3) (d _ _ rfl (zG _ _) (qT (zFx _ _) (by omega)) λr e=>f r (jX e))) λ_=>d _ _ rfl (zG _ _) (by omega) f)))
def zRa:zbX Tryz.prog 243 [false,true,true] zt7:=by
 refine⟨zkp (by kernel_rfl),?_⟩;intro w blk d e cs K T xs Ka U rs D P a4 k A X n W g;unfold zt7 rP0 at g;obtain⟨⟨p,q,r⟩,rfl,g⟩:=z7S g;obtain⟨rfl,R,rfl,rfl⟩:=zxq g;dsimp only at R ⊢;have hs:d.size=3:=P;have M:xs=[]:=List.eq_nil_of_length_eq_zero n.1;subst M;obtain⟨N,hE⟩:=(zBQ R).1;have v1:=(k 1 _ (d[1]'(by omega)) rfl (jK _)).int_inv;have v2:=(k 2 _ (d[2]'(by omega)) rfl (jK _)).int_inv
 have m:d = #[d[0]'(by omega),.int .i64 q,.int .i64 r]:=by
  apply Array.ext;{exact hs}
  .intro i E hi2
   match i,E with
   | 0,_=>rfl
   | 1,_=>exact v1
   | 2,_=>exact v2
   |i+3,h=>omega
 have hu:=k 0 _ (d[0]'(by omega)) rfl (jK _);have f:Rep false w (d[0]'(by omega)) (.s .u8 p) (K 0):=hu;generalize d[0]'(by omega)=u at m f;subst m;refine(z01 (c:=⟨p,q,r⟩) (u:=u) (K0:=K 0) N ⟨e,D⟩ f (λx n=>A 0 x (show 0<3 by decide) n) hE).mono ?_;rintro e2 w' ⟨z,l,v,S,hr,rfl,y,Y,t⟩;have B:AV.agg (zb5<|zhv ⟨p,q,r⟩)::[aS (.sl .int)<|zm1 ⟨p,q,r⟩]=AV.agg (zb5 z)::[aS (.sl .int) l]:=hr;simp only[List.cons.injEq,AV.agg.injEq,AV.one.injEq,and_true]at B;obtain⟨C,I⟩:=B;have I:zm1 ⟨p,q,r⟩=l:=(by cases I;rfl);subst I;have O:zhv ⟨p,q,r⟩=z:=(by have C:=C;simp only[zb5,List.cons.injEq,CV.s.injEq,CV.i.injEq,true_and,and_true,heq_eq_eq]at C;obtain⟨F,G,H⟩:=C;generalize zhv ⟨p,q,r⟩=s at F G H;obtain⟨a1,a2,a3⟩:=s;obtain⟨b1,b2,b3⟩:=z;simp only at F G H;rw[F,G,H]);rw[O];obtain⟨V,J⟩:=y.cur;refine⟨y.os,y.tape,y.output,y.size,λb D hn _=>y.keep b D hn,#[u,.int .i64 z.i,.int .i64 z.h],V,λ_ _=>False,[v],λ_=>S,J,rfl,rfl,?_,⟨rfl,λi Q x a n=>?_⟩,rfl,λj x _ h=>h.elim,λi x E L=>⟨(t x L).2,?_,.inr (t x L).1⟩,λi j x _ _ _ h=>h.elim,?_,λi j x _ _ h=>h.elim⟩
 .intro j Q u' a f
  match j,a,f with
  | 0,a,f=>cases a;exact⟨λh=>by simp[zbi]at h,λ_=>f⟩
  | 1,a,f=>cases a;cases f;rfl
  | 2,a,f=>cases a;cases f;rfl
  |j+3,a,f=>simp[zb5]at a
 .match i,a,n with
  | 0,a,n=>cases a;cases n;exact Y
  |i+1,a,n=>simp at n
 {have:=(qO.1 D).1;have:=(t x L).1;omega};{intro i j Q x E ho Z a0 _;have h1:i<1:=(qA.1 E).1;have h2:j<1:=Z;omega}
def zbcF:zcW:=[(243,[false,true,true],zt7)]++zbcE
def zY8:zb7 zbcF:=zcq zbak (by
 intro x a;simp only[qG,qM,or_false]at a;rcases a with rfl
 .exact zRa)
end
def zbfx:zZ:=[(197,znH),(384,zkR)]++zbbA
def zJJ:zS zbfx:=zh zo9 (zh zvW ze4)
def zGm {g:Type}{c e:Cur}(h:zbb c)(j:0<=e.i){P:g->Prop}{q:Int}(A:0<q)(M:q<=1000){fc:Cur->Bool}{fs:Cur->Cur}{fv:Cur->g}(E:∀{c:Cur},zbb c->fc c=true)(H:∀c,0<=(fs c).i)(hg:∀{c:Cur},zbb c->P (fv c)){G:Ans->Prop}{l0:List g}{z:Nat}(O:l0.length<=z)(I:z<=1000)(m:∀x∈l0,P x){p:Type}(S:Nat->Int×Int×Int×List g->p){F:(p->OA)->p->OA}(D:∀rec t i k l,∃r,F rec (S 0 (t,i,k,l))=(bif zC ⟨c.b,i,k⟩ q then (bif ilt t (zo ⟨c.b,i,k⟩ q) then (bif fc { zf ⟨c.b,i,k⟩ q with b:=c.b } then (bif few (ln (ap l [fv { zf ⟨c.b,i,k⟩ q with b:=c.b }])) then
        rec (S 0 (zI .i64 t 1,(fs {zf ⟨c.b,i,k⟩ q with b:=c.b}).i,(fs {zf ⟨c.b,i,k⟩ q with b:=c.b}).h,ap l [fv {zf ⟨c.b,i,k⟩ q with b:=c.b}])) else none) else none) else some r) else none)/\(ln l<=z+q->(∀x∈l,P x)->G r)):Ends G (r0 1002 F (S 0 (0,e.i,e.h,l0))):=by
 refine zjB (fun n s=>∃t i k l,s=S 0 (t,i,k,l)/\t+(n:Int)=1000/\0<=t/\t<=q/\0<=i/\(∀x∈l,P x)/\ln l<=z+t) ?_ 1002 1000 _ ⟨0,e.i,e.h,l0,rfl,rfl,kF 0,by omega,j,m,by unfold ln;omega⟩ (by omega)
 rintro n s rec ⟨t,i,k,l,rfl,J,B,K,C,u,L⟩ f
 obtain⟨r,hF1,hF2⟩:=D rec t i k l;rw[hF1];have a:zbb ⟨c.b,i,k⟩:=zbJ h C;have d:=zfB a A;have v:zbb {zf ⟨c.b,i,k⟩ q with b:=c.b}:=zbJ h (zG _ _);refine zB (zbw a _) (zby (fun w=>?_) (fun w=>?_))
 .have hlt:t<zo ⟨c.b,i,k⟩ q:=qD w;have N:=ziQ (y:=1) B (by omega) (by omega) (by omega)
  refine zB (E v) (zB (ziW (by rw[zgB];omega)) (f (n-1) _ (by omega) ⟨_,_,_,_,rfl,by omega,by omega,by omega,H _,?_,by rw[zgB];omega⟩))
  intro x d;rcases jC.1 d with d|d
  .exact u x d
  .rw [qF.1 d];exact hg v
 .exact zto (hF2 (by omega) u)
def z6V {c d:Cur}(h:zbb c)(f:0<=d.i){m q x:Int}(t:0<q)(g:0<=m)(D:m+q<=1000){G:Ans->Prop}{l0:LI}(B:ln l0<=m+q){j:Type}(S:Nat->Int×Int×LI->j){F:(j->OA)->j->OA}(w:∀rec i k l,∃r,F rec (S 0 (i,k,l))=(bif zC ⟨c.b,i,k⟩ q then (bif ilt (ln l) (zI .i64 m (zo ⟨c.b,i,k⟩ q)) then (bif few (ln (ap l [x])) then
        rec (S 0 ((zf ⟨c.b,i,k⟩ q).i,(zf ⟨c.b,i,k⟩ q).h,ap l [x])) else none) else some r) else none)/\(ln l<=m+q->G r)):Ends G (r0 1002 F (S 0 (d.i,d.h,l0))):=by
 refine zjB (fun n s=>∃i k l,s=S 0 (i,k,l)/\ln l+(n:Int)=1000/\0<=i/\ln l<=m+q) ?_ 1002 (1000-ln l0).toNat _ ⟨d.i,d.h,l0,rfl,by unfold ln at *;omega,f,B⟩ (by unfold ln at *;omega)
 rintro n s rec ⟨i,k,l,rfl,C,u,v⟩ e
 obtain⟨r,hF1,hF2⟩:=w rec i k l;rw[hF1];have a:zbb ⟨c.b,i,k⟩:=zbJ h u;have A:=zfB a t;have z:=ziQ (x:=m) (y:=zo ⟨c.b,i,k⟩ q) g (by omega) A.1 (by omega)
 refine zB (zbw a _) (zby (fun p=>?_) (fun p=>?_))
 .have hlt:ln l<zI .i64 m (zo ⟨c.b,i,k⟩ q):=qD p;rw[z]at hlt;exact zB (ziW (by rw[zgB];omega)) (e (n-1) _ (by unfold ln at *;omega) ⟨_,_,_,rfl,by rw[zgB];omega,zG _ _,by rw[zgB];omega⟩)
 .exact zto (hF2 v)
def GuS (g:ah):Prop:=g.au.length<=13/\g.ax.length<=4/\g.av.length<=4/\g.aC.length<=50
def zF7 {c:Cur}(h:zbb c):(zd4 c 4 8).length<=4:=by have:=(zbeg h (n:=4) (m:=8) (by omega) (by omega) (by omega) (by omega)).1;unfold ln at this;omega
def zvB (N:Nat)(c:Cur)  : OA :=
 let C:=({ (zbf c) with b:=c.b}:Cur);let v:=zd4 C 4 8;let d:=zcJ<|zcj c;let y9:=({ (zN C 4 8) with b:=c.b}:Cur);let x:=zd4 y9 4 8;let y2:=({ (zN y9 4 8) with b:=c.b}:Cur);let w:=zo y2 100;let B:=({ (zf y2 100) with b:=c.b}:Cur);let y:=zo B 4;let y0:=({ (zf B 4) with b:=c.b}:Cur);let I:=({ (zcx y0) with b:=c.b}:Cur);let e:=zcS y0;let A:=({ (zV I 3) with b:=c.b}:Cur);let H:=({ (zf A 256) with b:=c.b}:Cur);let r:=({ (zV A 4) with b:=c.b}:Cur);let u:=({ (zgm r) with b:=c.b}:Cur);let q:=({ (zV H 4) with b:=c.b}:Cur);let t:=({ (zgm q) with b:=c.b}:Cur); (oN (ziC c)<|oN (zkT<|zcj c)<|oN (zi9 C 4 8)<|oN (zi9 y9 4 8)<|oN (zC y2 100)<|oN (zC B 4)<|oN (zlx y0)<|oN (zc6 I 3)<|cond (zdo I 3) (oN (zC A 256)<|oN (zc6 H 4)<|cond (zdo H 4) (oN (zke q)<|oN (zc6 t 12)<|r0 (σ:=(Int×Int×Int×Int×Int×Int×Int×Bool×Int×Int×Int×Bool×Int×Bool×Int×Int×Int×Int×Bool×Int×Int×Int×Bool×Int×Bool×LI×lI×lS×lS×LI×lI×lS×lS×LI×Unit)) N (λz a=>let c:=a.2.2.2.2.2.2.2.2.2.2.2.2;let d:=c.2.2.2.2.2.2.2.2.2.2;let d6:=c.2.2.1;let d2:=c.2.2.2.1;let c8:=c.2.2.2.2.1;let c4:=c.2.2.2.2.2.1;let c0:=c.2.2.2.2.2.2.1;let b6:=c.2.2.2.2.2.2.2.1;let b2:=c.2.2.2.2.2.2.2.2.1;let a8:=c.2.2.2.2.2.2.2.2.2.1;let a4:=d.1;let a0:=d.2.1;let W:=d.2.2.1;let S:=d.2.2.2.2.2.2.2.2.1;let O:=d.2.2.2.2.2.2.2.2.2.1;let J:=d.2.2.2.2.2.2.2.2.2.2.1;let D:=d.2.2.2.2.2.2.2.2.2.2.2.1;let y4:=d.2.2.2.1;let l:=(⟨y4,a.2.1,a.2.2.1⟩:Cur);let f:=({ (zf l 4) with b:=y4}:Cur); (oN (zC l 4)<|cond (ilt a.1<|zo l 4) (oN (zC f 100)<|oN (few<|ln<|ap D [zo f 100])<|z (zI .i64 a.1 1,(zf f 100).i,(zf f 100).h,a.2.2.2.1,a.2.2.2.2.1,a.2.2.2.2.2.1,a.2.2.2.2.2.2.1,a.2.2.2.2.2.2.2.1,a.2.2.2.2.2.2.2.2.1,a.2.2.2.2.2.2.2.2.2.1,a.2.2.2.2.2.2.2.2.2.2.1,a.2.2.2.2.2.2.2.2.2.2.2.1,c.1,c.2.1,d6,d2,c8,c4,c0,b6,b2,a8,a4,a0,W,y4,d.2.2.2.2.1,d.2.2.2.2.2.1,d.2.2.2.2.2.2.1,d.2.2.2.2.2.2.2.1,S,O,J,ap D [zo f 100],()))<|some [.agg [.s .u8 y4,.i .i64 (zf l 4).i,.i .i64 (zf l 4).h],aT .guest (⟨S,d6,d2,O,J,⟨c8,c4,c0⟩,b6,⟨b2,a8,a4,a0⟩,W,D⟩:ah)])) (0,(zV t 12).i,(zV t 12).h,0,0,0,0,false,0,0,0,false,0,false,w,y,e.aq,e.Post,e.Open,zo A 256,(zcs q).Kind,(zcs q).af,(zcs q).Write,(zcs q).N,zdo t 12,c.b,[],[],[],[],d.au,v,x,d.aC,()))<|oN (zc6 q 12)<|r0 (σ:=(Int×Int×Int×Int×Int×Int×Int×Bool×Int×Int×Int×Bool×Int×Bool×Int×Int×Int×Int×Bool×Int×Int×Int×Bool×Int×Bool×LI×lI×lS×lS×LI×lI×lS×lS×LI×Unit)) N (λz a=>let c:=a.2.2.2.2.2.2.2.2.2.2.2.2;let d:=c.2.2.2.2.2.2.2.2.2.2;let d7:=c.2.2.1;let d3:=c.2.2.2.1;let c9:=c.2.2.2.2.1;let c5:=c.2.2.2.2.2.1;let c1:=c.2.2.2.2.2.2.1;let b7:=c.2.2.2.2.2.2.2.1;let b3:=c.2.2.2.2.2.2.2.2.1;let a9:=c.2.2.2.2.2.2.2.2.2.1;let a5:=d.1;let a1:=d.2.1;let X:=d.2.2.1;let T:=d.2.2.2.2.2.2.2.2.1;let P:=d.2.2.2.2.2.2.2.2.2.1;let K:=d.2.2.2.2.2.2.2.2.2.2.1;let E:=d.2.2.2.2.2.2.2.2.2.2.2.1;let y5:=d.2.2.2.1;let m:=(⟨y5,a.2.1,a.2.2.1⟩:Cur);let g:=({ (zf m 4) with b:=y5}:Cur); (oN (zC m 4)<|cond (ilt a.1<|zo m 4) (oN (zC g 100)<|oN (few<|ln<|ap E [zo g 100])<|z (zI .i64 a.1 1,(zf g 100).i,(zf g 100).h,a.2.2.2.1,a.2.2.2.2.1,a.2.2.2.2.2.1,a.2.2.2.2.2.2.1,a.2.2.2.2.2.2.2.1,a.2.2.2.2.2.2.2.2.1,a.2.2.2.2.2.2.2.2.2.1,a.2.2.2.2.2.2.2.2.2.2.1,a.2.2.2.2.2.2.2.2.2.2.2.1,c.1,c.2.1,d7,d3,c9,c5,c1,b7,b3,a9,a5,a1,X,y5,d.2.2.2.2.1,d.2.2.2.2.2.1,d.2.2.2.2.2.2.1,d.2.2.2.2.2.2.2.1,T,P,K,ap E [zo g 100],()))<|some [.agg [.s .u8 y5,.i .i64 (zf m 4).i,.i .i64 (zf m 4).h],aT .guest (⟨T,d7,d3,P,K,⟨c9,c5,c1⟩,b7,⟨b3,a9,a5,a1⟩,X,E⟩:ah)])) (0,(zV q 12).i,(zV q 12).h,0,0,0,0,false,0,0,0,false,0,false,w,y,e.aq,e.Post,e.Open,zo A 256,d.Exit.Kind,d.Exit.af,d.Exit.Write,d.Exit.N,zdo q 12,c.b,[],[],[],[],d.au,v,x,d.aC,()))<|oN (zc6 A 4)<|cond (zdo A 4) (oN (zke r)<|oN (zc6 u 12)<|r0 (σ:=(Int×Int×Int×Int×Int×Int×Int×Bool×Int×Int×Int×Bool×Int×Bool×Int×Int×Int×Int×Bool×Int×Int×Int×Bool×Int×Bool×LI×lI×lS×lS×LI×lI×lS×lS×LI×Unit)) N (λz a=>let c:=a.2.2.2.2.2.2.2.2.2.2.2.2;let d:=c.2.2.2.2.2.2.2.2.2.2;let d8:=c.2.2.1;let d4:=c.2.2.2.1;let d0:=c.2.2.2.2.1;let c6:=c.2.2.2.2.2.1;let c2:=c.2.2.2.2.2.2.1;let b8:=c.2.2.2.2.2.2.2.1;let b4:=c.2.2.2.2.2.2.2.2.1;let b0:=c.2.2.2.2.2.2.2.2.2.1;let a6:=d.1;let a2:=d.2.1;let Y:=d.2.2.1;let U:=d.2.2.2.2.2.2.2.2.1;let Q:=d.2.2.2.2.2.2.2.2.2.1;let L:=d.2.2.2.2.2.2.2.2.2.2.1;let F:=d.2.2.2.2.2.2.2.2.2.2.2.1;let y6:=d.2.2.2.1;let n:=(⟨y6,a.2.1,a.2.2.1⟩:Cur);let j:=({ (zf n 4) with b:=y6}:Cur); (oN (zC n 4)<|cond (ilt a.1<|zo n 4) (oN (zC j 100)<|oN (few<|ln<|ap F [zo j 100])<|z (zI .i64 a.1 1,(zf j 100).i,(zf j 100).h,a.2.2.2.1,a.2.2.2.2.1,a.2.2.2.2.2.1,a.2.2.2.2.2.2.1,a.2.2.2.2.2.2.2.1,a.2.2.2.2.2.2.2.2.1,a.2.2.2.2.2.2.2.2.2.1,a.2.2.2.2.2.2.2.2.2.2.1,a.2.2.2.2.2.2.2.2.2.2.2.1,c.1,c.2.1,d8,d4,d0,c6,c2,b8,b4,b0,a6,a2,Y,y6,d.2.2.2.2.1,d.2.2.2.2.2.1,d.2.2.2.2.2.2.1,d.2.2.2.2.2.2.2.1,U,Q,L,ap F [zo j 100],()))<|some [.agg [.s .u8 y6,.i .i64 (zf n 4).i,.i .i64 (zf n 4).h],aT .guest (⟨U,d8,d4,Q,L,⟨d0,c6,c2⟩,b8,⟨b4,b0,a6,a2⟩,Y,F⟩:ah)])) (0,(zV u 12).i,(zV u 12).h,0,0,0,0,false,0,0,0,false,0,false,w,y,e.aq,e.Post,e.Open,d.an,(zcs r).Kind,(zcs r).af,(zcs r).Write,(zcs r).N,zdo u 12,c.b,[],[],[],[],d.au,v,x,d.aC,()))<|oN (zc6 r 12)<|r0 (σ:=(Int×Int×Int×Int×Int×Int×Int×Bool×Int×Int×Int×Bool×Int×Bool×Int×Int×Int×Int×Bool×Int×Int×Int×Bool×Int×Bool×LI×lI×lS×lS×LI×lI×lS×lS×LI×Unit)) N (λz a=>let c:=a.2.2.2.2.2.2.2.2.2.2.2.2;let d:=c.2.2.2.2.2.2.2.2.2.2;let d9:=c.2.2.1;let d5:=c.2.2.2.1;let d1:=c.2.2.2.2.1;let c7:=c.2.2.2.2.2.1;let c3:=c.2.2.2.2.2.2.1;let b9:=c.2.2.2.2.2.2.2.1;let b5:=c.2.2.2.2.2.2.2.2.1;let b1:=c.2.2.2.2.2.2.2.2.2.1;let a7:=d.1;let a3:=d.2.1;let Z:=d.2.2.1;let V:=d.2.2.2.2.2.2.2.2.1;let R:=d.2.2.2.2.2.2.2.2.2.1;let M:=d.2.2.2.2.2.2.2.2.2.2.1;let G:=d.2.2.2.2.2.2.2.2.2.2.2.1;let y7:=d.2.2.2.1;let p:=(⟨y7,a.2.1,a.2.2.1⟩:Cur);let k:=({ (zf p 4) with b:=y7}:Cur); (oN (zC p 4)<|cond (ilt a.1<|zo p 4) (oN (zC k 100)<|oN (few<|ln<|ap G [zo k 100])<|z (zI .i64 a.1 1,(zf k 100).i,(zf k 100).h,a.2.2.2.1,a.2.2.2.2.1,a.2.2.2.2.2.1,a.2.2.2.2.2.2.1,a.2.2.2.2.2.2.2.1,a.2.2.2.2.2.2.2.2.1,a.2.2.2.2.2.2.2.2.2.1,a.2.2.2.2.2.2.2.2.2.2.1,a.2.2.2.2.2.2.2.2.2.2.2.1,c.1,c.2.1,d9,d5,d1,c7,c3,b9,b5,b1,a7,a3,Z,y7,d.2.2.2.2.1,d.2.2.2.2.2.1,d.2.2.2.2.2.2.1,d.2.2.2.2.2.2.2.1,V,R,M,ap G [zo k 100],()))<|some [.agg [.s .u8 y7,.i .i64 (zf p 4).i,.i .i64 (zf p 4).h],aT .guest (⟨V,d9,d5,R,M,⟨d1,c7,c3⟩,b9,⟨b5,b1,a7,a3⟩,Z,G⟩:ah)])) (0,(zV r 12).i,(zV r 12).h,0,0,0,0,false,0,0,0,false,0,false,w,y,e.aq,e.Post,e.Open,d.an,d.Exit.Kind,d.Exit.af,d.Exit.Write,d.Exit.N,zdo r 12,c.b,[],[],[],[],d.au,v,x,d.aC,()))
def zSJ:=zq [(338,0,{n:=50,tm:=[(0,.lp 0 0),(2,.lp 1 0),(3,.lp 2 0),(4,ti)],lo:=[(0,[.sl 0 [],ti,ti]),(1,[.sl 1 [],ti,ti,.sl 2 [],.sl 3 [],ti,ti,.b,ti,ti,ti,.b,ti,.b,.sl 4 []]),(2,[.sl 5 [],ti,ti,.sl 6 [],.sl 7 [],ti,ti,.b,ti,ti,ti,.b,ti,.b,.sl 8 []])],ro:=[(0,.u8,false),(1,.ins,true),(2,.slot,true),(3,.slot,true),(4,.int,true),(5,.ins,true),(6,.slot,true),(7,.slot,true),(8,.int,true)]})]
def zoZ (c:Cur)(s:Cur)(a:ah):Prop:=(∃N,zvB N c=some (AV.agg (zb5 s)::[aT .guest a]))/\(s.b=c.b/\0<=s.i)/\(GuS a/\a.aC.length<=4)
def zhM (c:Cur)  : Bool:=wC (zoZ c)
def zfg (c:Cur)  : Cur:=wS (zoZ c)
def zbU (c:Cur)  : ah:=wV (zoZ c)
def zrr {c:Cur}(h:zhM c=true):zoZ c (zfg c) (zbU c):=wG h
def zm6 (c:Cur)  : 0<=(zfg c).i:=wP λh=>h.2.1.2
def zZz (c:Cur)(h:∃N,Ends (wE (λa=>aT .guest a) c.b λa=>GuS a/\a.aC.length<=4)<|zvB N c):zhM c=true:=wI (λ_ _ h=>h) h
def zxx:zeg:=rP0 λc=>(zhM c,zfg c,[aT .guest<|zbU c])
def zKK:zbX Tryz.prog 338 [false,true,true] zxx:=hP0 zJJ zU zY8 zl zSJ (λ_ h=>(zrr h).1)
def zo5 {c:Cur}(h:zbb c):zhM c=true:=by
 refine zZz c ⟨1002,?_⟩;unfold zvB oN;conv=>zeta
 have f:=zFG h;have j:=zLl (zs7 f).2.2;have e:zkT (zcj c)=true:=zbg (by omega);have q:∀{s:Cur},0<=s.i->zbb {s with b:=c.b}:=fun g=>zbJ h g;have d:GuS ⟨zcj c,0,0,[],[],⟨0,0,false⟩,0,⟨0,0,false,0⟩,false,[]⟩:=⟨by dsimp only;omega,by simp,by simp,by simp⟩
 refine zB f (zB e (zB (zAv (q (zkd _)) (by omega) (by omega) _) (zB (zAv (q (zja _ _ _)) (by omega) (by omega) _) (zB (zbw (q (zja _ _ _)) _) (zB (zbw (q (zG _ _)) _) (zB (z3K (q (zG _ _))) (zB (zjH (q (zBT _)) _)
  (zby (fun _=>zB (zbw (q (zco _ _)) _) (zB (zjH (q (zG _ _)) _) (zby (fun _=>zB (zXs (q (zco _ _))) (zB (zjH (q (zyP _)) _) ?_)) (fun _=>zB (zjH (q (zco _ _)) _) ?_))))
   (fun _=>zB (zjH (q (zco _ _)) _) (zby (fun _=>zB (zXs (q (zco _ _))) (zB (zjH (q (zyP _)) _) ?_)) (fun _=>zB (zjH (q (zco _ _)) _) ?_)))))))))))
 .exact zGm h (zco _ _) (P:=fun _=>True) (q:=4) (by omega) (by omega) (fc:=fun c=>zC c 100) (fs:=fun c=>zf c 100) (fv:=fun c=>zo c 100) (fun h=>zbw h _) (fun c=>zG c _) (fun _=>trivial) (z:=0) (l0:=(zcJ (zcj c)).aC) (qW 0) (by omega) (by simp) ((fun _ t=>(t.1,t.2.1,t.2.2.1,0,0,0,0,false,0,0,0,false,0,false,(zo ({ (zN ({ (zN ({ (zbf c) with b:=c.b }:Cur) 4 8) with b:=c.b }:Cur) 4 8) with b:=c.b }:Cur) 100),(zo ({ (zf ({ (zN ({ (zN ({ (zbf c) with b:=c.b }:Cur) 4 8) with b:=c.b }:Cur) 4 8) with b:=c.b }:Cur) 100) with b:=c.b }:Cur) 4),(zcS ({ (zf ({ (zf ({ (zN ({ (zN ({ (zbf c) with b:=c.b }:Cur) 4 8) with b:=c.b }:Cur) 4 8) with b:=c.b }:Cur) 100) with b:=c.b }:Cur) 4) with b:=c.b }:Cur)).aq,(zcS ({ (zf ({ (zf ({ (zN ({ (zN ({ (zbf c) with b:=c.b }:Cur) 4 8) with b:=c.b }:Cur) 4 8) with b:=c.b }:Cur) 100) with b:=c.b }:Cur) 4) with b:=c.b }:Cur)).Post,(zcS ({ (zf ({ (zf ({ (zN ({ (zN ({ (zbf c) with b:=c.b }:Cur) 4 8) with b:=c.b }:Cur) 4 8) with b:=c.b }:Cur) 100) with b:=c.b }:Cur) 4) with b:=c.b }:Cur)).Open,(zo ({ (zV ({ (zcx ({ (zf ({ (zf ({ (zN ({ (zN ({ (zbf c) with b:=c.b }:Cur) 4 8) with b:=c.b }:Cur) 4 8) with b:=c.b }:Cur) 100) with b:=c.b }:Cur) 4) with b:=c.b }:Cur)) with b:=c.b }:Cur) 3) with b:=c.b }:Cur) 256),(zcs ({ (zV ({ (zf ({ (zV ({ (zcx ({ (zf ({ (zf ({ (zN ({ (zN ({ (zbf c) with b:=c.b }:Cur) 4 8) with b:=c.b }:Cur) 4 8) with b:=c.b }:Cur) 100) with b:=c.b }:Cur) 4) with b:=c.b }:Cur)) with b:=c.b }:Cur) 3) with b:=c.b }:Cur) 256) with b:=c.b }:Cur) 4) with b:=c.b }:Cur)).Kind,(zcs ({ (zV ({ (zf ({ (zV ({ (zcx ({ (zf ({ (zf ({ (zN ({ (zN ({ (zbf c) with b:=c.b }:Cur) 4 8) with b:=c.b }:Cur) 4 8) with b:=c.b }:Cur) 100) with b:=c.b }:Cur) 4) with b:=c.b }:Cur)) with b:=c.b }:Cur) 3) with b:=c.b }:Cur) 256) with b:=c.b }:Cur) 4) with b:=c.b }:Cur)).af,(zcs ({ (zV ({ (zf ({ (zV ({ (zcx ({ (zf ({ (zf ({ (zN ({ (zN ({ (zbf c) with b:=c.b }:Cur) 4 8) with b:=c.b }:Cur) 4 8) with b:=c.b }:Cur) 100) with b:=c.b }:Cur) 4) with b:=c.b }:Cur)) with b:=c.b }:Cur) 3) with b:=c.b }:Cur) 256) with b:=c.b }:Cur) 4) with b:=c.b }:Cur)).Write,(zcs ({ (zV ({ (zf ({ (zV ({ (zcx ({ (zf ({ (zf ({ (zN ({ (zN ({ (zbf c) with b:=c.b }:Cur) 4 8) with b:=c.b }:Cur) 4 8) with b:=c.b }:Cur) 100) with b:=c.b }:Cur) 4) with b:=c.b }:Cur)) with b:=c.b }:Cur) 3) with b:=c.b }:Cur) 256) with b:=c.b }:Cur) 4) with b:=c.b }:Cur)).N,(zdo ({ (zgm ({ (zV ({ (zf ({ (zV ({ (zcx ({ (zf ({ (zf ({ (zN ({ (zN ({ (zbf c) with b:=c.b }:Cur) 4 8) with b:=c.b }:Cur) 4 8) with b:=c.b }:Cur) 100) with b:=c.b }:Cur) 4) with b:=c.b }:Cur)) with b:=c.b }:Cur) 3) with b:=c.b }:Cur) 256) with b:=c.b }:Cur) 4) with b:=c.b }:Cur)) with b:=c.b }:Cur) 12),c.b,[],[],[],[],(zcJ (zcj c)).au,(zd4 ({ (zbf c) with b:=c.b }:Cur) 4 8),(zd4 ({ (zN ({ (zbf c) with b:=c.b }:Cur) 4 8) with b:=c.b }:Cur) 4 8),t.2.2.2,())):Nat->Int×Int×Int×LI->_)
   (fun rec t i k l=>⟨_,rfl,fun a _=>⟨⟨_,_,_⟩,_,rfl,⟨rfl,zG _ _⟩,⟨⟨d.1,zF7 (q (zkd _)),zF7 (q (zja _ _ _)),by unfold ln at a;dsimp only;omega⟩,by unfold ln at a;dsimp only;omega⟩⟩⟩)
 .exact zGm h (zco _ _) (P:=fun _=>True) (q:=4) (by omega) (by omega) (fc:=fun c=>zC c 100) (fs:=fun c=>zf c 100) (fv:=fun c=>zo c 100) (fun h=>zbw h _) (fun c=>zG c _) (fun _=>trivial) (z:=0) (l0:=(zcJ (zcj c)).aC) (qW 0) (by omega) (by simp) ((fun _ t=>(t.1,t.2.1,t.2.2.1,0,0,0,0,false,0,0,0,false,0,false,(zo ({ (zN ({ (zN ({ (zbf c) with b:=c.b }:Cur) 4 8) with b:=c.b }:Cur) 4 8) with b:=c.b }:Cur) 100),(zo ({ (zf ({ (zN ({ (zN ({ (zbf c) with b:=c.b }:Cur) 4 8) with b:=c.b }:Cur) 4 8) with b:=c.b }:Cur) 100) with b:=c.b }:Cur) 4),(zcS ({ (zf ({ (zf ({ (zN ({ (zN ({ (zbf c) with b:=c.b }:Cur) 4 8) with b:=c.b }:Cur) 4 8) with b:=c.b }:Cur) 100) with b:=c.b }:Cur) 4) with b:=c.b }:Cur)).aq,(zcS ({ (zf ({ (zf ({ (zN ({ (zN ({ (zbf c) with b:=c.b }:Cur) 4 8) with b:=c.b }:Cur) 4 8) with b:=c.b }:Cur) 100) with b:=c.b }:Cur) 4) with b:=c.b }:Cur)).Post,(zcS ({ (zf ({ (zf ({ (zN ({ (zN ({ (zbf c) with b:=c.b }:Cur) 4 8) with b:=c.b }:Cur) 4 8) with b:=c.b }:Cur) 100) with b:=c.b }:Cur) 4) with b:=c.b }:Cur)).Open,(zo ({ (zV ({ (zcx ({ (zf ({ (zf ({ (zN ({ (zN ({ (zbf c) with b:=c.b }:Cur) 4 8) with b:=c.b }:Cur) 4 8) with b:=c.b }:Cur) 100) with b:=c.b }:Cur) 4) with b:=c.b }:Cur)) with b:=c.b }:Cur) 3) with b:=c.b }:Cur) 256),(zcJ (zcj c)).Exit.Kind,(zcJ (zcj c)).Exit.af,(zcJ (zcj c)).Exit.Write,(zcJ (zcj c)).Exit.N,(zdo ({ (zV ({ (zf ({ (zV ({ (zcx ({ (zf ({ (zf ({ (zN ({ (zN ({ (zbf c) with b:=c.b }:Cur) 4 8) with b:=c.b }:Cur) 4 8) with b:=c.b }:Cur) 100) with b:=c.b }:Cur) 4) with b:=c.b }:Cur)) with b:=c.b }:Cur) 3) with b:=c.b }:Cur) 256) with b:=c.b }:Cur) 4) with b:=c.b }:Cur) 12),c.b,[],[],[],[],(zcJ (zcj c)).au,(zd4 ({ (zbf c) with b:=c.b }:Cur) 4 8),(zd4 ({ (zN ({ (zbf c) with b:=c.b }:Cur) 4 8) with b:=c.b }:Cur) 4 8),t.2.2.2,())):Nat->Int×Int×Int×LI->_)
   (fun rec t i k l=>⟨_,rfl,fun a _=>⟨⟨_,_,_⟩,_,rfl,⟨rfl,zG _ _⟩,⟨⟨d.1,zF7 (q (zkd _)),zF7 (q (zja _ _ _)),by unfold ln at a;dsimp only;omega⟩,by unfold ln at a;dsimp only;omega⟩⟩⟩)
 .exact zGm h (zco _ _) (P:=fun _=>True) (q:=4) (by omega) (by omega) (fc:=fun c=>zC c 100) (fs:=fun c=>zf c 100) (fv:=fun c=>zo c 100) (fun h=>zbw h _) (fun c=>zG c _) (fun _=>trivial) (z:=0) (l0:=(zcJ (zcj c)).aC) (qW 0) (by omega) (by simp) ((fun _ t=>(t.1,t.2.1,t.2.2.1,0,0,0,0,false,0,0,0,false,0,false,(zo ({ (zN ({ (zN ({ (zbf c) with b:=c.b }:Cur) 4 8) with b:=c.b }:Cur) 4 8) with b:=c.b }:Cur) 100),(zo ({ (zf ({ (zN ({ (zN ({ (zbf c) with b:=c.b }:Cur) 4 8) with b:=c.b }:Cur) 4 8) with b:=c.b }:Cur) 100) with b:=c.b }:Cur) 4),(zcS ({ (zf ({ (zf ({ (zN ({ (zN ({ (zbf c) with b:=c.b }:Cur) 4 8) with b:=c.b }:Cur) 4 8) with b:=c.b }:Cur) 100) with b:=c.b }:Cur) 4) with b:=c.b }:Cur)).aq,(zcS ({ (zf ({ (zf ({ (zN ({ (zN ({ (zbf c) with b:=c.b }:Cur) 4 8) with b:=c.b }:Cur) 4 8) with b:=c.b }:Cur) 100) with b:=c.b }:Cur) 4) with b:=c.b }:Cur)).Post,(zcS ({ (zf ({ (zf ({ (zN ({ (zN ({ (zbf c) with b:=c.b }:Cur) 4 8) with b:=c.b }:Cur) 4 8) with b:=c.b }:Cur) 100) with b:=c.b }:Cur) 4) with b:=c.b }:Cur)).Open,(zcJ (zcj c)).an,(zcs ({ (zV ({ (zV ({ (zcx ({ (zf ({ (zf ({ (zN ({ (zN ({ (zbf c) with b:=c.b }:Cur) 4 8) with b:=c.b }:Cur) 4 8) with b:=c.b }:Cur) 100) with b:=c.b }:Cur) 4) with b:=c.b }:Cur)) with b:=c.b }:Cur) 3) with b:=c.b }:Cur) 4) with b:=c.b }:Cur)).Kind,(zcs ({ (zV ({ (zV ({ (zcx ({ (zf ({ (zf ({ (zN ({ (zN ({ (zbf c) with b:=c.b }:Cur) 4 8) with b:=c.b }:Cur) 4 8) with b:=c.b }:Cur) 100) with b:=c.b }:Cur) 4) with b:=c.b }:Cur)) with b:=c.b }:Cur) 3) with b:=c.b }:Cur) 4) with b:=c.b }:Cur)).af,(zcs ({ (zV ({ (zV ({ (zcx ({ (zf ({ (zf ({ (zN ({ (zN ({ (zbf c) with b:=c.b }:Cur) 4 8) with b:=c.b }:Cur) 4 8) with b:=c.b }:Cur) 100) with b:=c.b }:Cur) 4) with b:=c.b }:Cur)) with b:=c.b }:Cur) 3) with b:=c.b }:Cur) 4) with b:=c.b }:Cur)).Write,(zcs ({ (zV ({ (zV ({ (zcx ({ (zf ({ (zf ({ (zN ({ (zN ({ (zbf c) with b:=c.b }:Cur) 4 8) with b:=c.b }:Cur) 4 8) with b:=c.b }:Cur) 100) with b:=c.b }:Cur) 4) with b:=c.b }:Cur)) with b:=c.b }:Cur) 3) with b:=c.b }:Cur) 4) with b:=c.b }:Cur)).N,(zdo ({ (zgm ({ (zV ({ (zV ({ (zcx ({ (zf ({ (zf ({ (zN ({ (zN ({ (zbf c) with b:=c.b }:Cur) 4 8) with b:=c.b }:Cur) 4 8) with b:=c.b }:Cur) 100) with b:=c.b }:Cur) 4) with b:=c.b }:Cur)) with b:=c.b }:Cur) 3) with b:=c.b }:Cur) 4) with b:=c.b }:Cur)) with b:=c.b }:Cur) 12),c.b,[],[],[],[],(zcJ (zcj c)).au,(zd4 ({ (zbf c) with b:=c.b }:Cur) 4 8),(zd4 ({ (zN ({ (zbf c) with b:=c.b }:Cur) 4 8) with b:=c.b }:Cur) 4 8),t.2.2.2,())):Nat->Int×Int×Int×LI->_)
   (fun rec t i k l=>⟨_,rfl,fun a _=>⟨⟨_,_,_⟩,_,rfl,⟨rfl,zG _ _⟩,⟨⟨d.1,zF7 (q (zkd _)),zF7 (q (zja _ _ _)),by unfold ln at a;dsimp only;omega⟩,by unfold ln at a;dsimp only;omega⟩⟩⟩)
 .exact zGm h (zco _ _) (P:=fun _=>True) (q:=4) (by omega) (by omega) (fc:=fun c=>zC c 100) (fs:=fun c=>zf c 100) (fv:=fun c=>zo c 100) (fun h=>zbw h _) (fun c=>zG c _) (fun _=>trivial) (z:=0) (l0:=(zcJ (zcj c)).aC) (qW 0) (by omega) (by simp) ((fun _ t=>(t.1,t.2.1,t.2.2.1,0,0,0,0,false,0,0,0,false,0,false,(zo ({ (zN ({ (zN ({ (zbf c) with b:=c.b }:Cur) 4 8) with b:=c.b }:Cur) 4 8) with b:=c.b }:Cur) 100),(zo ({ (zf ({ (zN ({ (zN ({ (zbf c) with b:=c.b }:Cur) 4 8) with b:=c.b }:Cur) 4 8) with b:=c.b }:Cur) 100) with b:=c.b }:Cur) 4),(zcS ({ (zf ({ (zf ({ (zN ({ (zN ({ (zbf c) with b:=c.b }:Cur) 4 8) with b:=c.b }:Cur) 4 8) with b:=c.b }:Cur) 100) with b:=c.b }:Cur) 4) with b:=c.b }:Cur)).aq,(zcS ({ (zf ({ (zf ({ (zN ({ (zN ({ (zbf c) with b:=c.b }:Cur) 4 8) with b:=c.b }:Cur) 4 8) with b:=c.b }:Cur) 100) with b:=c.b }:Cur) 4) with b:=c.b }:Cur)).Post,(zcS ({ (zf ({ (zf ({ (zN ({ (zN ({ (zbf c) with b:=c.b }:Cur) 4 8) with b:=c.b }:Cur) 4 8) with b:=c.b }:Cur) 100) with b:=c.b }:Cur) 4) with b:=c.b }:Cur)).Open,(zcJ (zcj c)).an,(zcJ (zcj c)).Exit.Kind,(zcJ (zcj c)).Exit.af,(zcJ (zcj c)).Exit.Write,(zcJ (zcj c)).Exit.N,(zdo ({ (zV ({ (zV ({ (zcx ({ (zf ({ (zf ({ (zN ({ (zN ({ (zbf c) with b:=c.b }:Cur) 4 8) with b:=c.b }:Cur) 4 8) with b:=c.b }:Cur) 100) with b:=c.b }:Cur) 4) with b:=c.b }:Cur)) with b:=c.b }:Cur) 3) with b:=c.b }:Cur) 4) with b:=c.b }:Cur) 12),c.b,[],[],[],[],(zcJ (zcj c)).au,(zd4 ({ (zbf c) with b:=c.b }:Cur) 4 8),(zd4 ({ (zN ({ (zbf c) with b:=c.b }:Cur) 4 8) with b:=c.b }:Cur) 4 8),t.2.2.2,())):Nat->Int×Int×Int×LI->_)
   (fun rec t i k l=>⟨_,rfl,fun a _=>⟨⟨_,_,_⟩,_,rfl,⟨rfl,zG _ _⟩,⟨⟨d.1,zF7 (q (zkd _)),zF7 (q (zja _ _ _)),by unfold ln at a;dsimp only;omega⟩,by unfold ln at a;dsimp only;omega⟩⟩⟩)
def zbcG:zcW:=[(338,[false,true,true],zxx)]++zbcF
def zLj:zb7 zbcG:=zcq zY8 (by
 intro x a;simp only[qG,qM,or_false]at a;rcases a with rfl
 .exact zKK)
def zAH (N:Nat)(c:Cur)  : OA :=
 let e:=zbU c;let B:=({ (zfg c) with b:=c.b}:Cur);let f:=zf B 14;let j:=zo B 14;let d:=({f with b:=c.b}:Cur);let g:=zhY d 4 8;let p:=zbd d [-1,12,13,9223372036854775807]; (oN (zhM c)<|oN (zC B 14)<|cond (ieq j 0) (oN (zkW d)<|some [.agg [.s .u8 c.b,.i .i64 (zkX d).i,.i .i64 (zkX d).h],aT .guest ({e with au:=(zrj d)}:ah)])<|cond (ieq j 1) (oN (zbx d [-1,100])<|some [.agg [.s .u8 c.b,.i .i64 (zbd d [-1,100]).i,.i .i64 (zbd d [-1,100]).h],aT .guest ({e with A:=(zbq d [-1,100])}:ah)])<|cond (ieq j 2) (oN (zbx d [-1,12,13,9223372036854775807])<|some [.agg [.s .u8 c.b,.i .i64 p.i,.i .i64 p.h],aT .guest ({e with Pc:=(zbq d [-1,12,13,9223372036854775807])}:ah)])<|cond (ieq j 3) (oN (zgG d 4 8)<|some [.agg [.s .u8 c.b,.i .i64 g.i,.i .i64 g.h],aT .guest ({e with av:=(zfY d 4 8)}:ah)])<|cond (ieq j 4) (oN (zrl d)<|some [.agg [.s .u8 c.b,.i .i64 (zrm d).i,.i .i64 (zrm d).h],aT .guest ({e with Ctl:=(zBS d)}:ah)])<|cond (ieq j 5) (oN (zl8 d)<|some [.agg [.s .u8 c.b,.i .i64 (zkf d).i,.i .i64 (zkf d).h],aT .guest ({e with an:=(zpE d)}:ah)])<|cond (ieq j 6) (oN (zrn d)<|some [.agg [.s .u8 c.b,.i .i64 (zro d).i,.i .i64 (zro d).h],aT .guest ({e with Exit:=(zBU d)}:ah)])<|cond (ieq j 7) (r0 (σ:=(Int×Int×Int×Int×Int×Int×Bool×Int×Int×Int×Bool×Int×Bool×Int×Int×Int×Int×Bool×Int×Int×Int×Bool×Int×Bool×LI×lI×lS×lS×LI×lI×lS×lS×LI×Unit)) N (λG a=>let y:=a.2.2.2.2.2.2.2.2.2.2.2.2.2.1;let x:=a.2.2.2.2.2.2.2.2.2.2.2.2.2.2.1;let w:=a.2.2.2.2.2.2.2.2.2.2.2.2.2.2.2.1;let v:=a.2.2.2.2.2.2.2.2.2.2.2.2.2.2.2.2.1;let u:=a.2.2.2.2.2.2.2.2.2.2.2.2.2.2.2.2.2.1;let t:=a.2.2.2.2.2.2.2.2.2.2.2.2.2.2.2.2.2.2.1;let r:=a.2.2.2.2.2.2.2.2.2.2.2.2.2.2.2.2.2.2.2.1;let q:=a.2.2.2.2.2.2.2.2.2.2.2.2.2.2.2.2.2.2.2.2.1;let n:=a.2.2.2.2.2.2.2.2.2.2.2.2.2.2.2.2.2.2.2.2.2.1;let m:=a.2.2.2.2.2.2.2.2.2.2.2.2.2.2.2.2.2.2.2.2.2.2.1;let l:=a.2.2.2.2.2.2.2.2.2.2.2.2.2.2.2.2.2.2.2.2.2.2.2.1;let F:=a.2.2.2.2.2.2.2.2.2.2.2.2.2.2.2.2.2.2.2.2.2.2.2.2.2.2.2.2.2.1;let E:=a.2.2.2.2.2.2.2.2.2.2.2.2.2.2.2.2.2.2.2.2.2.2.2.2.2.2.2.2.2.2.1;let D:=a.2.2.2.2.2.2.2.2.2.2.2.2.2.2.2.2.2.2.2.2.2.2.2.2.2.2.2.2.2.2.2.1;let C:=a.2.2.2.2.2.2.2.2.2.2.2.2.2.2.2.2.2.2.2.2.2.2.2.2.1;let z:=a.2.2.2.2.2.2.2.2.2.2.2.2.2.2.2.2.2.2.2.2.2.2.2.2.2.2.2.2.2.2.2.2.1;let k:=(⟨C,a.1,a.2.1⟩:Cur); (oN (zC k 3)<|cond (ilt (ln z)<|zI .i64 39<|zo k 3) (oN (few<|ln<|ap z [1])<|G ((zf k 3).i,(zf k 3).h,a.2.2.1,a.2.2.2.1,a.2.2.2.2.1,a.2.2.2.2.2.1,a.2.2.2.2.2.2.1,a.2.2.2.2.2.2.2.1,a.2.2.2.2.2.2.2.2.1,a.2.2.2.2.2.2.2.2.2.1,a.2.2.2.2.2.2.2.2.2.2.1,a.2.2.2.2.2.2.2.2.2.2.2.1,a.2.2.2.2.2.2.2.2.2.2.2.2.1,y,x,w,v,u,t,r,q,n,m,l,C,a.2.2.2.2.2.2.2.2.2.2.2.2.2.2.2.2.2.2.2.2.2.2.2.2.2.1,a.2.2.2.2.2.2.2.2.2.2.2.2.2.2.2.2.2.2.2.2.2.2.2.2.2.2.1,a.2.2.2.2.2.2.2.2.2.2.2.2.2.2.2.2.2.2.2.2.2.2.2.2.2.2.2.1,a.2.2.2.2.2.2.2.2.2.2.2.2.2.2.2.2.2.2.2.2.2.2.2.2.2.2.2.2.1,F,E,D,ap z [1],()))<|some [.agg [.s .u8 C,.i .i64 (zf k 3).i,.i .i64 (zf k 3).h],aT .guest (⟨F,y,x,E,D,⟨w,v,u⟩,t,⟨r,q,n,m⟩,l,z⟩:ah)])) (f.i,f.h,0,0,0,0,false,0,0,0,false,0,false,e.A,e.Pc,e.Ctl.aq,e.Ctl.Post,e.Ctl.Open,e.an,e.Exit.Kind,e.Exit.af,e.Exit.Write,e.Exit.N,e.aF,c.b,[],[],[],[],e.au,e.ax,e.av,e.aC,()))<|cond (ieq j 8) (oN (zgG d 4 8)<|some [.agg [.s .u8 c.b,.i .i64 g.i,.i .i64 g.h],aT .guest ({e with ax:=(zfY d 4 8)}:ah)])<|some [.agg [.s .u8 c.b,.i .i64 f.i,.i .i64 f.h],aT .guest e])
def z0m:=zq [(241,1,{n:=65,tm:=[(0,.lp 0 0),(2,.lp 1 0),(3,.lp 2 0)],lo:=[(0,[.sl 0 [],ti,ti]),(1,[.sl 1 [],ti,ti,.sl 2 [],.sl 3 [],ti,ti,.b,ti,ti,ti,.b,ti,.b,.sl 4 []]),(2,[.sl 5 [],ti,ti,.sl 6 [],.sl 7 [],ti,ti,.b,ti,ti,ti,.b,ti,.b,.sl 8 []])],ro:=[(0,.u8,false),(1,.ins,true),(2,.slot,true),(3,.slot,true),(4,.int,true),(5,.ins,true),(6,.slot,true),(7,.slot,true),(8,.int,true)]})]
def ztb (c:Cur)(s:Cur)(a:ah):Prop:=(∃N,zAH N c=some (AV.agg (zb5 s)::[aT .guest a]))/\(s.b=c.b/\0<=s.i)/\(GuS a)
def znW (c:Cur)  : Bool:=wC (ztb c)
def zly (c:Cur)  : Cur:=wS (ztb c)
def zsf (c:Cur)  : ah:=wV (ztb c)
def zBV {c:Cur}(h:znW c=true):ztb c (zly c) (zsf c):=wG h
def zO9 (c:Cur)  : 0<=(zly c).i:=wP λh=>h.2.1.2
def z5q (c:Cur)(h:∃N,Ends (wE (λa=>aT .guest a) c.b λa=>GuS a)<|zAH N c):znW c=true:=wI (λ_ _ h=>h) h
def zCV:zeg:=rP0 λc=>(znW c,zly c,[aT .guest<|zsf c])
def zRh:zbX Tryz.prog 241 [false,true,true] zCV:=hP0 zJJ zU zLj zl z0m (λ_ h=>(zBV h).1)
def zuN {c:Cur}(h:zbb c):znW c=true:=by
 refine z5q c ⟨1002,?_⟩;unfold zAH oN;conv=>zeta
 have q:∀{s:Cur},0<=s.i->zbb {s with b:=c.b}:=λr=>zbJ h r;have a:zbb {zf {zfg c with b:=c.b} 14 with b:=c.b}:=q (zG _ _);obtain⟨⟨d,e,f,g⟩,w⟩:=(zrr<|zo5 h).2.2;have p:(zfY {zf {zfg c with b:=c.b} 14 with b:=c.b} 4 8).length<=4:=by have:=((zrb<|zpS a (n:=4) (by omega) (by omega) 8).2.2 (by omega) (by omega)).1;unfold ln at this;omega
 have j:=(zAq<|zTk a).2.2;refine zB (zo5 h) (zB (zbw (q<|zm6 _) _) (zby (λ_=>zB (zTk a) (zbC (aT .guest) (v:={zbU c with au:=zrj _}) (zSo _) ⟨j,e,f,g⟩))
  (λ_=>zby (λ_=>zB (zfa a (by simp)) (zbC (aT .guest) (v:={zbU c with A:=zbq _ _}) (zb1 _ _) ⟨d,e,f,g⟩))
  (λ_=>zby (λ_=>zB (zfa a (by simp)) (zbC (aT .guest) (v:={zbU c with Pc:=zbq _ _}) (zb1 _ _) ⟨d,e,f,g⟩))
  (λ_=>zby (λ_=>zB (zpS a (by omega) (by omega) _) (zbC (aT .guest) (v:={zbU c with av:=zfY _ _ _}) (zrd _ _ _) ⟨d,e,p,g⟩))
  (λ_=>zby (λ_=>zB (z8R a) (zbC (aT .guest) (v:={zbU c with Ctl:=zBS _}) (z5k _) ⟨d,e,f,g⟩))
  (λ_=>zby (λ_=>zB (z7X a) (zbC (aT .guest) (v:={zbU c with an:=zpE _}) (zJa _) ⟨d,e,f,g⟩))
  (λ_=>zby (λ_=>zB (z5Y a) (zbC (aT .guest) (v:={zbU c with Exit:=zBU _}) (z5p _) ⟨d,e,f,g⟩))
  (λ_=>zby (λ_=>?_)
  (λ_=>zby (λ_=>zB (zpS a (by omega) (by omega) _) (zbC (aT .guest) (v:={zbU c with ax:=zfY _ _ _}) (zrd _ _ _) ⟨d,p,f,g⟩))
  (λ_=>zbC (aT .guest) (v:=zbU c) (zG _ _) ⟨d,e,f,g⟩)))))))))))
 exact z6V h (zG _ _) (m:=39) (q:=3) (x:=1) (by omega) (by omega) (by omega) (l0:=(zbU c).aC) (by unfold ln;omega) ((λ_ t=>(t.1,t.2.1,0,0,0,0,false,0,0,0,false,0,false,(zbU c).A,(zbU c).Pc,(zbU c).Ctl.aq,(zbU c).Ctl.Post,(zbU c).Ctl.Open,(zbU c).an,(zbU c).Exit.Kind,(zbU c).Exit.af,(zbU c).Exit.Write,(zbU c).Exit.N,(zbU c).aF,c.b,[],[],[],[],(zbU c).au,(zbU c).ax,(zbU c).av,t.2.2,())):Nat->Int×Int×LI->_)
  (λrec i k l=>⟨_,rfl,λu=>⟨⟨_,_,_⟩,_,rfl,⟨rfl,zG _ _⟩,⟨d,e,f,by unfold ln at u;dsimp only;omega⟩⟩⟩)
def zbd0 (b:List ar)(e:ar)(h:b.length<=1048576):(zql b e).length<=6:=by have c:=(zwh e h).2;unfold zql;generalize ap (zc2 b e.Tag e.af) [e]=l at c;cases a:igt (ln l) 6 with|false=>have:¬ ln l>6:=jQ a;rw[cF];unfold ln at this;omega|true=>rw[cT,zpJ (by unfold ln;omega) (by unfold ln;omega)];have:ln l>6:=qD a;simp only[dp,vP];unfold ln at *;omega
def ztX (N:Nat)(c:Cur)  : OA :=
 (r0 (σ:=(Int×Int×Int×lE×LI×Unit)) N (λl d=>let e:=d.2.2.2.2.1;let j:=(⟨e,d.2.1,d.2.2.1⟩:Cur);let a:=({ (zf j 9) with b:=e}:Cur);let g:=({ (zV a 8) with b:=e}:Cur);let f:=({ (zhL g) with b:=e}:Cur);let k:=ap d.2.2.2.1 [znU g,znU f]; (oN (zC j 9)<|cond (ilt d.1<|zo j 9) (oN (zjb a)<|oN (zhJ d.2.2.2.1<|znU a)<|l (zI .i64 d.1 1,(zhL a).i,(zhL a).h,zhs d.2.2.2.1<|znU a,e,()))<|oN (zc6 a 8)<|cond (zdo a 8) (oN (zjb g)<|oN (zjb f)<|oN (few<|ln k)<|some [.agg [.s .u8 e,.i .i64 (zhL f).i,.i .i64 (zhL f).h],aS .entry k])<|some [.agg [.s .u8 e,.i .i64 (zV a 8).i,.i .i64 (zV a 8).h],aS .entry d.2.2.2.1])) (0,c.i,c.h,[],c.b,()))
def zPU:=zq [(220,0,{n:=26,tm:=[(0,.lp 0 0),(3,.sl 0 []),(4,ti)],lo:=[(0,[.sl 1 [],ti,ti])],ro:=[(0,.entry,true),(1,.u8,false)]})]
def znT (c:Cur)(s:Cur)(a:List ar):Prop:=(∃N,ztX N c=some (AV.agg (zb5 s)::[aS .entry a]))/\(s.b=c.b/\0<=s.i)/\(a.length<=8)
def zlO (c:Cur)  : Bool:=wC (znT c)
def zlP (c:Cur)  : Cur:=wS (znT c)
def zs5 (c:Cur)  : List ar:=wV (znT c)
def zDr {c:Cur}(h:zlO c=true):znT c (zlP c) (zs5 c):=wG h
def zVN (c:Cur)  : 0<=(zlP c).i:=wP λh=>h.2.1.2
def zVM (c:Cur)(h:∃N,Ends (wE (λa=>aS .entry a) c.b λa=>a.length<=8)<|ztX N c):zlO c=true:=wI (λ_ _ h=>h) h
def zwe:zeg:=rP0 λc=>(zlO c,zlP c,[aS .entry<|zs5 c])
def zHi:zbX Tryz.prog 220 [false,true,true] zwe:=hP0 zJJ zU zLj zl zPU (λ_ h=>(zDr h).1)
def zWT {c:Cur}(h:zbb c):zlO c=true:=by
 refine zVM c ⟨1002,?_⟩;unfold ztX oN;conv=>zeta
 refine zjB (λn s=>∃t i k l,s=(((λ_ t=>(t.1,t.2.1,t.2.2.1,t.2.2.2,c.b,())):Nat->Int×Int×Int×List ar->_) 0 (t,i,k,l))/\t+(n:Int)=10/\0<=t/\0<=i/\l.length<=6) ?_ 1002 10 _ ⟨0,c.i,c.h,[],rfl,rfl,kF 0,h.1,by simp⟩ (by omega);rintro n s rec ⟨t,i,k,l,rfl,p,g,j,r⟩ d;dsimp only;have a:zbb ⟨c.b,i,k⟩:=zbJ h j;have v:=zfB a (n:=9) (by omega);have q:∀{s:Cur},0<=s.i->zbb {s with b:=c.b}:=λf=>zbJ h f;refine zB (zbw a 9) (zby (λe=>?_) λe=>?_);{have m:t<zo ⟨c.b,i,k⟩ 9:=qD e;have u:=ziQ (y:=1) g (by omega) (by omega) (by omega);exact zB (zQa<|q<|zG _ _) (zB (zbg (by omega))<|d (n-1) _ (by omega) ⟨zI .i64 t 1,_,_,_,rfl,by omega,by omega,zwC _,zbd0 _ _ (by omega)⟩)};{refine zB (zjH (q<|zG _ _) 8) (zby (λ_=>zB (zQa<|q<|zco _ _) (zB (zQa<|q<|zwC _)<|zB (ziW ?_)<|zbC (aS .entry) (zwC _) ?_)) λ_=>zbC (aS .entry) (zco _ _) (by omega));{simp only [ln,ap,kA,qU,k7];omega};{simp only [ap,kA,qU,k7];omega}}
def zbcH:zcW:=[(241,[false,true,true],zCV),(220,[false,true,true],zwe)]++zbcG
def zY9:zb7 zbcH:=zcq zLj (by
 intro x a;simp only[qG,qM,or_false]at a;rcases a with rfl|rfl
 .exact zRh
 .exact zHi)
def zMy (b:ai)(a:GAct):ai:=bif ieq a.Kind 1 then zdj b a.G else (cond (ieq a.Kind 2) (chg b a.G (zyS a.X ⟨a.Y,a.Z⟩)<|zF1 (gAt b a.G) a.X ⟨a.Y,a.Z⟩)<|cond (ieq a.Kind 3) (chg b a.G (j0 a.X 4)<|zeE (gAt b a.G) a.X)<|cond (ieq a.Kind 4) (chg b a.G (zym (gAt b a.G) a.X)<|zAO (gAt b a.G) a.X)<|cond (ieq a.Kind 5) (chg b a.G (zFH<|gAt b a.G)<|zBM<|gAt b a.G)<|cond (ieq a.Kind 6) (chg b a.G (zi3 (gAt b a.G).an a.X)<|zp8 (gAt b a.G) a.X)<|cond (ieq a.Kind 7) (chg b a.G (zno ⟨a.X,a.Y,ieq a.Z 1⟩)<|zP6 (gAt b a.G) ⟨a.X,a.Y,ieq a.Z 1⟩)<|cond (ieq a.Kind 8) (zWn b a.X a.Y a.Z)<|cond (ieq a.Kind 9) (zmj b a.X)<|cond (ieq a.Kind 10) (zo2 b)<|cond (ieq a.Kind 11) (z4b b a.G a.X a.Y)<|b)
def zMz (b:ai)(a:GAct):aE:=bif ieq a.Kind 1 then ⟨zen b a.G,0⟩ else (cond (ieq a.Kind 2) ⟨zcA b a.G<|zyS a.X ⟨a.Y,a.Z⟩,0⟩<|cond (ieq a.Kind 3) ⟨zcA b a.G<|j0 a.X 4,0⟩<|cond (ieq a.Kind 4) ⟨zcA b a.G<|zym (gAt b a.G) a.X,0⟩<|cond (ieq a.Kind 5) ⟨zcA b a.G<|zFH<|gAt b a.G,0⟩<|cond (ieq a.Kind 6) ⟨zcA b a.G<|zi3 (gAt b a.G).an a.X,0⟩<|cond (ieq a.Kind 7) ⟨zcA b a.G<|zno ⟨a.X,a.Y,ieq a.Z 1⟩,0⟩<|cond (ieq a.Kind 8) ⟨zzP b a.X a.Y a.Z,0⟩<|cond (ieq a.Kind 9) ⟨zgK b a.X,0⟩<|cond (ieq a.Kind 10) ⟨zoD b,zvD b⟩<|cond (ieq a.Kind 11) ⟨zA7 b a.G a.X a.Y,0⟩<|⟨zpZ b a.G a.X 1,zWr b a.G a.X⟩)
def zMA (l:List ai)(a:GAct):List ai:=bif zk a.Kind 1 17 then (cond (zk a.Kind 13 17) l<|cond (j0 a.M<|ln l) (up l a.M<|zMy (ix l a.M zd6) a) l) else l
def z3B (l:List ai)(a:GAct):aE:=bif zk a.Kind 1 17 then (cond (zk a.Kind 13 17) ⟨false,0⟩<|cond (j0 a.M<|ln l) (zMz (ix l a.M zd6) a)<|cond (ieq a.Kind 10) ⟨false,-1⟩ ⟨false,0⟩) else ⟨false,0⟩
def zK {i n:Int}:j0 i n=true↔0<=i/\i<n:=by unfold j0;exact decide_eq_true_iff
def zc9 {x a b:Int}:zk x a b=true↔a<=x/\x<=b:=by simp[zk,ige,ile]
def zbA {x y:Int}:ieq x y=true↔x=y:=by simp[ieq]
def zGx {x y:Int}:ine x y=true↔x≠y:=by simp[ine]
def zb4 {x y:Int}:ieq x y=false↔x≠y:=by simp[ieq]
def zcu {a b:Bool}:(cond a b false)=true↔a=true/\b=true:=by cases a<;>simp
def zbZ {a:Type}(l:List a)(i:Int)(x:a):(up l i x).length=l.length:=by simp[up]
def zex {a:Type}(l:List a)(i:Int)(x:a):ln (up l i x)=ln l:=by simp[up,ln]
def zBw {a:Type}{l:List a}{i:Int}(h:j0 i (ln l)=true)(d:a):∃k:Nat,∃b:k<l.length,i=(k:Int)/\ix l i d=l[k]:=by rw[zK]at h;unfold ln at h;refine⟨i.toNat,by omega,by omega,?_⟩;simp[ix,List.getD,qB (show i.toNat<l.length by omega)]
def zlG {a:Type}{l:List a}{k:Nat}(h:k<l.length)(d:a):ix l (k:Int) d=l[k]:=by simp[ix,List.getD,qB h]
def zlk {a:Type}{l:List a}{i:Int}(h:j0 i (ln l)=true)(d:a):ix l i d∈l:=by obtain⟨k,b,_,e⟩:=zBw h d;rw[e];exact jE b
def ztC {a:Type}{l:List a}{x:a}(h:x∈l)(d:a):∃i,j0 i (ln l)=true/\ix l i d=x:=by obtain⟨k,b,e⟩:=List.mem_iff_getElem.1 h;exact⟨(k:Int),zK.2 (by unfold ln;omega),(zlG b d).trans e⟩
def zbp {a:Type}{l:List a}{i:Int}(h:j0 i (ln l)=true)(x d:a):ix (up l i x) i d=x:=by rw[zK]at h;unfold ln at h;simp[ix,up,List.getD,show i.toNat<l.length by omega]
def zbG {a:Type}{l:List a}{i j:Int}(b:0<=i)(c:0<=j)(h:i≠j)(x d:a):ix (up l i x) j d=ix l j d:=by have:i.toNat≠j.toNat:=(by omega);simp[ix,up,List.getD,q0,this]
def z8J {a:Type}(l:List a)(i:Int)(x y:a):up (up l i x) i y=up l i y:=by simp[up]
def zR8 {a:Type}{l m:List a}(d:a)(h:l.length=m.length)(e:∀i,j0 i (ln l)=true->ix l i d=ix m i d):l=m:=by refine vS h λk b c=>?_;have:=e (k:Int) (zK.2 (by unfold ln;omega));rwa [zlG b,zlG c] at this
def zLF {a:Type}{l:List a}{i:Int}(h:j0 i (ln l)=true)(d:a):up l i (ix l i d)=l:=by obtain⟨k,b,rfl,e⟩:=zBw h d;rw[e];simp[up]
def cPg (x:Mon)(q:Int):Nat:=x.ae.countP λs=>ieq s.af q
def zge (l:List Mon)(q:Int):Nat:=(l.map λx=>cPg x q).sum
def zTq {a:Type}(P:a->Bool){l:List a}{i:Int}(h:j0 i (ln l)=true)(x d:a):(up l i x).countP P+(if P (ix l i d) then 1 else 0)=l.countP P+(if P x then 1 else 0):=by
 obtain⟨k,b,rfl,e⟩:=zBw h d;rw[e];simp only[up,kO,List.countP_set b];have:(if P l[k]=true then 1 else 0)<=l.countP P:=by
  split
  .rename_i hp;exact List.countP_pos_iff.2 ⟨l[k],jE b,hp⟩
  .omega
 omega
def zAu {l:List Mon}{m:Int}(h:j0 m (ln l)=true)(x:Mon)(q:Int):zge (up l m x) q+cPg (ix l m mZ) q=zge l q+cPg x q:=by obtain⟨k,a,rfl,e⟩:=zBw h mZ;rw[e];clear h e;unfold up;simp only[kO];induction l generalizing k with|nil=>simp at a|cons y l b=>(cases k with|zero=>simp[zge];omega|succ k=>have:=b k (by simpa using a);simp[zge] at this ⊢;omega)
def zJz {l:List Mon}{m p:Int}(a:j0 m (ln l)=true)(b:j0 p (ln (ix l m mZ).ae)=true):1<=zge l (ix (ix l m mZ).ae p sZ).af:=by have d:1<=cPg (ix l m mZ) (ix (ix l m mZ).ae p sZ).af:=List.countP_pos_iff.2 ⟨_,zlk b sZ,by simp[ieq]⟩;have:=zAu a (⟨[],[],[],[],[],0,0,[],0⟩:Mon) (ix (ix l m mZ).ae p sZ).af;have c:cPg (⟨[],[],[],[],[],0,0,[],0⟩:Mon) (ix (ix l m mZ).ae p sZ).af=0:=rfl;omega
def z8W {l:List Mon}{m p n k:Int}{q:Int}(b:j0 m (ln l)=true)(v:j0 p (ln (ix l m mZ).ae)=true)(u:j0 n (ln l)=true)(f:j0 k (ln (ix l n mZ).ae)=true)(z:(ix (ix l m mZ).ae p sZ).af=q)(t:(ix (ix l n mZ).ae k sZ).af=q)(h:zge l q<=1):m=n/\p=k:=by have c:=zK.1 b;have d:=zK.1 u;have i:=zK.1 v;have g:=zK.1 f;have B:¬ ieq q (q+1)=true:=(by simp[ieq];omega);obtain⟨y,r⟩:∃y:Mon,y.ae=up (ix l m mZ).ae p ⟨q+1,0⟩:=⟨{ix l m mZ with ae:=up (ix l m mZ).ae p ⟨q+1,0⟩},rfl⟩;have x:=zTq (λs=>ieq s.af q) v (⟨q+1,0⟩:k0) sZ;simp only[z,show ieq q q=true by simp[ieq],show ieq (q+1) q=false by simp[ieq];omega,if_true,kN,if_false] at x;have C:=zAu b y q;simp only[cPg,r] at C;have D:zge (up l m y) q=0:=(by omega);apply Classical.byContradiction;intro A;have w:1<=zge (up l m y) q:=(by by_cases a:m=n;{subst a;have j:p≠k:=λe=>A ⟨rfl,e⟩;have:=zJz (l:=up l m y) (m:=m) (p:=k) (by rw[zex];exact b) (by rw[zbp b,r,zex];exact f);rw[zbp b,r,zbG i.1 g.1 j,t] at this;exact this};{have:=zJz (l:=up l m y) (m:=n) (p:=k) (by rw[zex];exact u) (by rw[zbG c.1 d.1 a];exact f);rw[zbG c.1 d.1 a,t] at this;exact this});omega
def zvF {a b c:Bool}:(cond a b c)=true↔(a=true/\b=true)\/(a=false/\c=true):=by cases a<;>simp
def SOk (s:k0):Prop:=s=C0\/(0<=s.af/\s.af<=11/\1<=s.aj/\s.aj<=3)
def zZI {a b:k0}(c:a.af=b.af)(d:a.aj=b.aj):a=b:=by cases a;cases b;simp_all
def zrz {a b:k0}:zdr a b=true↔a=b:=by simp only[zdr,qE,zbA];exact⟨λh=>zZI h.1 h.2,λh=>by rw[h];exact⟨rfl,rfl⟩⟩
def ztN {a b:k0}:zdr a b=false↔a≠b:=by rw[<- vT,zrz]
def z2X {s:k0}:zey s 12=true↔SOk s:=by unfold zey SOk;rw[zvF,zrz,ztN];have:wsub .i64 12 1=11:=(by decide);simp only[this,zvF,zc9];simp[igt];constructor;{rintro (h|⟨h,⟨a,b⟩,c⟩);{exact .inl h};{exact .inr ⟨a,b,c⟩}};{intro h;by_cases d:s=C0;{exact .inl d};{rcases h with h|⟨a,b,c⟩;{exact .inl h};{exact .inr ⟨d,⟨a,b⟩,c⟩}}}
def SOk.none {s:k0}(h:SOk s)(a:s.af = -1):s=C0:=by rcases h with h|h;{exact h};{omega}
def SOk.pos {s:k0}(h:SOk s)(a:s.af≠-1):0<=s.af/\s.af<=11/\1<=s.aj/\s.aj<=3:=by rcases h with h|h;{rw [h]at a;exact absurd rfl a};{exact h}
structure MOk (x:Mon):Prop where
 g1:1<=x.ac.length
 g2:x.ac.length<=2
 gt:x.am.length=x.ac.length
 o8:x.ae.length=8
 sl:∀s∈x.ae,SOk s
 u8:x.Out.length=8
 d8:x.aw.length=8
 outs:x.Outs.length<=40
 pend:zd2 x.an=true
 tr:zk x.aq 0 3=true
 own:zk x.Own 0 1000000000=true
 gs:∀g∈x.ac,zec g=true
 fit:∀p,j0 p 8=true->zny (ix x.ae p sZ) (ix x.Out p [])=true
def zWK {P:Nat->Bool}:∀{n i:Nat},zpQ P n i=true↔∀j,i<=j->j<i+n->P j=true
 | 0,i=>by simp[zpQ];intro j a b;omega
 |n+1,i=>by rw[zpQ,qE,zWK];constructor;{rintro⟨a,b⟩ j c d;by_cases e:j=i;{rw [e];exact a};{exact b j (by omega) (by omega)}};{intro h;exact⟨h i (by omega) (by omega),λj a b=>h j (by omega) (by omega)⟩}
def zti {t:List k0}{n p:Int}:zdv t n p=true↔(∀s∈t,zey s p=true)/\ln t=n:=by unfold zdv;rw[zcu,qN,zbA]
def zbdM {x:Mon}:zfw x=true↔MOk x:=by unfold zfw;simp only[zcu,zc9,zbA,zti,zWK,qN,ile,q9];constructor;{rintro⟨⟨g,i⟩,m,⟨k,l⟩,n,q,r,e,a,b,c,d⟩;unfold ln at *;refine⟨by omega,by omega,by omega,by omega,λs f=>z2X.1 (k s f),by omega,by omega,by omega,e,zc9.2 a,zc9.2 b,c,λp t=>?_⟩;have u:=zK.1 t;have:=d p.toNat (by omega) (by omega);unfold fits at this;rwa [show ((p.toNat:Nat):Int)=p by omega] at this};{intro h;obtain⟨g,i,m,k,l,n,q,r,e,a,b,c,d⟩:=h;unfold ln;exact⟨⟨by omega,by omega⟩,by omega,⟨λs f=>z2X.2 (l s f),by omega⟩,by omega,by omega,by omega,e,zc9.1 a,zc9.1 b,c,λj g i=>d (j:Int) (zK.2 (by omega))⟩}
def zAU (o:List k0)(s:k0)(q:Int):(s::o).countP (λs=>ieq s.af q)=o.countP (λs=>ieq s.af q)+if s.af=q then 1 else 0:=by rw[vN];simp[ieq]
def zB7:∀{o:List k0} {u:List Bool},(∀s∈o,s.af<u.length)->
 (∀c,zie o u=some c↔(∀q,0<=q->o.countP (λs=>ieq s.af q)+(if ix u q false then 1 else 0)<=1)/\
  c=(o.foldl (λu s=>bif ilt s.af 0 then u else up u s.af true) u))
 |[],u,h,c=>by simp[zie];exact⟨λh=>⟨λq _=>by split<;>omega,h.symm⟩,λh=>h.2.symm⟩
 |s::o,u,h,c=>by
  unfold zie;by_cases g:s.af<0;{have b:ilt s.af 0=true:=qH g;rw[b,cond_true,zB7 λy d=>h y (qY _ d)];simp only[uQ,b,cond_true];refine and_congr (forall_congr' λq=>forall_congr' λf=>?_) Iff.rfl;have e:(if s.af=q then 1 else 0)=0:=if_neg (by omega);rw[zAU,e,jZ]};{have b:ilt s.af 0=false:=qI g;have k:=h s jB;have j:j0 s.af (ln u)=true:=zK.2 ⟨by omega,by unfold ln;omega⟩;rw[b,cond_false];cases i:ix u s.af false with|true=>rw[cond_true];constructor;{intro h;cases h};{rintro⟨h,_⟩;have:=h s.af (by omega);rw[zAU,if_pos rfl,i] at this;simp at this}|false=>rw[cond_false,zB7 (λy d=>by rw[zbZ];exact h y (qY _ d))];simp only[uQ,b,cond_false];refine and_congr (forall_congr' λq=>forall_congr' λf=>?_) Iff.rfl;rw[zAU];by_cases a:s.af=q;{subst a;rw[zbp j,i];simp};{rw [zbG (by omega) f a,if_neg a,jZ]}}
def zLG:∀(o:List k0) (u:List Bool),(o.foldl (λu s=>bif ilt s.af 0 then u else up u s.af true) u).length=u.length
 |[],u=>rfl
 |s::o,u=>by rw[uQ,zLG];cases ilt s.af 0<;>simp [zbZ]
def zSO:∀(o:List k0) (u:List Bool) (q:Int),0<=q->(∀s∈o,s.af<u.length)->(ix (o.foldl (λu s=>bif ilt s.af 0 then u else up u s.af true) u) q false=true↔ix u q false=true\/1<=o.countP λs=>ieq s.af q)
 |[],u,q,b,h=>by simp
 |s::o,u,q,b,h=>by
  rw[uQ,zSO _ _ q b (λy f=>by have:=h y (qY _ f);cases ilt s.af 0<;>simpa [zbZ] using this),zAU];by_cases c:s.af<0;{rw [show ilt s.af 0=true from qH c,cond_true,if_neg (by omega),jZ]};{rw [show ilt s.af 0=false from qI c,cond_false];have e:=h s jB;have d:j0 s.af (ln u)=true:=zK.2 ⟨by omega,by unfold ln;omega⟩;by_cases a:s.af=q;{subst a;rw[zbp d];simp};{rw [zbG (by omega) b a,if_neg a,jZ]}}
def zBm:∀{l:List Mon} {u:List Bool},u.length=12->(zkB l u=true↔(∀x∈l,MOk x)/\∀q,0<=q->zge l q+(if l≠[]/\ix u q false then 1 else 0)<=1)
 |[],u,c=>by simp[zkB,zge]
 |x::l,u,c=>by
  unfold zkB;rw[zcu,zbdM];constructor;{rintro⟨f,b⟩;have k:∀s∈x.ae,s.af<u.length:=λs n=>(by rcases f.sl s n with h|h;{rw [h,c];decide};{rw [c];omega});split at b;{rename_i B d;obtain⟨g,rfl⟩:=(zB7 k B).1 d;rw[zBm (by rw[zLG,c])]at b;obtain⟨v,w⟩:=b;refine⟨by simpa using ⟨f,v⟩,λq a=>?_⟩;have z:=g q a;have i:=w q a;have m:=zSO x.ae u q a k;simp only[zge,jA,uA]at i ⊢;unfold cPg at i ⊢;simp only[ne_eq,reduceCtorEq,not_false_eq_true,true_and];by_cases r:l=[];{subst r;simpa using z};{simp only [r,ne_eq,not_false_eq_true,true_and]at i;by_cases j:ix (x.ae.foldl (λu s=>bif ilt s.af 0 then u else up u s.af true) u) q false=true;{rw [if_pos j]at i;omega};{rw [if_neg j]at i;have p:¬ (ix u q false=true\/1<=x.ae.countP λs=>ieq s.af q):=λe=>j (m.2 e);rw[not_or]at p;rw[if_neg p.1];omega}}};{cases b}}
  .rintro⟨f,b⟩;have t:MOk x:=f x jB;refine⟨t,?_⟩;have k:∀s∈x.ae,s.af<u.length:=λs n=>by rcases t.sl s n with h|h;{rw [h,c];decide};{rw [c];omega}
   have d:=(zB7 k _).2 ⟨λq a=>by
    have:=b q a;simp only[zge,jA,uA,ne_eq,reduceCtorEq,not_false_eq_true,true_and] at this;unfold cPg at this;omega,rfl⟩
   rw[d];simp only;rw[zBm (by rw[zLG,c])];refine⟨λy A=>f y (qY _ A),λq a=>?_⟩;have g:=b q a;have m:=zSO x.ae u q a k;simp only[zge,jA,uA,ne_eq,reduceCtorEq,not_false_eq_true,true_and]at g ⊢;unfold cPg at g ⊢;split;{rename_i j;rcases m.1 j.2 with h|h;{rw [if_pos h]at g;omega};{omega}};{omega}
structure HOk (h:ad):Prop where
 m12:h.ag.length=12
 pgs:∀c∈h.ag,zcN c=true
 n1:1<=h.aa.length
 n3:h.aa.length<=3
 b1:zgt h.ao=true
 b2:zgt h.ak=true
 mons:∀x∈h.aa,MOk x
 uq:∀q,0<=q->zge h.aa q<=1
def zkA {h:ad}:zcr h=true↔HOk h:=by unfold zcr zjG;simp only[zcu,zc9,zbA,qN];rw[zBm (by simp[rp])];have g:∀q,ix (rp 12 false) q false=false:=λq=>(by unfold ix rp;rw[kI,kG];split<;>rfl);simp only[g,kN,and_false,if_false,jZ];unfold ln;constructor;{rintro⟨⟨e,f⟩,⟨i,j⟩,a,b,c,d⟩;exact⟨by omega,e,by omega,by omega,a,b,c,d⟩};{rintro⟨e,f,i,j,a,b,c,d⟩;exact⟨⟨f,by omega⟩,⟨by omega,by omega⟩,a,b,c,d⟩}
def HOk.mon {h:ad}(H:HOk h){m:Int}(a:j0 m (ln h.aa)=true):MOk (ix h.aa m mZ):=H.mons _ (zlk a _)
def MOk.hasO {x:Mon}(H:MOk x){p:Int}(a:j0 p 8=true):j0 p (ln x.ae)=true:=by rw[ln,H.o8];exact a
def MOk.hasU {x:Mon}(H:MOk x){p:Int}(a:j0 p 8=true):j0 p (ln x.Out)=true:=by rw[ln,H.u8];exact a
def MOk.hasD {x:Mon}(H:MOk x){p:Int}(a:j0 p 8=true):j0 p (ln x.aw)=true:=by rw[ln,H.d8];exact a
def MOk.slot {x:Mon}(H:MOk x){p:Int}(a:j0 p 8=true):SOk (ix x.ae p sZ):=H.sl _ (zlk (H.hasO a) _)
def HOk.uniq {h:ad}(H:HOk h){m p n k q:Int}(a:j0 m (ln h.aa)=true)(f:j0 p 8=true)(b:j0 n (ln h.aa)=true)(e:j0 k 8=true)(c:(ix (ix h.aa m mZ).ae p sZ).af=q)(d:(ix (ix h.aa n mZ).ae k sZ).af=q)(g:0<=q):m=n/\p=k :=
 z8W a ((H.mon a).hasO f) b ((H.mon b).hasO e) c d (H.uq q g)
def HOk.up {h:ad}(H:HOk h){m:Int}(k:j0 m (ln h.aa)=true){x:Mon}(l:MOk x){a:ad}(e:a.aa=up h.aa m x)(d:a.ag.length=12)(f:∀c∈a.ag,zcN c=true)(i:zgt a.ao=true)(j:zgt a.ak=true)(n:∀q,0<=q->cPg x q<=cPg (ix h.aa m mZ) q\/zge h.aa q=0/\cPg x q<=1):HOk a:=by refine⟨d,f,by rw[e,zbZ];exact H.n1,by rw[e,zbZ];exact H.n3,i,j,λy b=>?_,λq g=>?_⟩;{rw [e]at b;unfold E.up at b;rcases qZ b with h|h;{exact H.mons y h};{rw [h];exact l}};{rw [e];have p:=zAu k x q;have r:=H.uq q g;have s:=n q g;omega}
structure KOk (k:az) (inner outer:List k0):Prop where
 l1:k.ay.length=inner.length
 l2:k.aA.length=inner.length
 at':∀i,j0 i (ln inner)=true->ix k.aA i sZ=bif ix k.ay i false then zbI (ix inner i sZ) outer else C0
def TOk (x:Mon):Prop:=∀g,j0 g (ln x.ac)=true->KOk (ix x.am g kZ) (ix x.ac g gZ).av x.ae
structure Rt (h:ad):Prop where
 t:∀m,j0 m (ln h.aa)=true->TOk (ix h.aa m mZ)
 e1:∀e∈h.ao,zdw h e=true
 e2:∀e∈h.ak,zdw h e=true
structure Safe (h:ad):Prop where
 ok:HOk h
 rt:Rt h
def ztl {a b:k0}:below' a b=true↔a=C0\/(a.af=b.af/\enough b.aj a.aj=true):=by unfold below';rw[zvF,zrz,ztN,zcu,zbA];by_cases h:a=C0<;>simp [h]
def z8K (x:Int):wand .i64 0 x=0:=by unfold wand;have:(BitVec.ofInt 64 0 &&& BitVec.ofInt 64 x)=0#64:=(by rw[show BitVec.ofInt 64 0=0#64 from rfl,BitVec.zero_and]);show IntKind.wrap .i64 ((BitVec.ofInt 64 0 &&& BitVec.ofInt 64 x).toNat:Int)=0;rw[this];rfl
def z8V {a:k0}(h:below' a C0=true):a=C0:=by rcases ztl.1 h with h|⟨c,b⟩;{exact h};{refine zZI c ?_;unfold enough at b;rw[show C0.aj=0 from rfl,z8K]at b;simp only[zcu,zbA]at b;exact b.2.2.symm}
def zgQ {h:ad}{e:ar}:zdw h e=true↔j0 (zef e.Tag) (ln h.aa)=true/\j0 (zfj e.Tag) (ln (ix h.aa (zef e.Tag) mZ).ac)=true/\
 below' ⟨e.ad,e.aj⟩ (zbI (zbK (ix (ix h.aa (zef e.Tag) mZ).ac (zfj e.Tag) gZ).av e.af) (ix h.aa (zef e.Tag) mZ).ae)=true:=by
 unfold zdw;rw[zcu,zcu]
def zUg {o:List k0}{p q:Int}{s:k0}(a:0<=p)(h:q≠p):zbK (up o p s) q=zbK o q:=by unfold zbK;rw[zex];cases b:j0 q (ln o) with|false=>rfl|true=>rw[cond_true,cond_true,zbG a (zK.1 b).1<|Ne.symm h]
def zMK {s:k0}{o:List k0}{p:Int}{t:k0}(a:0<=p)(h:s.af≠p):zbI s (up o p t)=zbI s o:=by unfold zbI;rw[zUg a h]
def z3G {s:k0}{o:List k0}:zbI s o=C0\/(zbI s o).af=(zbK o s.af).af:=by unfold zbI;cases ieq s.af (-1)<;>cases ieq (zbK o s.af).af (-1)<;>cases ieq (zeT s.aj (zbK o s.af).aj) 0<;>simp
def zmD (k:az)(q:Int):(zca k q).ay.length=k.ay.length/\(zca k q).aA.length=k.aA.length:=by unfold zca;cases zdS k q<;>simp [zbZ]
def zCH:∀(l:LI) (k:az),(zfE k l).ay.length=k.ay.length/\(zfE k l).aA.length=k.aA.length
 |[],k=>⟨rfl,rfl⟩
 |q::l,k=>by have a:=zCH l (zca k q);have b:=zmD k q;exact⟨a.1.trans b.1,a.2.trans b.2⟩
def zys {k:az}{q i:Int}(d:k.ay.length=k.aA.length)(b:j0 i (ln k.ay)=true) :
 ix (zca k q).ay i false=(cond (ieq q i) false<|ix k.ay i false)/\ix (zca k q).aA i sZ=(cond (ieq q i) C0<|ix k.aA i sZ):=by
 have c:j0 i (ln k.aA)=true:=by unfold ln at b ⊢;rwa [<- d]
 unfold zca zdS
 by_cases e:q=i
 .subst e;simp only[b,c,cond_true,ieq,beq_self_eq_true];exact⟨zbp b _ _,zbp c _ _⟩
 .rw [show ieq q i=false from zb4.2 e]
  by_cases a:j0 q (ln k.ay)=true
  .have hq':j0 q (ln k.aA)=true:=by unfold ln at a ⊢;rwa [<- d]
   simp only[a,hq',cond_true,cond_false];exact⟨zbG (zK.1 a).1 (zK.1 b).1 e _ _,zbG (zK.1 a).1 (zK.1 b).1 e _ _⟩
  .rw [vT]at a;simp[a]
def zEV:∀(l:LI) {k:az} {i:Int},k.ay.length=k.aA.length->j0 i (ln k.ay)=true->
 (i∈l->ix (zfE k l).ay i false=false/\ix (zfE k l).aA i sZ=C0)/\
 (i∉l->ix (zfE k l).ay i false=ix k.ay i false/\ix (zfE k l).aA i sZ=ix k.aA i sZ)
 |[],k,i,d,c=>⟨λh=>by simp at h,λ_=>⟨rfl,rfl⟩⟩
 |q::l,k,i,d,c=>by have b:=zmD k q;have g:=zys (q:=q) d c;have f:=zEV l (k:=zca k q) (i:=i) (by rw[b.1,b.2,d]) (by unfold ln at c ⊢;rwa [b.1]);show (_->ix (zfE (zca k q) l).ay i false=_/\ix (zfE (zca k q) l).aA i sZ=_)/\(_->ix (zfE (zca k q) l).ay i false=_/\ix (zfE (zca k q) l).aA i sZ=_);by_cases a:i∈l;{refine⟨λ_=>f.1 a,λh=>absurd (qY _ a) h⟩};{rw [(f.2 a).1,(f.2 a).2,g.1,g.2];by_cases e:q=i;{subst e;simp[ieq]};{rw [zb4.2 e];simp[a,Ne.symm e]}}
def zKQ {e:Type}{P:e->Bool}{d:e}:∀{l:List e} {n:Nat} {i:Int},i∈idxs P l n↔∃k:Nat,∃h:k<l.length,i=((n+k:Nat):Int)/\P l[k]=true
 |[],n,i=>by simp[idxs]
 |x::l,n,i=>by
  have g:=@zKQ e P d l (n+1) i;unfold idxs;constructor
  .intro h;cases f:P x with
   |true=>rw[f,cond_true,qG]at h;rcases h with h|h;{exact⟨0,by simp,by simpa using h,f⟩};{obtain⟨k,c,b,a⟩:=g.1 h;exact⟨k+1,by simpa using c,by rw[b];congr 1;omega,by simpa using a⟩}
   |false=>rw[f,cond_false]at h;obtain⟨k,c,b,a⟩:=g.1 h;exact⟨k+1,by simpa using c,by rw[b];congr 1;omega,by simpa using a⟩
  {rintro⟨k,c,b,a⟩;cases k with|zero=>simp only[List.getElem_cons_zero]at a;rw[a,cond_true,b];exact jB|succ k=>have:=g.2 ⟨k,by simpa using c,by rw[b];congr 1;omega,by simpa using a⟩;cases P x;{exact this};{exact qY _ this}}
def z0w {l:List k0}{p i:Int}:i∈zGe l p↔j0 i (ln l)=true/\(ix l i sZ).af=p:=by unfold zGe;rw[zKQ (d:=sZ)];constructor;{rintro⟨k,a,rfl,c⟩;rw[j6,zlG a];exact⟨zK.2 (by unfold ln;omega),zbA.1 c⟩};{rintro⟨a,b⟩;obtain⟨k,f,rfl,e⟩:=zBw a sZ;exact⟨k,f,by simp,by rw[e]at b;exact zbA.2 b⟩}
def z4x {k:az}{a b:List k0}(h:KOk k a b){p:Int}(j:0<=p)(s:k0):KOk (zle k a p) a (up b p s):=by have g:=zCH (zGe a p) k;refine⟨g.1.trans h.l1,g.2.trans h.l2,λi d=>?_⟩;have e:j0 i (ln k.ay)=true:=(by unfold ln at d ⊢;rwa [h.l1]);have f:=zEV (zGe a p) (by rw[h.l1,h.l2]) e;unfold zle;by_cases c:(ix a i sZ).af=p;{have:=f.1 (z0w.2 ⟨d,c⟩);rw[this.1,this.2];rfl};{have:=f.2 (λh=>c (z0w.1 h).2);rw[this.1,this.2,h.at' i d,zMK j c]}
def zF8 (b:List ah)(p:Int):∀(n:Nat) (a:List az),(znc b p n a).length=a.length
 | 0,a=>rfl
 |n+1,a=>by rw[znc,zbZ,zF8 b p n]
def zSt (b:List ah)(p:Int):∀(n:Nat) (a:List az),n<=a.length->∀i,0<=i->ix (znc b p n a) i kZ=if i<n then zle (ix a i kZ) (ix b i gZ).av p else ix a i kZ
 | 0,a,_,i,c=>by rw[if_neg (by omega)];rfl
 |n+1,a,d,i,c=>by rw[znc];by_cases e:i=n;{subst e;rw[zbp (by rw[ln,zF8];exact zK.2 (by omega)),if_pos (by omega),zSt b p n a (by omega) _ c,if_neg (by omega)]};{rw [zbG (by omega) c<|Ne.symm e,zSt b p n a (by omega) i c];by_cases h:i<n;{rw [if_pos h,if_pos (by omega)]};{rw [if_neg h,if_neg (by omega)]}}
def zlC (x:Mon)(p:Int)(s:k0):Mon:={zme x p x.am.length with ae:=up x.ae p s}
def z8v {x:Mon}(h:TOk x)(c:x.am.length=x.ac.length){p:Int}(b:0<=p)(s:k0):TOk (zlC x p s):=by intro g hg;have a:j0 g (ln x.ac)=true:=hg;show KOk (ix (znc x.ac p x.am.length x.am) g kZ) (ix x.ac g gZ).av (up x.ae p s);rw[zSt _ _ _ _ (qW _) _ (zK.1 a).1,if_pos (by have:=zK.1 a;unfold ln at this;omega)];exact z4x (h g a) b s
def zut (h:ad)(m p:Int)(s:k0):(zcH h m p s).aa=up h.aa m (zlC (ix h.aa m mZ) p s):=by unfold zcH;cases ine (ix (ix h.aa m zi).ae p zba).af (-1)<;>rfl
def zyU (h:ad)(m p:Int)(s:k0):(zcH h m p s).ag=h.ag:=by unfold zcH;cases ine (ix (ix h.aa m zi).ae p zba).af (-1)<;>rfl
def zUi (h:ad)(m p:Int)(s:k0):(zcH h m p s).ao=(cond (ieq (ix (ix h.aa m mZ).ae p sZ).af<|-1) h.ao<|flushed h.ao (ix (ix h.aa m mZ).ae p sZ).af)/\
 (zcH h m p s).ak=(cond (ieq (ix (ix h.aa m mZ).ae p sZ).af<|-1) h.ak<|flushed h.ak (ix (ix h.aa m mZ).ae p sZ).af):=by
 unfold zcH
 by_cases e:(ix (ix h.aa m zi).ae p zba).af = -1
 .rw [show ine (ix (ix h.aa m zi).ae p zba).af (-1)=false by simp[ine,e],show ieq (ix (ix h.aa m mZ).ae p sZ).af (-1)=true from zbA.2 e]
  exact⟨rfl,rfl⟩
 .rw [show ine (ix (ix h.aa m zi).ae p zba).af (-1)=true from zGx.2 e,show ieq (ix (ix h.aa m mZ).ae p sZ).af (-1)=false from zb4.2 e]
  exact⟨rfl,rfl⟩
def zMO {h k:ad}{m p:Int}{s:k0}(n:j0 m (ln h.aa)=true)(q:j0 p (ln (ix h.aa m mZ).ae)=true){x:Mon}(u:k.aa=up h.aa m x)(t:x.ac=(ix h.aa m mZ).ac)(v:x.ae=up (ix h.aa m mZ).ae p s){e:ar}(w:zdw h e=true)(c:(ix (ix h.aa m mZ).ae p sZ).af = -1\/e.ad≠(ix (ix h.aa m mZ).ae p sZ).af):zdw k e=true:=by obtain⟨f,g,b⟩:=zgQ.1 w;rw[zgQ,u,zex];refine⟨f,?_⟩;by_cases l:m=zef e.Tag;{rw [<- l]at f g b ⊢;rw[zbp n,t,v];refine⟨g,?_⟩;by_cases j:(zbK (ix (ix h.aa m mZ).ac (zfj e.Tag) gZ).av e.af).af=p;{have a:zbI (zbK (ix (ix h.aa m mZ).ac (zfj e.Tag) gZ).av e.af) (ix h.aa m mZ).ae=C0\/e.ad≠(zbI (zbK (ix (ix h.aa m mZ).ac (zfj e.Tag) gZ).av e.af) (ix h.aa m mZ).ae).af:=(by rcases z3G (s:=zbK (ix (ix h.aa m mZ).ac (zfj e.Tag) gZ).av e.af) (o:=(ix h.aa m mZ).ae) with d|d;{exact .inl d};{rw [j]at d;have r:zbK (ix h.aa m mZ).ae p=ix (ix h.aa m mZ).ae p sZ:=(by unfold zbK;rw[q];rfl);rw[r]at d;rcases c with c|c;{left;unfold zbI;rw[j,r,c,show ieq (-1) (-1)=true from rfl];cases ieq p (-1)<;>rfl};{exact .inr (by rw[d];exact c)}});have i:(⟨e.ad,e.aj⟩:k0)=C0:=(by rcases a with a|a;{rw [a]at b;exact z8V b};{rcases ztl.1 b with h|h;{exact h};{exact absurd h.1 a}});rw[i];exact ztl.2 (.inl rfl)};{rw [zMK (zK.1 q).1 j];exact b}};{rw [zbG (zK.1 n).1 (zK.1 f).1 l];exact⟨g,b⟩}
def zBN {h:ad}(H:Rt h){m p:Int}(d:j0 m (ln h.aa)=true)(q:j0 p (ln (ix h.aa m mZ).ae)=true)(u:(ix h.aa m mZ).am.length=(ix h.aa m mZ).ac.length)(s:k0):Rt (zcH h m p s):=by have c:=zUi h m p s;have i:=zut h m p s;have f:∀(b:List ar),(∀e∈b,zdw h e=true)->∀e∈(cond (ieq (ix (ix h.aa m mZ).ae p sZ).af<|-1) b<|flushed b (ix (ix h.aa m mZ).ae p sZ).af),zdw (zcH h m p s) e=true:=(by intro b c e a;by_cases n:(ix (ix h.aa m mZ).ae p sZ).af = -1;{rw [zbA.2 n,cond_true]at a;exact zMO d q i rfl rfl (c e a) (.inl n)};{rw [zb4.2 n,cond_false]at a;obtain⟨j,l⟩:=List.mem_filter.1 a;exact zMO d q i rfl rfl (c e j) (.inr (by simpa [ieq] using l))});refine⟨λk g=>?_,λe a=>f _ H.e1 e (by rwa [c.1]at a),λe a=>f _ H.e2 e (by rwa [c.2]at a)⟩;rw[i]at g ⊢;rw[zex]at g;by_cases r:m=k;{subst r;rw[zbp d];exact z8v (H.t m d) u (zK.1 q).1 s};{rw [zbG (zK.1 d).1 (zK.1 g).1 r];exact H.t k g}
end
end Go.Proofs.YtapgkefgcbapcaaGreat.E
