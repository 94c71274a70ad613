/- What is proved here: a part of the proof that the statement of this claim holds (several texts of wip/, laid together). -/
import Derived.Test.YtdlfljbgoopanaaGreatQ5
import Derived.WalkKit
import Derived.Tactics2
import Derived.Deep.RegionWith
import Derived.Laws.Rows
namespace Go.Proofs.YtdlfljbgoopanaaGreat.E
open Go
set_option linter.constructorNameAsVariable false
set_option linter.unusedVariables false
set_option maxRecDepth 100000
set_option linter.unusedSimpArgs false
set_option linter.unusedSectionVars false
noncomputable section
def z8J:zba:=[(143,zrM),(324,ztH)]++z0r
theorem zle:zT z8J:=zi zve (zi zwz zru)
theorem zUb {a b:Bool}(h:(a=true)↔(b=true)):a=b:=by cases a<;>cases b<;>simp_all
@[simp] theorem zbce (x:Int):zl x 0 3=hasB x 4:=zUb (by rw[zfT];unfold hasB;rw[decide_eq_true_iff];omega)
@[simp] theorem zND (x:Int):zl x 0 7=hasB x 8:=zUb (by rw[zfT];unfold hasB;rw[decide_eq_true_iff];omega)
def zeX (t:List Slot)(p:Int)(s:Slot):List Slot:=bif hasB p (ln t) then up t p s else t
@[simp] theorem zbcf (t:List Slot)(p:Int)(s:Slot):(zeX t p s).length=t.length:=by unfold zeX;cases hasB p (ln t)<;>simp
@[simp] abbrev zjh (t:List Slot)(p:Int)(s:Slot):Bool:=pc (t.length<=1048576)
@[simp] abbrev zgU (t:List Slot)(p:Int)(s:Slot):List Slot:=zeX t p s
def znT:Run:=rF3 (dS .slot) dI (dT .slot) λb c d=>(zjh b c d,[aS .slot<|zgU b c d])
def zCz (N:Nat)(a:lS)(b:Int)(c:Slot):OA:=
 (oN (few<|ln<|ap [] a)<|oN (zM b 0<|wsub .i64 (ln a) 1)<|cond (zl b 0<|wsub .i64 (ln a) 1) (oN (inb b<|ln<|ap [] a)<|share (up (ap [] a) b c) λd=>some [aS .slot d])<|some [aS .slot<|ap [] a])
theorem zPM (a:List Slot)(b:Int)(c:Slot)(d:zjh a b c=true):∃N,zCz N a b c=some [aS .slot<|zgU a b c]:=by have e:=zK.1 d;refine⟨0,?_⟩;unfold zCz oN;refine mu (must rfl (br (λ_=>mu (shr ?_)) λ_=>?_));all_goals first|rfl|(simp only [*,zgU,zeX,cT,cF]<;>rfl)|simp_all[Ty.cells,zgU,zeX]
theorem zIz:vP 379 znT:=kF3 zle zn zx zo (zq []) zPM
def zB9 (N:Nat)(a:lS)(b:Int)(c:Slot):OA:=
 (oN (zg4 a)<|oN (zbl b<|ln a)<|cond (zch b<|ln a) (oN (inb b<|ln<|ze1 a)<|share (up (ze1 a) b c) λd=>some [aS .slot d])<|some [aS .slot<|ze1 a])
theorem zPp (a:List Slot)(b:Int)(c:Slot)(d:zjh a b c=true):∃N,zB9 N a b c=some [aS .slot<|zgU a b c]:=by have e:=zK.1 d;refine⟨0,?_⟩;unfold zB9 oN;refine mu (must rfl (br (λ_=>mu (shr ?_)) λ_=>?_));all_goals first|rfl|(simp only [*,zgU,zeX,cT,cF]<;>rfl)|simp_all[Ty.cells,zgU,zeX]
theorem zIb:vP 235 znT:=kF3 zle zn zx zo (zq []) zPp
def zhV (p n:Int):Bool:=bif zee p then zl n 0 7 else false
def zp9 (p n:Int):Int:=bif zhV p n then wor .i64 p (zmh .i64 1 n) else p
theorem cv7 {n:Int}(h:hasB n 8=true):wcv .u64 n=n/\ile 0 n=true:=by have:=qD h;exact⟨zQx (by omega) (by omega),qJ (by omega)⟩
@[simp] abbrev zf3 (p n:Int):Bool:=true
@[simp] abbrev zep (p n:Int):Int:=zp9 p n
@[simp] abbrev zhD (p n:Int):Bool:=zhV p n
def zoV:Run:=rF2 dI dI λb c=>(zf3 b c,[aI<|zep b c,aB<|zhD b c])
def zGq (N:Nat)(a b:Int):OA:=
 (oN (zcl a)<|cond (nB<|zeT a) (some [aI a,aB false])<|oN (zM b 0 7)<|cond (nB<|zl b 0 7) (some [aI a,aB false])<|oN (ile 0<|wcv .u64 b)<|some [aI<|wor .i64 a<|zmh .i64 1<|wcv .u64 b,aB true])
theorem zS2 (b a:Int)(c:zf3 b a=true):∃N,zGq N b a=some [aI<|zep b a,aB<|zhD b a]:=by have d:=@cv7 a;refine⟨0,?_⟩;unfold zGq oN nB;refine must rfl (brN (λ_=>?_) λ_=>must rfl (brN (λ_=>?_) λ_=>mu ?_));all_goals first|rfl|(simp only [*,zep,zhD,zp9,zhV,cT,cF]<;>rfl)|simp_all[Ty.cells,zep,zhD,zp9,zhV]
theorem zLD:vP 381 zoV:=kF2 zle zn zx zo (zq []) zS2
def zF0 (N:Nat)(a b:Int):OA:=
 (oN (zcl a)<|cond (nB<|zeT a) (some [aI a,aB false])<|oN (zM b 0 7)<|cond (nB<|zl b 0 7) (some [aI a,aB false])<|oN (ile 0 b)<|some [aI<|wor .i64 a<|zmh .i64 1 b,aB true])
theorem zSF (b a:Int)(c:zf3 b a=true):∃N,zF0 N b a=some [aI<|zep b a,aB<|zhD b a]:=by have d:=@cv7 a;refine⟨0,?_⟩;unfold zF0 oN nB;refine must rfl (brN (λ_=>?_) λ_=>must rfl (brN (λ_=>?_) λ_=>mu ?_));all_goals first|rfl|(simp only [*,zep,zhD,zp9,zhV,cT,cF]<;>rfl)|simp_all[Ty.cells,zep,zhD,zp9,zhV]
theorem zLi:vP 242 zoV:=kF2 zle zn zx zo (zq []) zSF
def posts (c:Ctl)(n:Int):Bool:=bif znn c then (cond (zl n 0 7) (ieq (wand .i64 (zk1 .i64 c.Post n) 1) 1) false) else false
@[simp] abbrev ztg (c:Ctl)(n:Int):Bool:=true
@[simp] abbrev znW (c:Ctl)(n:Int):Bool:=posts c n
def zsn:Run:=rF2 dC dI λb c=>(ztg b c,[aB<|znW b c])
def zQR (N:Nat)(b:Ctl)(a:Int):OA:=
 (oN (zfs b)<|cond (znU b) (oN (zM a 0 7)<|cond (zl a 0 7) (oN (ile 0<|wcv .u64 a)<|some [aB<|ieq (wand .i64 (zk1 .i64 b.Post<|wcv .u64 a) 1) 1]) oF) oF)
theorem zYk (b:Ctl)(a:Int)(c:ztg b a=true):∃N,zQR N b a=some [aB<|znW b a]:=by have d:=@cv7 a;refine⟨0,?_⟩;unfold zQR oN;refine must rfl (br (λ_=>must rfl (br (λ_=>mu ?_) λ_=>?_)) λ_=>?_);all_goals first|rfl|(simp only [*,znW,posts,cT,cF]<;>rfl)|simp_all[Ty.cells,znW,posts]
theorem zSk:vP 395 zsn:=kF2 zle zn zx zo (zq []) zYk
def zQF (N:Nat)(b:Ctl)(a:Int):OA:=
 (oN (zfs b)<|cond (znU b) (oN (zM a 0 7)<|cond (zl a 0 7) (oN (ile 0 a)<|some [aB<|ieq (wand .i64 (zk1 .i64 b.Post a) 1) 1]) oF) oF)
theorem zYa (b:Ctl)(a:Int)(c:ztg b a=true):∃N,zQF N b a=some [aB<|znW b a]:=by have d:=@cv7 a;refine⟨0,?_⟩;unfold zQF oN;refine must rfl (br (λ_=>must rfl (br (λ_=>mu ?_) λ_=>?_)) λ_=>?_);all_goals first|rfl|(simp only [*,znW,posts,cT,cF]<;>rfl)|simp_all[Ty.cells,znW,posts]
theorem zR8:vP 308 zsn:=kF2 zle zn zx zo (zq []) zYa
def zbZ (b:Bare)(g:Int):Bool:=bif zbY b then hasB g (ln b.Guests) else false
theorem zeM {b:Bare}{g:Int}:(zbZ b g=true)↔zbY b=true/\hasB g (ln b.Guests)=true:=by unfold zbZ;cases zbY b<;>simp
@[simp] abbrev zmc (b:Bare)(g:Int):Bool:=zbZ b g
def zG5:Run:=rF2 (dT .bare) dI λb c=>(zcB b c,[aB<|zmc b c])
def zQU (N:Nat)(a:Bare)(b:Int):OA:=
 (oN (zdz a)<|cond (zb6 a) (oN (zM b 0<|wsub .i64 (ln a.Guests) 1)<|some [aB<|zl b 0<|wsub .i64 (ln a.Guests) 1]) oF)
theorem zYm (a:Bare)(b:Int)(c:zcB a b=true):∃N,zQU N a b=some [aB<|zmc a b]:=by have d:=zK.1 c;have e:a.Guests.length<=1048576:=d.2.1.1;refine⟨0,?_⟩;unfold zQU oN;refine must rfl (br (λ_=>must rfl ?_) λ_=>?_);all_goals first|rfl|(simp only [*,zmc,zbZ,cT,cF]<;>rfl)|simp_all[Ty.cells,zmc,zbZ]
theorem zSn:vP 378 zG5:=kF2 zle zn zx zo (zq []) zYm
@[simp] abbrev zmH (b:Bare)(g:Int):GExit:=(gAt b g).Exit
def zDN:Run:=rF2 (dT .bare) dI λb c=>(zcB b c,[.agg<|zgw<|zmH b c])
def zJD (N:Nat)(c:Bare)(d:Int):OA:=
 let a:=zej c d; (oN (zel c d)<|some [.agg [.i .i64 a.Exit.Kind,.i .i64 a.Exit.Page,.b a.Exit.Write,.i .i64 a.Exit.N]])
theorem zU9 (a:Bare)(b:Int)(c:zcB a b=true):∃N,zJD N a b=some [.agg<|zgw<|zmH a b]:=by
 have d:=zK.1 c;refine⟨0,?_⟩;unfold zJD oN;conv=>zeta
 refine mu ?_;first|rfl|(simp only [*,zmH,cT,cF]<;>rfl)|simp_all[Ty.cells,zmH]
theorem zN4:vP 239 zDN:=kF2 zle zn zx zo (zq []) zU9
def z8K:zba:=[(379,znT),(235,znT),(381,zoV),(242,zoV),(395,zsn),(308,zsn),(378,zG5),(239,zDN)]++z8J
theorem zfR:zT z8K:=zi zIz (zi zIb<|zi zLD<|zi zLi<|zi zSk<|zi zR8<|zi zSn<|zi zN4 zle)
theorem zXx {b:Type}{l:List b}{i:Int}{d:b}(h:hasB i (ln l)=true):up l i (ix l i d)=l:=by obtain⟨k,rfl,a⟩:=zeG (n:=l.length) h;unfold up;rw[zbu a,kH];exact u3 a
theorem zva {b:Bare}{g:Int}(h:hasB g (ln b.Guests)=true):gAt b g=ix b.Guests g zy:=by unfold gAt;rw[h];rfl
theorem z4G {b:Bare}{g:Int}(h:hasB g (ln b.Guests)=true):zeK b g (gAt b g)=b:=by unfold zeK;rw[zva h,zXx h]
def chg (b:Bare)(g:Int)(c:Bool)(x:Guest):Bare:=bif (cond (zbZ b g) c false) then zeK b g x else b
def zb2 (b:Bare)(g:Int)(c:Bool):Bool:=bif zbZ b g then c else false
def ztP (p:Int)(s:Slot):Bool:=bif hasB p 4 then zeP s 8 else false
def zvR (x:Guest)(p:Int)(s:Slot):Guest:={x with Written:=zeX x.Written p s}
def zev (x:Guest)(p:Int):Guest:={x with Live:=zeX x.Live p (zbK x.Written p)}
def zi5:GExit:=⟨0,0,false,0⟩
def ztz (x:Guest)(v:Int):Bool:=bif zl v 0 99 then (cond (ieq x.Exit.Kind 2) true<|ieq x.Exit.Kind 3) else false
def zuX (x:Guest)(v:Int):Guest:=zcg (stopped (cond (ieq x.Exit.Kind 2) {x with A:=v} x) zi5)
def zxD (x:Guest):Bool:=bif ieq x.Exit.Kind 1 then true else ieq x.Exit.Kind 4
def zvD (x:Guest):Guest:=bif ieq x.Exit.Kind 1 then stopped x zi5 else held (stopped x zi5)
def zmK (x:Guest)(n:Int):Guest:={x with Pending:=zp9 x.Pending n}
def zCO (x:Guest)(c:Ctl):Guest:={x with Ctl:=c}
theorem zbaw {x:Guest}{n:Int}(h:zhV x.Pending n=false):zmK x n=x:=by unfold zmK zp9;rw[h];rfl
theorem zWS {x:Guest}(p:Int)(s:Slot)(h:SmG x):SmG (zvR x p s):=⟨h.1,by simpa [zvR] using h.2.1,h.2.2.1,h.2.2.2⟩
theorem zuz {x:Guest}(p:Int)(h:SmG x):SmG (zev x p):=⟨h.1,h.2.1,by simpa [zev] using h.2.2.1,h.2.2.2⟩
theorem z7h {x:Guest}(v:Int)(h:SmG x):SmG (zuX x v):=by unfold zuX;cases ieq x.Exit.Kind 2<;>exact zk9 h
theorem z7i {x:Guest}(h:SmG x):SmG (zvD x):=by unfold zvD;cases ieq x.Exit.Kind 1;{exact zWQ (g:=stopped x zi5) h};{exact h}
theorem zpD {b:Bare}{g:Int}{c:Bool}{x:Guest}(h:SmB b)(a:SmG x):SmB (chg b g c x):=by unfold chg;cases (cond (zbZ b g) c false);{exact h};{exact zpn h a}
@[simp] abbrev zj9 (b:Bare)(g p:Int)(s:Slot):Bool:=pc (SmB b)
@[simp] abbrev zdC (b:Bare)(g p:Int)(s:Slot):Bare:=chg b g (ztP p s) (zvR (gAt b g) p s)
@[simp] abbrev zdR (b:Bare)(g p:Int)(s:Slot):Bool:=zb2 b g (ztP p s)
def zjD:Run:=rF4 (dT .bare) dI dI (dT .slot) λb c d e=>(zj9 b c d e,[aT .bare<|zdC b c d e,aB<|zdR b c d e])
def zGb (N:Nat)(f:Bare)(b c:Int)(d:Slot):OA:=
 let a:=zY f;let e:=ix a.Guests b zy; (oN (zbo f)<|oN (zcB a b)<|cond (nB<|zmc a b) (some [aT .bare a,aB false])<|oN (zM c 0 3)<|cond (nB<|zl c 0 3) (some [aT .bare a,aB false])<|oN (zlB d 8)<|cond (nB<|zjg d 8) (some [aT .bare a,aB false])<|oN (inb b<|ln a.Guests)<|oN (zjh e.Written c d)<|oN (inb b<|ln a.Guests)<|share (up a.Guests b ({e with Written:=(zgU e.Written c d)}:Guest)) λg=>some [aT .bare ({a with Guests:=g}:Bare),aB true])
theorem zSP (b:Bare)(a c:Int)(d:Slot)(e:zj9 b a c d=true):∃N,zGb N b a c d=some [aT .bare<|zdC b a c d,aB<|zdR b a c d]:=by
 have f:=zK.1 e;have g:=zgs a f;have k:zbZ b a=true->hasB a (ln b.Guests)=true:=λh=>(zeM.1 h).2;have i:zbZ b a=true->gAt b a=ix b.Guests a zy:=λh=>zva (zeM.1 h).2;have j:=g.2.1;refine⟨0,?_⟩;unfold zGb oN nB;conv=>zeta
 refine mu (mu<|brN (λ_=>?_) λ_=>must rfl (brN (λ_=>?_) λ_=>must rfl (brN (λ_=>?_) λ_=>mu (mu<|mu<|shr ?_))));all_goals first|rfl|(simp only [*,zdC,zdR,chg,zb2,ztP,zvR,zeK,cT,cF]<;>rfl)|simp_all[Ty.cells,zdC,zdR,chg,zb2,ztP,zvR,zeK]
theorem zwy:vP 338 zjD:=kF4 zfR zn zx zo (zq []) zSP
def zFQ (N:Nat)(a:Bare)(b e:Int)(f:Slot):OA:=
 let d:=zbo a;let g:=({ (zej a b) with Written:=(zgU (zej a b).Written e f)}:Guest);let c:=aT .bare<|zY a; (oN (zbl e 4)<|cond (zch e 4) (oN (zlB f 8)<|oN (zel a b)<|oN (zdz a)<|cond (nB<|zb6 a) (oN d<|some [c,aB false])<|cond (nB<|zek a b) (oN d<|some [c,aB false])<|cond (nB<|zjg f 8) (oN d<|some [c,aB false])<|oN (zjh (zej a b).Written e f)<|oN (cond (ieq a.Pending a.Pending) true false)<|oN (ieq b b)<|oN (zbL a b g)<|some [aT .bare<|zcN a b g,aB true])<|oN (zel a b)<|oN (zdz a)<|cond (nB<|zb6 a) (oN d<|some [c,aB false])<|cond (nB<|zek a b) (oN d<|some [c,aB false])<|oN d<|some [c,aB false])
theorem zSv (b:Bare)(a c:Int)(d:Slot)(f:zj9 b a c d=true):∃N,zFQ N b a c d=some [aT .bare<|zdC b a c d,aB<|zdR b a c d]:=by
 have g:=zK.1 f;have e:=zgs a g;have i:_/\_/\_/\_:=e;have h:=λp s=>zWS (x:=gAt b a) p s e;unfold zvR at h;refine⟨0,?_⟩;unfold zFQ oN nB;conv=>zeta
 refine must rfl (br (λ_=>must rfl (mu (must rfl (brN (λ_=>mu ?_) λ_=>brN (λ_=>mu ?_) λ_=>brN (λ_=>mu ?_) λ_=>mu (mu<|mu<|mu ?_))))) λ_=>mu (must rfl (brN (λ_=>mu ?_) λ_=>brN (λ_=>mu ?_) λ_=>mu ?_)));all_goals first|rfl|(simp only [*,zdC,zdR,chg,zb2,ztP,zvR,zbZ,zeQ,cT,cF]<;>rfl)|simp_all[Ty.cells,zdC,zdR,chg,zb2,ztP,zvR,zbZ,zeQ]
theorem zwv:vP 146 zjD:=kF4 zfR zn zx zo (zq []) zSv
@[simp] abbrev zlT (b:Bare)(g p:Int):Bool:=pc (SmB b)
@[simp] abbrev zdj (b:Bare)(g p:Int):Bare:=chg b g (hasB p 4) (zev (gAt b g) p)
@[simp] abbrev zeZ (b:Bare)(g p:Int):Bool:=zb2 b g (hasB p 4)
def zh9:Run:=rF3 (dT .bare) dI dI λb c d=>(zlT b c d,[aT .bare<|zdj b c d,aB<|zeZ b c d])
def zAN (N:Nat)(f:Bare)(d b:Int):OA:=
 let a:=zY f;let e:=inb d<|ln a.Guests;let c:=ix a.Guests d zy; (oN (zbo f)<|oN (zcB a d)<|cond (nB<|zmc a d) (some [aT .bare a,aB false])<|oN (zM b 0 3)<|cond (nB<|zl b 0 3) (some [aT .bare a,aB false])<|oN e<|oN e<|oN (zgd c.Written b)<|oN (zjh c.Live b<|zeU c.Written b)<|oN e<|share (up a.Guests d ({c with Live:=(zgU c.Live b<|zeU c.Written b)}:Guest)) λg=>some [aT .bare ({a with Guests:=g}:Bare),aB true])
theorem zMm (b:Bare)(a c:Int)(d:zlT b a c=true):∃N,zAN N b a c=some [aT .bare<|zdj b a c,aB<|zeZ b a c]:=by
 have e:=zK.1 d;have f:=zgs a e;have j:zbZ b a=true->hasB a (ln b.Guests)=true:=λh=>(zeM.1 h).2;have g:zbZ b a=true->gAt b a=ix b.Guests a zy:=λh=>zva (zeM.1 h).2;have i:=f.2.2.1;refine⟨0,?_⟩;unfold zAN oN nB;conv=>zeta
 refine mu (mu<|brN (λ_=>?_) λ_=>must rfl (brN (λ_=>?_) λ_=>mu (mu (must rfl (mu<|mu<|shr ?_)))));all_goals first|rfl|(simp only [*,zdj,zeZ,chg,zb2,zev,zeK,cT,cF]<;>rfl)|simp_all[Ty.cells,zdj,zeZ,chg,zb2,zev,zeK]
theorem ztV:vP 341 zh9:=kF3 zfR zn zx zo (zq []) zMm
def zAA (N:Nat)(a:Bare)(b c:Int):OA:=
 let e:=aT .bare<|zY a;let d:=zej a b;let f:=({d with Live:=(zgU d.Live c<|zeU d.Written c)}:Guest); (oN (zbl c 4)<|oN (zel a b)<|oN (zdz a)<|cond (nB<|zb6 a) (oN (zbo a)<|some [e,aB false])<|cond (nB<|zek a b) (oN (zbo a)<|some [e,aB false])<|cond (nB<|zch c 4) (oN (zbo a)<|some [e,aB false])<|oN (zgd d.Written c)<|oN (zjh d.Live c<|zeU d.Written c)<|oN (cond (ieq a.Pending a.Pending) true false)<|oN (ieq b b)<|oN (zbL a b f)<|some [aT .bare<|zcN a b f,aB true])
theorem zL8 (b:Bare)(a c:Int)(e:zlT b a c=true):∃N,zAA N b a c=some [aT .bare<|zdj b a c,aB<|zeZ b a c]:=by
 have f:=zK.1 e;have d:=zgs a f;have h:_/\_/\_/\_:=d;have g:=λp=>zuz (x:=gAt b a) p d;unfold zev at g;refine⟨0,?_⟩;unfold zAA oN nB;conv=>zeta
 refine must rfl (mu (must rfl (brN (λ_=>mu ?_) λ_=>brN (λ_=>mu ?_) λ_=>brN (λ_=>mu ?_) λ_=>must rfl (mu<|mu<|mu<|mu ?_))));all_goals first|rfl|(simp only [*,zdj,zeZ,chg,zb2,zev,zbZ,zeQ,cT,cF]<;>rfl)|simp_all[Ty.cells,zdj,zeZ,chg,zb2,zev,zbZ,zeQ]
theorem ztU:vP 148 zh9:=kF3 zfR zn zx zo (zq []) zL8
@[simp] abbrev zho (b:Bare)(g v:Int):Bool:=pc (SmB b)
@[simp] abbrev zcp (b:Bare)(g v:Int):Bare:=chg b g (ztz (gAt b g) v) (zuX (gAt b g) v)
@[simp] abbrev zcx (b:Bare)(g v:Int):Bool:=zb2 b g (ztz (gAt b g) v)
def zhl:Run:=rF3 (dT .bare) dI dI λb c d=>(zho b c d,[aT .bare<|zcp b c d,aB<|zcx b c d])
def zx6 (N:Nat)(i:Bare)(b e:Int):OA:=
 let a:=zY i;let h:=inb b<|ln a.Guests;let d:=(⟨0,0,false,0⟩:GExit);let c:=ix a.Guests b zy;let g:=({c with A:=e}:Guest); (oN (zbo i)<|oN (zcB a b)<|cond (nB<|zmc a b) (some [aT .bare a,aB false])<|oN (zM e 0 99)<|cond (nB<|zl e 0 99) (some [aT .bare a,aB false])<|oN h<|cond (ieq c.Exit.Kind 2) (oN (zcD g d)<|oN (zO<|zcF g d)<|oN h<|share (up a.Guests b<|zce<|zcF g d) λf=>some [aT .bare ({a with Guests:=f}:Bare),aB true])<|cond (ieq c.Exit.Kind 3) (oN (zcD c d)<|oN (zO<|zcF c d)<|oN h<|share (up a.Guests b<|zce<|zcF c d) λf=>some [aT .bare ({a with Guests:=f}:Bare),aB true])<|some [aT .bare a,aB false])
theorem zIV (b:Bare)(a c:Int)(d:zho b a c=true):∃N,zx6 N b a c=some [aT .bare<|zcp b a c,aB<|zcx b a c]:=by
 have e:=zK.1 d;have f:=zgs a e;have j:zbZ b a=true->hasB a (ln b.Guests)=true:=λh=>(zeM.1 h).2;have g:zbZ b a=true->gAt b a=ix b.Guests a zy:=λh=>zva (zeM.1 h).2;have i:_/\_/\_/\_:=f;refine⟨0,?_⟩;unfold zx6 oN nB;conv=>zeta
 refine mu (mu<|brN (λ_=>?_) λ_=>must rfl (brN (λ_=>?_) λ_=>mu (br (λ_=>mu (mu<|mu<|shr ?_)) λ_=>br (λ_=>mu (mu<|mu<|shr ?_)) λ_=>?_)));all_goals first|rfl|(simp only [*,zcp,zcx,chg,zb2,ztz,zuX,zi5,zeK,SmG,stopped,cT,cF]<;>rfl)|simp_all[Ty.cells,zcp,zcx,chg,zb2,ztz,zuX,zi5,zeK,SmG,stopped]
theorem zs3:vP 344 zhl:=kF3 zfR zn zx zo (zq []) zIV
def zxX (N:Nat)(a:Bare)(b g:Int):OA:=
 let c:=zej a b;let l:=ieq (zmH a b).Kind 2;let e:=zbo a;let j:=ieq a.Pending a.Pending;let d:=aT .bare<|zY a;let k:=({c with A:=g}:Guest);let f:=(⟨0,0,false,0⟩:GExit);let i:=zcF k f;let m:=aT .bare<|zcN a b<|zce i;let h:=zcF c f;let n:=aT .bare<|zcN a b<|zce h; (oN (zcB a b)<|cond l (oN (zM g 0 99)<|oN (zel a b)<|oN (zdz a)<|cond (nB<|zb6 a) (oN e<|some [d,aB false])<|cond (nB<|zek a b) (oN e<|some [d,aB false])<|cond (nB<|zl g 0 99) (oN e<|some [d,aB false])<|cond l (oN (zcD k f)<|oN (zO i)<|oN (cond j true false)<|oN (ieq b b)<|oN (zbL a b<|zce i)<|some [m,aB true])<|oN (zcD c f)<|oN (zO h)<|oN (cond j true false)<|oN (ieq b b)<|oN (zbL a b<|zce h)<|some [n,aB true])<|cond (ieq (zmH a b).Kind 3) (oN (zM g 0 99)<|oN (zel a b)<|oN (zdz a)<|cond (nB<|zb6 a) (oN e<|some [d,aB false])<|cond (nB<|zek a b) (oN e<|some [d,aB false])<|cond (nB<|zl g 0 99) (oN e<|some [d,aB false])<|cond l (oN (zcD k f)<|oN (zO i)<|oN (cond j true false)<|oN (ieq b b)<|oN (zbL a b<|zce i)<|some [m,aB true])<|oN (zcD c f)<|oN (zO h)<|oN (cond j true false)<|oN (ieq b b)<|oN (zbL a b<|zce h)<|some [n,aB true])<|oN (zel a b)<|oN (zdz a)<|cond (nB<|zb6 a) (oN e<|some [d,aB false])<|cond (nB<|zek a b) (oN e<|some [d,aB false])<|oN e<|some [d,aB false])
theorem zIL (b:Bare)(a c:Int)(f:zho b a c=true):∃N,zxX N b a c=some [aT .bare<|zcp b a c,aB<|zcx b a c]:=by
 have g:=zK.1 f;have d:=zgs a g;have j:_/\_/\_/\_:=d;have h:SmG ({gAt b a with A:=c}:Guest):=d;have i:∀e,SmG (zcg<|stopped (gAt b a) e):=λe=>zk9 (zYY e d);refine⟨0,?_⟩;unfold zxX oN nB;conv=>zeta
 refine mu (br (λ_=>must rfl (mu (must rfl (brN (λ_=>mu ?_) λ_=>brN (λ_=>mu ?_) λ_=>brN (λ_=>mu ?_) λ_=>br (λ_=>mu (mu<|mu<|mu<|mu ?_)) λ_=>mu (mu<|mu<|mu<|mu ?_))))) λ_=>br (λ_=>must rfl (mu (must rfl (brN (λ_=>mu ?_) λ_=>brN (λ_=>mu ?_) λ_=>brN (λ_=>mu ?_) λ_=>br (λ_=>mu (mu<|mu<|mu<|mu ?_)) λ_=>mu (mu<|mu<|mu<|mu ?_))))) λ_=>mu (must rfl (brN (λ_=>mu ?_) λ_=>brN (λ_=>mu ?_) λ_=>mu ?_)));all_goals first|rfl|(simp only [*,zcp,zcx,chg,zb2,ztz,zuX,zi5,zbZ,zeQ,cT,cF]<;>rfl)|simp_all[Ty.cells,zcp,zcx,chg,zb2,ztz,zuX,zi5,zbZ,zeQ]
theorem zsX:vP 153 zhl:=kF3 zfR zn zx zo (zq []) zIL
@[simp] abbrev zcr (b:Bare)(g:Int):Bare:=chg b g (zxD<|gAt b g) (zvD<|gAt b g)
@[simp] abbrev zcz (b:Bare)(g:Int):Bool:=zb2 b g (zxD<|gAt b g)
def zhn:Run:=rF2 (dT .bare) dI λb c=>(zcB b c,[aT .bare<|zcr b c,aB<|zcz b c])
def zx8 (N:Nat)(g:Bare)(c:Int):OA:=
 let a:=zY g;let f:=inb c<|ln a.Guests;let d:=(⟨0,0,false,0⟩:GExit);let b:=ix a.Guests c zy; (oN (zbo g)<|oN (zcB a c)<|cond (nB<|zmc a c) (some [aT .bare a,aB false])<|oN f<|cond (ieq b.Exit.Kind 1) (oN (zcD b d)<|oN f<|share (up a.Guests c<|zcF b d) λe=>some [aT .bare ({a with Guests:=e}:Bare),aB true])<|cond (ieq b.Exit.Kind 4) (oN (zcD b d)<|oN (zO<|zcF b d)<|oN f<|share (up a.Guests c<|zja<|zcF b d) λe=>some [aT .bare ({a with Guests:=e}:Bare),aB true])<|some [aT .bare a,aB false])
theorem zIX (b:Bare)(a:Int)(c:zcB b a=true):∃N,zx8 N b a=some [aT .bare<|zcr b a,aB<|zcz b a]:=by
 have d:=zK.1 c;have e:=zgs a d;have i:zbZ b a=true->hasB a (ln b.Guests)=true:=λh=>(zeM.1 h).2;have f:zbZ b a=true->gAt b a=ix b.Guests a zy:=λh=>zva (zeM.1 h).2;have g:_/\_/\_/\_:=e;refine⟨0,?_⟩;unfold zx8 oN nB;conv=>zeta
 refine mu (mu<|brN (λ_=>?_) λ_=>mu (br (λ_=>mu (mu<|shr ?_)) λ_=>br (λ_=>mu (mu<|mu<|shr ?_)) λ_=>?_));all_goals first|rfl|(simp only [*,zcr,zcz,chg,zb2,zxD,zvD,zi5,zeK,SmG,stopped,cT,cF]<;>rfl)|simp_all[Ty.cells,zcr,zcz,chg,zb2,zxD,zvD,zi5,zeK,SmG,stopped]
theorem zs5:vP 345 zhn:=kF2 zfR zn zx zo (zq []) zIX
def zxZ (N:Nat)(a:Bare)(b:Int):OA:=
 let f:=ieq (zmH a b).Kind 4;let e:=ieq a.Pending a.Pending;let d:=aT .bare<|zY a;let c:=({ (zej a b) with Exit:=(⟨0,0,false,0⟩:GExit)}:Guest);let g:=aT .bare<|zcN a b<|zja c; (oN (zcB a b)<|cond (ieq (zmH a b).Kind 1) (oN (zel a b)<|oN (zdz a)<|cond (nB<|zb6 a) (oN (zbo a)<|some [d,aB false])<|cond (nB<|zek a b) (oN (zbo a)<|some [d,aB false])<|cond f (oN (zO c)<|oN (cond e true false)<|oN (ieq b b)<|oN (zbL a b<|zja c)<|some [g,aB true])<|oN (cond e true false)<|oN (ieq b b)<|oN (zbL a b c)<|some [aT .bare<|zcN a b c,aB true])<|oN (zel a b)<|oN (zdz a)<|cond (nB<|zb6 a) (oN (zbo a)<|some [d,aB false])<|cond (nB<|zek a b) (oN (zbo a)<|some [d,aB false])<|cond (nB f) (oN (zbo a)<|some [d,aB false])<|cond f (oN (zO c)<|oN (cond e true false)<|oN (ieq b b)<|oN (zbL a b<|zja c)<|some [g,aB true])<|oN (cond e true false)<|oN (ieq b b)<|oN (zbL a b c)<|some [aT .bare<|zcN a b c,aB true])
theorem zIN (b:Bare)(a:Int)(d:zcB b a=true):∃N,zxZ N b a=some [aT .bare<|zcr b a,aB<|zcz b a]:=by
 have e:=zK.1 d;have f:=zgs a e;have g:_/\_/\_/\_:=f;have c:ieq (gAt b a).Exit.Kind 1=true->ieq (gAt b a).Exit.Kind 4=false:=λh=>zO5 h (by decide);refine⟨0,?_⟩;unfold zxZ oN nB;conv=>zeta
 refine mu (br (λ_=>mu (must rfl (brN (λ_=>mu ?_) λ_=>brN (λ_=>mu ?_) λ_=>br (λ_=>mu (mu<|mu<|mu ?_)) λ_=>mu (mu<|mu ?_)))) λ_=>mu (must rfl (brN (λ_=>mu ?_) λ_=>brN (λ_=>mu ?_) λ_=>brN (λ_=>mu ?_) λ_=>br (λ_=>mu (mu<|mu<|mu ?_)) λ_=>mu (mu<|mu ?_))));all_goals first|rfl|(simp only [*,zcr,zcz,chg,zb2,zxD,zvD,zi5,zbZ,zeQ,SmG,stopped,cT,cF]<;>rfl)|simp_all[Ty.cells,zcr,zcz,chg,zb2,zxD,zvD,zi5,zbZ,zeQ,SmG,stopped]
theorem zsZ:vP 155 zhn:=kF2 zfR zn zx zo (zq []) zIN
theorem zbbm {b:Bare}{g:Int}{c:Bool}{x:Guest}(h:zbZ b g=false):chg b g c x=b:=by unfold chg;rw[h];rfl
theorem z9R {b:Bare}{g n:Int}(h:zbZ b g=true):chg b g (zhV (gAt b g).Pending n) (zmK (gAt b g) n)=zeK b g (zmK (gAt b g) n):=by unfold chg;rw[h];cases a:zhV (gAt b g).Pending n;{rw [zbaw a,z4G (zeM.1 h).2];rfl};{rfl}
@[simp] abbrev zhp (b:Bare)(g n:Int):Bool:=pc (SmB b)
@[simp] abbrev zcq (b:Bare)(g n:Int):Bare:=chg b g (zhV (gAt b g).Pending n) (zmK (gAt b g) n)
@[simp] abbrev zcy (b:Bare)(g n:Int):Bool:=zb2 b g (zhV (gAt b g).Pending n)
def zhm:Run:=rF3 (dT .bare) dI dI λb c d=>(zhp b c d,[aT .bare<|zcq b c d,aB<|zcy b c d])
def zx7 (N:Nat)(e:Bare)(b d:Int):OA:=
 let a:=zY e;let c:=ix a.Guests b zy; (oN (zbo e)<|oN (zcB a b)<|cond (nB<|zmc a b) (some [aT .bare a,aB false])<|oN (inb b<|ln a.Guests)<|oN (zf3 c.Pending d)<|oN (inb b<|ln a.Guests)<|share (up a.Guests b ({c with Pending:=(zep c.Pending d)}:Guest)) λf=>some [aT .bare ({a with Guests:=f}:Bare),aB<|zhD c.Pending d])
theorem zIW (a:Bare)(b c:Int)(d:zhp a b c=true):∃N,zx7 N a b c=some [aT .bare<|zcq a b c,aB<|zcy a b c]:=by
 have i:=zK.1 d;have j:zbZ a b=true->hasB b (ln a.Guests)=true:=λh=>(zeM.1 h).2;have f:zbZ a b=true->gAt a b=ix a.Guests b zy:=λh=>zva (zeM.1 h).2;have g:=@z9R a b c;have e:=@zbbm a b (zhV (gAt a b).Pending c) (zmK (gAt a b) c);refine⟨0,?_⟩;unfold zx7 oN nB;conv=>zeta
 refine mu (mu<|brN (λ_=>?_) λ_=>mu (must rfl (mu<|shr ?_)));all_goals first|rfl|(simp only [*,zcq,zcy,zb2,zeK,zmK,cT,cF]<;>rfl)|simp_all[Ty.cells,zcq,zcy,zb2,zeK,zmK]
theorem zs4:vP 346 zhm:=kF3 zfR zn zx zo (zq []) zIW
def zxY (N:Nat)(a:Bare)(b c:Int):OA:=
 let e:=(zej a b).Pending;let d:=aT .bare<|zY a;let f:=({ (zej a b) with Pending:=(zep e c)}:Guest); (oN (zel a b)<|oN (zf3 e c)<|oN (zel a b)<|oN (zdz a)<|cond (nB<|zb6 a) (oN (zbo a)<|some [d,aB false])<|cond (nB<|zek a b) (oN (zbo a)<|some [d,aB false])<|cond (nB<|zhD e c) (oN (zbo a)<|some [d,aB false])<|oN (cond (ieq a.Pending a.Pending) true false)<|oN (ieq b b)<|oN (zbL a b f)<|some [aT .bare<|zcN a b f,aB true])
theorem zIM (b:Bare)(a c:Int)(d:zhp b a c=true):∃N,zxY N b a c=some [aT .bare<|zcq b a c,aB<|zcy b a c]:=by
 have e:=zK.1 d;have f:=zgs a e;have g:_/\_/\_/\_:=f;refine⟨0,?_⟩;unfold zxY oN nB;conv=>zeta
 refine mu (must rfl (mu (must rfl (brN (λ_=>mu ?_) λ_=>brN (λ_=>mu ?_) λ_=>brN (λ_=>mu ?_) λ_=>mu (mu<|mu ?_)))));all_goals first|rfl|(simp only [*,zcq,zcy,chg,zb2,zmK,zbZ,zeQ,cT,cF]<;>rfl)|simp_all[Ty.cells,zcq,zcy,chg,zb2,zmK,zbZ,zeQ]
theorem zsY:vP 157 zhm:=kF3 zfR zn zx zo (zq []) zIM
@[simp] abbrev zj8 (b:Bare)(g:Int)(c:Ctl):Bool:=pc (SmB b)
@[simp] abbrev zdf (b:Bare)(g:Int)(c:Ctl):Bare:=chg b g (znn c) (zCO (gAt b g) c)
@[simp] abbrev zdn (b:Bare)(g:Int)(c:Ctl):Bool:=zb2 b g (znn c)
def zjC:Run:=rF3 (dT .bare) dI dC λb c d=>(zj8 b c d,[aT .bare<|zdf b c d,aB<|zdn b c d])
def zGa (N:Nat)(d:Bare)(b:Int)(c:Ctl):OA:=
 let a:=zY d; (oN (zbo d)<|oN (zcB a b)<|cond (nB<|zmc a b) (some [aT .bare a,aB false])<|oN (zfs c)<|cond (nB<|znU c) (some [aT .bare a,aB false])<|oN (inb b<|ln a.Guests)<|share (up a.Guests b ({ (ix a.Guests b zy) with Ctl:=c}:Guest)) λe=>some [aT .bare ({a with Guests:=e}:Bare),aB true])
theorem zSO (a:Bare)(b:Int)(c:Ctl)(d:zj8 a b c=true):∃N,zGa N a b c=some [aT .bare<|zdf a b c,aB<|zdn a b c]:=by
 have f:=zK.1 d;have g:zbZ a b=true->hasB b (ln a.Guests)=true:=λh=>(zeM.1 h).2;have e:zbZ a b=true->gAt a b=ix a.Guests b zy:=λh=>zva (zeM.1 h).2;refine⟨0,?_⟩;unfold zGa oN nB;conv=>zeta
 refine mu (mu<|brN (λ_=>?_) λ_=>must rfl (brN (λ_=>?_) λ_=>mu (shr ?_)));all_goals first|rfl|(simp only [*,zdf,zdn,chg,zb2,zCO,zeK,cT,cF]<;>rfl)|simp_all[Ty.cells,zdf,zdn,chg,zb2,zCO,zeK]
theorem zwx:vP 347 zjC:=kF3 zfR zn zx zo (zq []) zSO
def zFP (N:Nat)(a:Bare)(b:Int)(c:Ctl):OA:=
 let d:=aT .bare<|zY a;let e:=({ (zej a b) with Ctl:=c}:Guest); (oN (zfs c)<|oN (zel a b)<|oN (zdz a)<|cond (nB<|zb6 a) (oN (zbo a)<|some [d,aB false])<|cond (nB<|zek a b) (oN (zbo a)<|some [d,aB false])<|cond (nB<|znU c) (oN (zbo a)<|some [d,aB false])<|oN (cond (ieq a.Pending a.Pending) true false)<|oN (ieq b b)<|oN (zbL a b e)<|some [aT .bare<|zcN a b e,aB true])
theorem zSu (b:Bare)(a:Int)(c:Ctl)(d:zj8 b a c=true):∃N,zFP N b a c=some [aT .bare<|zdf b a c,aB<|zdn b a c]:=by
 have e:=zK.1 d;have f:=zgs a e;have g:_/\_/\_/\_:=f;refine⟨0,?_⟩;unfold zFP oN nB;conv=>zeta
 refine must rfl (mu (must rfl (brN (λ_=>mu ?_) λ_=>brN (λ_=>mu ?_) λ_=>brN (λ_=>mu ?_) λ_=>mu (mu<|mu ?_))));all_goals first|rfl|(simp only [*,zdf,zdn,chg,zb2,zCO,zbZ,zeQ,cT,cF]<;>rfl)|simp_all[Ty.cells,zdf,zdn,chg,zb2,zCO,zbZ,zeQ]
theorem zwu:vP 159 zjC:=kF3 zfR zn zx zo (zq []) zSu
def zML (p c v:Int):Bool:=bif hasB p 8 then (cond (hasB c 4) (zl v 0 99) false) else false
def zkG (b:Bare)(p c v:Int):Bool:=bif zbY b then zML p c v else false
def zoK (b:Bare)(p c v:Int):Bare:=bif zkG b p c v then {b with Memory:=zbW b.Memory p c v} else b
def zlb (b:Bare):Bare:=bif zbY b then {b with Pending:=zhk b.Pending} else b
def zro (b:Bare):Int:=bif zbY b then zmL b.Pending else -1
def zko (b:Bare):Bool:=bif zbY b then !ilt (zey b.Pending) 0 else false
def zpR (b:Bare)(g a n:Int):Bool:=bif zbZ b g then (cond (zl a 0 15) (zfq (gAt b g).Live (zbn a) n) false) else false
def zEq (b:Bare)(g a n:Int):Int:=zcH (gAt b g).Live (zbn a) n
def zzH (b:Bare)(g a v:Int):Bool:=bif zpR b g a 2 then zl v 0 99 else false
def z0E (b:Bare)(g a v:Int):Bare:=bif zzH b g a v then {b with Memory:=zbW b.Memory (zEq b g a 2) (zd7 a) v} else b
def zTQ (b:Bare)(g a:Int):Int:=bif zpR b g a 1 then cellAt b.Memory (zEq b g a 1) (zd7 a) else 0
@[simp] abbrev zdm (b:Bare):Bare:=zlb b
@[simp] abbrev zeo (b:Bare):Int:=zro b
@[simp] abbrev zdB (b:Bare):Bool:=zko b
def zjB:Run:=rF1 (dT .bare) λb=>(zbo b,[aT .bare<|zdm b,aI<|zeo b,aB<|zdB b])
def zF9 (N:Nat)(b:Bare):OA:=
 let a:=zY b; (oN (zbo b)<|oN (zdz a)<|cond (nB<|zb6 a) (some [aT .bare a,aI<|-1,aB false])<|oN (zcl a.Pending)<|some [aT .bare ({a with Pending:=(zf4 a.Pending)}:Bare),aI<|zf5 a.Pending,aB<|zhG a.Pending])
theorem zSN (a:Bare)(b:zbo a=true):∃N,zF9 N a=some [aT .bare<|zdm a,aI<|zeo a,aB<|zdB a]:=by
 have c:=zK.1 b;refine⟨0,?_⟩;unfold zF9 oN nB;conv=>zeta
 refine mu (must rfl (brN (λ_=>?_) λ_=>must rfl ?_));all_goals first|rfl|(simp only [*,zdm,zeo,zdB,zlb,zro,zko,zhk,zmL,cT,cF]<;>rfl)|simp_all[Ty.cells,zdm,zeo,zdB,zlb,zro,zko,zhk,zmL]
theorem zww:vP 352 zjB:=kF1 zfR zn zx zo (zq []) zSN
@[simp] abbrev zvk (b:Bare)(p c v:Int):Bool:=pc (SmB b)
@[simp] abbrev zhQ (b:Bare)(p c v:Int):Bare:=zoK b p c v
@[simp] abbrev zkz (b:Bare)(p c v:Int):Bool:=zkG b p c v
def zrL:Run:=rF4 (dT .bare) dI dI dI λb c d e=>(zvk b c d e,[aT .bare<|zhQ b c d e,aB<|zkz b c d e])
def zBV (N:Nat)(a:Bare)(b c d:Int):OA:=
 let e:=aT .bare<|zY a; (oN (zbo a)<|oN (zdz a)<|cond (nB<|zb6 a) (some [e,aB false])<|oN (zbl b 8)<|cond (nB<|zch b 8) (some [e,aB false])<|oN (zbl c 4)<|cond (nB<|zch c 4) (some [e,aB false])<|oN (zM d 0 99)<|cond (nB<|zl d 0 99) (some [e,aB false])<|oN (zeh a.Memory b c d)<|some [aT .bare ({ (zY a) with Memory:=(zeE a.Memory b c d)}:Bare),aB true])
theorem zPb (a:Bare)(b c d:Int)(e:zvk a b c d=true):∃N,zBV N a b c d=some [aT .bare<|zhQ a b c d,aB<|zkz a b c d]:=by
 have f:=zK.1 e;have g:_/\_/\_:=f;refine⟨0,?_⟩;unfold zBV oN nB;conv=>zeta
 refine mu (must rfl (brN (λ_=>?_) λ_=>must rfl (brN (λ_=>?_) λ_=>must rfl (brN (λ_=>?_) λ_=>must rfl (brN (λ_=>?_) λ_=>mu ?_)))));all_goals first|rfl|(simp only [*,zhQ,zkz,zoK,zkG,zML,cT,cF]<;>rfl)|simp_all[Ty.cells,zhQ,zkz,zoK,zkG,zML]
theorem zvc:vP 161 zrL:=kF4 zfR zn zx zo (zq []) zPb
def zFO (N:Nat)(a:Bare):OA:=
 (oN (zbo a)<|oN (zcl a.Pending)<|oN (zdz a)<|cond (nB<|zb6 a) (some [aT .bare<|zY a,aI<|-1,aB false])<|cond (nB<|zhG a.Pending) (some [aT .bare<|zY a,aI<|-1,aB false])<|some [aT .bare ({ (zY a) with Pending:=(zf4 a.Pending)}:Bare),aI<|zf5 a.Pending,aB true])
theorem zSt (a:Bare)(b:zbo a=true):∃N,zFO N a=some [aT .bare<|zdm a,aI<|zeo a,aB<|zdB a]:=by have c:=zK.1 b;refine⟨0,?_⟩;unfold zFO oN nB;refine mu (must rfl (must rfl (brN (λ_=>?_) λ_=>brN (λ_=>?_) λ_=>?_)));all_goals first|rfl|(simp only [*,zdm,zeo,zdB,zlb,zro,zko,zhk,zmL,cT,cF]<;>rfl)|simp_all[Ty.cells,zdm,zeo,zdB,zlb,zro,zko,zhk,zmL]
theorem zwt:vP 166 zjB:=kF1 zfR zn zx zo (zq []) zSt
def z8L:zba:=z8K
theorem zHH:zT z8L:=zfR
def ze8 (l:List Guest)(n:Int):List Int:=idxs (λ(x:Guest)=>posts x.Ctl n) l 0
theorem zU1 {d:Type}(p:d->Bool):∀(l:List d) (i:Nat),∀k∈idxs p l i,(i:Int)<=k/\k<(i:Int)+l.length
 |[],_,k,a=>by cases a
 |x::l,i,k,a=>by have c:=zU1 p l (i+1);simp only[jB];unfold idxs at a;cases b:p x;{rw [b]at a;have:=c k a;omega};{rw [b]at a;rcases qG.1 a with rfl|a;{omega};{have:=c k a;omega}}
@[simp] abbrev zfH (b:Bare)(n:Int):List Int:=ze8 b.Guests n
def znN:Run:=rF2 (dT .bare) dI λb c=>(zeC b c,[aS .int<|zfH b c])
def zCt (N:Nat)(c:Bare)(f:Int):OA:=
 (iter (σ:=(Int×Int×Int×(List Int)×lM×lG×(List Int)×Unit)) N (λd a=>let b:=a.2.2.2.2.2.1;let e:=(ix b a.2.1 zy).Ctl; (cond (ilt a.2.1<|ln b) (oN (inb a.2.1<|ln b)<|oN (ztg e a.1)<|cond (znW e a.1) (oN (few<|ln<|ap a.2.2.2.1 [a.2.1])<|d (a.1,zQ .i64 a.2.1 1,a.2.2.1,ap a.2.2.2.1 [a.2.1],a.2.2.2.2.1,b,a.2.2.2.2.2.2.1,()))<|d (a.1,zQ .i64 a.2.1 1,a.2.2.1,a.2.2.2.1,a.2.2.2.2.1,b,a.2.2.2.2.2.2.1,()))<|some [aS .int a.2.2.2.1])) (f,0,c.Pending,[],c.Memory,c.Guests,c.Outs,()))
def zQn:=zq [(384,0,{n:=28,tm:=[(1,ti),(2,.lp 0 0),(5,.sl 0 []),(6,ti)],lo:=[(0,[.sl 1 [],.sl 2 [],.sl 3 [],ti])],ro:=[(0,.int,true),(1,.sl .int,false),(2,.guest,false),(3,.int,false)]})]
theorem zPG (a:Bare)(b:Int)(g:zeC a b=true):∃N,zCt N a b=some [aS .int<|zfH a b]:=by
 have h:=zK.1 g;have e:=zda h.2.1.1;refine zcE λN d=>?_;unfold zCt oN;conv=>zeta
 refine(zbq a.Guests (λi (t:(List Int))=>(b,(i:Int),a.Pending,t,a.Memory,a.Guests,a.Outs,())) _ (λi (x:Guest) (t:List Int) f=>bif posts x.Ctl b then (cond (few<|ln<|ap t [(i:Int)]) (f<|ap t [(i:Int)]) none) else f t) (λ(t:(List Int))=>some [.one<|.s .int t]) (λi c t rec=>?_) (λt rec=>?_) _ ([])<|d e.1).trans ?_;{simp only [zbI c,zbm c,zbu c,zbj c e.1,cT]};{simp only [zbz,cF]};exact zrA (λ(x:Guest)=>posts x.Ctl b) _ a.Guests 0 [] (by simpa using e.2)
theorem zIt:vP 384 znN:=kF2 zHH zn zx zo zQn zPG
def zB4 (N:Nat)(d:Bare)(g:Int):OA:=
 (iter (σ:=(Int×Int×Int×(List Int)×lG×Unit)) N (λe a=>let c:=a.2.2.2.2.1;let b:=a.2.2.1;let f:=(ix c b zy).Ctl; (cond (ilt b a.2.1) (oN (inb b<|ln c)<|oN (ztg f a.1)<|cond (znW f a.1) (oN (few<|ln<|ap a.2.2.2.1 [b])<|e (a.1,a.2.1,zQ .i64 b 1,ap a.2.2.2.1 [b],c,()))<|e (a.1,a.2.1,zQ .i64 b 1,a.2.2.2.1,c,()))<|some [aS .int a.2.2.2.1])) (g,ln d.Guests,0,[],d.Guests,()))
def zQf:=zq [(246,0,{n:=27,tm:=[(1,ti),(5,.sl 0 []),(10,.sl 1 []),(11,ti),(12,ti)],lo:=[],ro:=[(0,.int,true),(1,.guest,false)]})]
theorem zPk (a:Bare)(b:Int)(g:zeC a b=true):∃N,zB4 N a b=some [aS .int<|zfH a b]:=by
 have h:=zK.1 g;have e:=zda h.2.1.1;refine zcE λN d=>?_;unfold zB4 oN;conv=>zeta
 refine(zbq a.Guests (λi (t:(List Int))=>(b,ln a.Guests,(i:Int),t,a.Guests,())) _ (λi (x:Guest) (t:List Int) f=>bif posts x.Ctl b then (cond (few<|ln<|ap t [(i:Int)]) (f<|ap t [(i:Int)]) none) else f t) (λ(t:(List Int))=>some [.one<|.s .int t]) (λi c t rec=>?_) (λt rec=>?_) _ ([])<|d e.1).trans ?_;{simp only [zbI c,zbm c,zbu c,zbj c e.1,cT]};{simp only [zbz,cF]};exact zrA (λ(x:Guest)=>posts x.Ctl b) _ a.Guests 0 [] (by simpa using e.2)
theorem zH4:vP 246 znN:=kF2 zHH zn zx zo zQf zPk
def z8M:zba:=[(384,znN),(246,znN)]++z8L
theorem zHI:zT z8M:=zi zIt (zi zH4 zHH)
def zEH (n:Int)(l:List Guest)(k:Int):List Guest:=up l k (zmK (ix l k zy) n)
def znD (n:Int)(a:List Int)(l:List Guest):List Guest:=a.foldl (zEH n) l
theorem zDJ (n:Int)(l:List Guest)(k:Int):(zEH n l k).length=l.length:=zgv _ _ _
theorem z19 {n:Int}{l:List Guest}{k:Int}(a:hasB k (ln l)=true)(h:zmt l):zmt (zEH n l k):=zEM h (zWR h a _)
theorem zD7 {n:Int}:∀(a:List Int) {l:List Guest},(∀k∈a,hasB k (ln l)=true)->zmt l->zmt (znD n a l)/\(znD n a l).length=l.length
 |[],_,_,h=>⟨h,rfl⟩
 |k::a,l,b,h=>by have e:=z19 (n:=n) (b k (by simp)) h;obtain⟨c,d⟩:=zD7 (n:=n) a (l:=zEH n l k) (λj f=>by rw[ln,zDJ];exact b j (by simp[f])) e;exact⟨c,d.trans<|zDJ _ _ _⟩
theorem zHS {e:Type}(n:Int)(K:List Guest->Option e):∀(a:List Int) (i:Nat) (l:List Guest),(∀k∈a,hasB k (ln l)=true)->
 goL (λ_ k (t:List Guest) d=>bif inb k (ln t) then (cond (inb k<|ln t) (d<|up t k<|zmK (ix t k zy) n) none) else none) K a i l=K (znD n a l)
 |[],_,_,_=>rfl
 |k::a,i,l,h=>by have c:inb k (ln l)=true:=h k (by simp);simp only[goL,c,cT];exact zHS n K a (i+1) (zEH n l k) (λj b=>by rw[ln,zDJ];exact h j (by simp[b]))
def zEI (b:Bare)(n:Int):Bare:=bif ieq (ln<|ze8 b.Guests n) 0 then {b with Pending:=zp9 b.Pending n} else {b with Guests:=znD n (ze8 b.Guests n) b.Guests}
def zfZ (b:Bare)(n:Int):Bool:=bif zbY b then hasB n 8 else false
def zjR (b:Bare)(n:Int):Bare:=bif zfZ b n then zEI b n else b
theorem zAc {b:Bare}{n:Int}:∀k∈ze8 b.Guests n,hasB k (ln b.Guests)=true:=λk a=>by have:=zU1 _ _ _ k a;exact qJ (by simp only[ln];omega)
theorem z1u {b:Bare}{n:Int}(h:ieq (ln<|ze8 b.Guests n) 0=true):znD n (ze8 b.Guests n) b.Guests=b.Guests:=by have a:((ze8 b.Guests n).length:Int)=0:=qD h;have:ze8 b.Guests n=[]:=uU.1 (by omega);rw[this];rfl
theorem zMM {b:Bare}{n:Int}:(cond (ieq (ln<|ze8 b.Guests n) 0) (some [AV.agg<|Ty.cells .bare ⟨b.Memory,znD n (ze8 b.Guests n) b.Guests,b.Outs,zp9 b.Pending n⟩,AV.one<|.b true])<|some [AV.agg<|Ty.cells .bare ⟨b.Memory,znD n (ze8 b.Guests n) b.Guests,b.Outs,b.Pending⟩,AV.one<|.b true])=some [AV.agg<|Ty.cells .bare<|zEI b n,AV.one<|.b true]:=by unfold zEI;cases h:ieq (ln<|ze8 b.Guests n) 0;{rfl};{simp only [cT,z1u h]}
@[simp] abbrev zdq (b:Bare)(n:Int):Bare:=zjR b n
@[simp] abbrev zdI (b:Bare)(n:Int):Bool:=zfZ b n
def ziY:Run:=rF2 (dT .bare) dI λb c=>(zeC b c,[aT .bare<|zdq b c,aB<|zdI b c])
def zCl (N:Nat)(i:Bare)(e:Int):OA:=
 let b:=zY i; (oN (zbo i)<|oN (zdz b)<|cond (nB<|zb6 b) (some [aT .bare b,aB false])<|oN (zM e 0 7)<|cond (nB<|zl e 0 7) (some [aT .bare b,aB false])<|oN (zeC b e)<|iter (σ:=(Int×Int×Int×Int×(List Int)×lM×lG×(List Int)×lM×lG×(List Int)×Unit)) N (λj a=>let h:=a.2.2.2.2.2.2.2.1;let d:=a.2.2.2.2.1;let c:=a.2.2.2.2.2.2.1;let f:=ix d a.2.1 0;let g:=ix c f zy; (cond (ilt a.2.1<|ln d) (oN (inb a.2.1<|ln d)<|oN (inb a.2.1<|ln d)<|oN (inb f<|ln c)<|oN (zf3 g.Pending a.1)<|oN (inb f<|ln c)<|j (a.1,zQ .i64 a.2.1 1,a.2.2.1,a.2.2.2.1,d,a.2.2.2.2.2.1,up c f ({g with Pending:=(zep g.Pending a.1)}:Guest),h,a.2.2.2.2.2.2.2.2.1,a.2.2.2.2.2.2.2.2.2.1,a.2.2.2.2.2.2.2.2.2.2.1,()))<|cond (ieq (ln d) 0) (oN (zf3 a.2.2.1 a.1)<|some [aT .bare (⟨a.2.2.2.2.2.1,c,h,zep a.2.2.1 a.1⟩:Bare),aB true])<|some [aT .bare (⟨a.2.2.2.2.2.1,c,h,a.2.2.1⟩:Bare),aB true])) (e,0,b.Pending,0,zfH b e,b.Memory,b.Guests,b.Outs,[],[],[],()))
def zQj:=zq [(351,0,{n:=62,tm:=[(1,ti),(2,.lp 0 0),(4,.lp 1 0),(6,.sl 0 []),(7,ti)],lo:=[(0,[.sl 1 [],.sl 2 [],.sl 3 [],ti]),(1,[.sl 4 [],.sl 5 [],.sl 6 [],ti])],ro:=[(0,.int,true),(1,.sl .int,true),(2,.guest,true),(3,.int,true),(4,.sl .int,true),(5,.guest,true),(6,.int,true)]})]
theorem zPy (a:Bare)(c:Int)(l:zeC a c=true):∃N,zCl N a c=some [aT .bare<|zdq a c,aB<|zdI a c]:=by
 have h:=zK.1 l;have j:(ze8 a.Guests c).length<=big:=qU (zvm _ _ _) (zda h.2.1.1).1;refine zcE λN g=>?_;unfold zCl zdq zdI zjR zfZ oN nB;conv=>zeta
 refine must (zbi h) (must rfl (brN (λe=>?_) λe=>must rfl (brN (λd=>?_) λd=>must (zbi h) ?_)));{simp only [show zbY a=false from e,cF]};{simp only [show zbY a=true from e,show hasB c 8=false from by first|exact d|exact(zND c).symm.trans d,cT,cF]};simp only[show zbY a=true from e,show hasB c 8=true from by first|exact d|exact(zND c).symm.trans d,cT];refine(zbq (zfH (zY a) c) (λi (t:lG)=>(c,(i:Int),(zY a).Pending,0,zfH (zY a) c,(zY a).Memory,t,(zY a).Outs,[],[],[],())) _ (λ_ k (t:List Guest) m=>bif inb k (ln t) then (cond (inb k<|ln t) (m<|up t k<|zmK (ix t k zy) c) none) else none) (λ(t:lG)=>cond (ieq (ln<|zfH (zY a) c) 0) (cond (zf3 (zY a).Pending c) (some [.agg<|Ty.cells .bare (⟨(zY a).Memory,t,(zY a).Outs,zep (zY a).Pending c⟩:Bare),.one<|.b true]) none)<|some [.agg<|Ty.cells .bare (⟨(zY a).Memory,t,(zY a).Outs,(zY a).Pending⟩:Bare),.one<|.b true]) (λi f t rec=>?_) (λt rec=>?_) _ ((zY a).Guests)<|g j).trans ?_;{simp only [zbI f,zbm f,zbu f,zbj f j,cT];rfl};{simp only [zbz,cF];rfl};exact(zHS c _ _ 0 _ zAc).trans zMM
theorem zvf:vP 351 ziY:=kF2 zHI zn zx zo zQj zPy
def zBW (N:Nat)(b:Bare)(c:Int):OA:=
 let e:=zY b; (oN (zbo b)<|oN (zdz b)<|cond (nB<|zb6 b) (some [aT .bare e,aB false])<|oN (zM c 0 7)<|cond (nB<|zl c 0 7) (some [aT .bare e,aB false])<|oN (zeC b c)<|iter (σ:=(Int×Int×Int×Int×Int×(List Int)×lM×lG×(List Int)×lM×lG×(List Int)×Unit)) N (λl a=>let h:=a.2.2.2.2.1;let g:=a.2.2.2.2.2.1;let k:=a.2.2.2.2.2.2.2.2.2.1;let i:=a.2.2.2.2.2.2.2.2.2.2.2.1;let f:=ix g a.2.2.1 0;let d:=a.2.2.2.2.2.2.2.2.2.2.1;let j:=ix d f zy; (cond (ilt a.2.2.1 a.2.1) (oN (inb a.2.2.1<|ln g)<|oN (inb f<|ln d)<|oN (zf3 j.Pending a.1)<|oN (inb f<|ln d)<|l (a.1,a.2.1,zQ .i64 a.2.2.1 1,a.2.2.2.1,h,g,a.2.2.2.2.2.2.1,a.2.2.2.2.2.2.2.1,a.2.2.2.2.2.2.2.2.1,k,up d f ({j with Pending:=(zep j.Pending a.1)}:Guest),i,()))<|cond (ieq (ln g) 0) (oN (zf3 h a.1)<|some [aT .bare (⟨k,d,i,zep h a.1⟩:Bare),aB true])<|some [aT .bare (⟨k,d,i,h⟩:Bare),aB true])) (c,ln<|zfH b c,0,0,e.Pending,zfH b c,[],[],[],e.Memory,e.Guests,e.Outs,()))
def zQd:=zq [(164,0,{n:=59,tm:=[(1,ti),(4,.lp 0 0),(6,.lp 1 0),(7,.sl 0 []),(24,.sl 0 []),(25,ti),(26,ti)],lo:=[(0,[.sl 1 [],.sl 2 [],.sl 3 [],ti]),(1,[.sl 4 [],.sl 5 [],.sl 6 [],ti])],ro:=[(0,.int,true),(1,.sl .int,true),(2,.guest,true),(3,.int,true),(4,.sl .int,true),(5,.guest,true),(6,.int,true)]})]
theorem zPc (a:Bare)(c:Int)(l:zeC a c=true):∃N,zBW N a c=some [aT .bare<|zdq a c,aB<|zdI a c]:=by
 have h:=zK.1 l;have j:(ze8 a.Guests c).length<=big:=qU (zvm _ _ _) (zda h.2.1.1).1;refine zcE λN g=>?_;unfold zBW zdq zdI zjR zfZ oN nB;conv=>zeta
 refine must (zbi h) (must rfl (brN (λe=>?_) λe=>must rfl (brN (λd=>?_) λd=>must (zbi h) ?_)));{simp only [show zbY a=false from e,cF]};{simp only [show zbY a=true from e,show hasB c 8=false from by first|exact d|exact(zND c).symm.trans d,cT,cF]};simp only[show zbY a=true from e,show hasB c 8=true from by first|exact d|exact(zND c).symm.trans d,cT];refine(zbq (zfH a c) (λi (t:lG)=>(c,ln<|zfH a c,(i:Int),0,(zY a).Pending,zfH a c,[],[],[],(zY a).Memory,t,(zY a).Outs,())) _ (λ_ k (t:List Guest) m=>bif inb k (ln t) then (cond (inb k<|ln t) (m<|up t k<|zmK (ix t k zy) c) none) else none) (λ(t:lG)=>cond (ieq (ln<|zfH a c) 0) (cond (zf3 (zY a).Pending c) (some [.agg<|Ty.cells .bare (⟨(zY a).Memory,t,(zY a).Outs,zep (zY a).Pending c⟩:Bare),.one<|.b true]) none)<|some [.agg<|Ty.cells .bare (⟨(zY a).Memory,t,(zY a).Outs,(zY a).Pending⟩:Bare),.one<|.b true]) (λi f t rec=>?_) (λt rec=>?_) _ ((zY a).Guests)<|g j).trans ?_;{simp only [zbI f,zbm f,zbu f,zbj f j,cT];rfl};{simp only [zbz,cF];rfl};exact(zHS c _ _ 0 _ zAc).trans zMM
theorem zvd:vP 164 ziY:=kF2 zHI zn zx zo zQd zPc
def z2B:zba:=[(338,zjD),(146,zjD),(341,zh9),(148,zh9),(344,zhl),(153,zhl),(345,zhn),(155,zhn),(346,zhm),(157,zhm),(347,zjC),(159,zjC),(161,zrL),(352,zjB),(166,zjB),(351,ziY),(164,ziY)]++z8M
theorem zCP:zT z2B:=zi zwy (zi zwv<|zi ztV<|zi ztU<|zi zs3<|zi zsX<|zi zs5<|zi zsZ<|zi zs4<|zi zsY<|zi zwx<|zi zwu<|zi zvc<|zi zww<|zi zwt<|zi zvf<|zi zvd zHI)
theorem z4U {n:Int}(h:(ieq n 4||ieq n 8)=true):n=4\/n=8:=by rcases jW _ _ ▸ h with h|h;{exact .inl (qD h)};{exact .inr (qD h)}
theorem z3Q {n:Int}(h:(ieq n 8||ieq n 12)=true):n=8\/n=12:=by rcases jW _ _ ▸ h with h|h;{exact .inl (qD h)};{exact .inr (qD h)}
@[simp] abbrev zkR (n:Int):Bool:=ieq n 4||ieq n 8
@[simp] abbrev ziA (n:Int):List Slot:=List.replicate n.toNat ⟨-1,0⟩
def zrO:Run:=rF1 dI λb=>(zkR b,[aS .slot<|ziA b])
def zT3 (N:Nat)(b:Int):OA:=
 (oN (zsr b 0 24)<|iter (σ:=(Int×lS×Unit)) N (λc a=>cond (igt a.1 0) (oN zbV<|oN (few<|ln<|ap a.2.1 [zbk])<|c (wsub .i64 a.1 1,ap a.2.1 [zbk],()))<|some [aS .slot a.2.1]) (ztd b 0 24,[],()))
def zQo:=zq [(311,0,{n:=17,tm:=[(3,.sl 0 []),(4,ti)],lo:=[],ro:=[(0,.slot,true)]})]
theorem zPJ (a:Int)(b:zkR a=true):∃N,zT3 N a=some [aS .slot<|ziA a]:=by refine⟨30,?_⟩;have h:a=4\/a=8:=z4U b;rcases h with rfl|rfl<;>(change _=_;kernel_rfl)
theorem zvi:vP 311 zrO:=kF1 zCP zn zx zo zQo zPJ
@[simp] abbrev zqJ (n:Int):Bool:=ieq n 8||ieq n 12
@[simp] abbrev zly (n:Int):List (List Int):=List.replicate n.toNat [0,0,0,0]
def zvG:Run:=rF1 dI λb=>(zqJ b,[aS (.sl .int)<|zly b])
def zZ7 (N:Nat)(b:Int):OA:=
 (oN (zsr b 0 24)<|iter (σ:=(Int×lM×Unit)) N (λc a=>cond (igt a.1 0) (oN (cond (few 4) (ieq 4 4) false)<|oN (few<|ln<|ap a.2.1 [rp 4 0])<|c (wsub .i64 a.1 1,ap a.2.1 [rp 4 0],()))<|some [aS (.sl .int) a.2.1]) (ztd b 0 24,[],()))
def zXi:=zq [(281,0,{n:=17,tm:=[(3,.sl 0 []),(4,ti)],lo:=[],ro:=[(0,.sl .int,true)]})]
theorem zVz (a:Int)(b:zqJ a=true):∃N,zZ7 N a=some [aS (.sl .int)<|zly a]:=by refine⟨30,?_⟩;have h:a=8\/a=12:=z3Q b;rcases h with rfl|rfl<;>(change _=_;kernel_rfl)
theorem zyq:vP 281 zvG:=kF1 zCP zn zx zo zXi zVz
def z2C:zba:=[(311,zrO),(281,zvG)]++z2B
theorem zQ6:zT z2C:=zi zvi (zi zyq zCP)
def znc:List Slot:=List.replicate 4 ⟨-1,0⟩
def zgf (p:List Ins):Guest:=⟨p,0,0,znc,znc,⟨0,0,false⟩,0,⟨0,0,false,0⟩,false,[]⟩
@[simp] abbrev zkM (p:List Ins):Bool:=pc (p.length<=1048576)
@[simp] abbrev zcX (p:List Ins):Guest:=zgf p
def znJ:Run:=rF1 (dS .ins) λb=>(zkM b,[aT .guest<|zcX b])
def zCo (N:Nat)(a:lI):OA:=
 (oN (few<|ln<|ap [] a)<|oN (zkR 4)<|oN (zkR 4)<|some [aT .guest (⟨ap [] a,0,0,ziA 4,ziA 4,⟨0,0,false⟩,0,⟨0,0,false,0⟩,false,[]⟩:Guest)])
theorem zPB (a:List Ins)(b:zkM a=true):∃N,zCo N a=some [aT .guest<|zcX a]:=by have c:=zK.1 b;refine⟨0,?_⟩;unfold zCo oN;refine mu (must rfl (must rfl ?_));first|rfl|(simp only [*,zcX,zgf,znc,cT,cF]<;>rfl)|simp_all[Ty.cells,zcX,zgf,znc]
theorem zpd:vP 258 znJ:=kF1 zQ6 zn zx zo (zq []) zPB
def zbby:zba:=[(258,znJ)]++z2C
theorem zwg:zT zbby:=zi zpd zQ6
def zPS:List (List Int):=List.replicate 8 [0,0,0,0]
def SmPs (a:List (List Ins)):Prop:=a.length<=1048576/\∀p∈a,p.length<=1048576
theorem zRu {d c j:Type}(m:Nat)(f:d->c)(K:List c->Option j):∀(l:List d) (i:Nat) (a:List c),a.length+l.length<=2147483648->
 goL (λ(i:Nat) x a k=>bif ilt (i:Int) (m:Int) then (cond (few<|ln<|ap a [f x]) (k<|ap a [f x]) none) else K a) K l i a=K (a++(l.take<|m-i).map f)
 |[],i,a,_=>by simp[goL]
 |x::l,i,a,g=>by simp only[jB]at g;have e:few (ln<|ap a [f x])=true:=zir (by simp[ap];omega);by_cases h:i<m;{have b:ilt (i:Int) (m:Int)=true:=qJ (by omega);simp only[goL,b,e,cT];rw[zRu m f K l (i+1) (ap a [f x]) (by simp[ap];omega)];rw[show m-i=m-(i+1)+1 by omega];simp[ap]};{have b:ilt (i:Int) (m:Int)=false:=qH (by omega);simp only[goL,b,cF];rw[show m-i=0 by omega];simp}
@[simp] abbrev zmY (a:GAct):Bool:=true
@[simp] abbrev zy5 (a:GAct):Bool:=zl a.Kind 1 17
def zG4:Run:=rF1 (dT .act) λb=>(zmY b,[aB<|zy5 b])
def zQH (N:Nat)(a:GAct):OA:=
 (oN (zM a.Kind 1 17)<|some [aB<|zl a.Kind 1 17])
theorem zYd (a:GAct)(b:zmY a=true):∃N,zQH N a=some [aB<|zy5 a]:=by refine⟨0,?_⟩;unfold zQH oN;refine must rfl ?_;first|rfl|(simp only [*,zy5,cT,cF]<;>rfl)|simp_all[Ty.cells,zy5]
theorem zSb:vP 283 zG4:=kF1 zwg zn zx zo (zq []) zYd
@[simp] abbrev zxH (k:Int):Bool:=true
@[simp] abbrev zte (k:Int):Bool:=zl k 13 17
def zBm:Run:=rF1 dI λb=>(zxH b,[aB<|zte b])
def zGl (N:Nat)(a:Int):OA:=
 (oN (zM a 13 17)<|some [aB<|zl a 13 17])
theorem zSY (a:Int)(b:zxH a=true):∃N,zGl N a=some [aB<|zte a]:=by refine⟨0,?_⟩;unfold zGl oN;refine must rfl ?_;first|rfl|(simp only [*,zte,cT,cF]<;>rfl)|simp_all[Ty.cells,zte]
theorem zLy:vP 37 zBm:=kF1 zwg zn zx zo (zq []) zSY
@[simp] abbrev zmb (a:GAct):Ctl:=⟨a.X,a.Y,ieq a.Z 1⟩
def zsh:Run:=rF1 (dT .act) λb=>(zmY b,[.agg<|zob<|zmb b])
def zQI (N:Nat)(a:GAct):OA:=
 (some [.agg [.i .i64 a.X,.i .i64 a.Y,.b<|ieq a.Z 1]])
theorem zGR (a:GAct)(b:zbR big [aT .act a])(c:zmY a=true):∃N,zQI N a=some [.agg<|zob<|zmb a]:=by refine⟨0,?_⟩;unfold zQI;first|rfl|(simp only [*,zmb,cT,cF]<;>rfl)|simp_all[Ty.cells,zmb]
theorem zSc:vP 293 zsh:=hF1 zwg zn zx zo (zq []) zGR
theorem zRZ:vP 77 zsh:=hF1 zwg zn zx zo (zq []) zGR
def zUr:zba:=[(338,zjD),(146,zjD),(341,zh9),(148,zh9),(344,zhl),(153,zhl),(345,zhn),(155,zhn),(346,zhm),(157,zhm),(347,zjC),(159,zjC),(161,zrL),(352,zjB),(166,zjB),(351,ziY),(164,ziY),(281,zvG)]++z8I
theorem zCQ:zT zUr:=zi zwy (zi zwv<|zi ztV<|zi ztU<|zi zs3<|zi zsX<|zi zs5<|zi zsZ<|zi zs4<|zi zsY<|zi zwx<|zi zwu<|zi zvc<|zi zww<|zi zwt<|zi zvf<|zi zvd<|zi zyq z5U)
def zdK (x:Mon):Bare:=⟨zPS,x.Guests,x.Outs,x.Pending⟩
def zr3 (x:Mon)(b:Bare):Mon:={x with Guests:=b.Guests,Pending:=b.Pending}
def zcJ (h:Host)(m:Int)(b:Bare):Host:={h with Mons:=up h.Mons m (zr3 (ix h.Mons m mZ) b)}
@[simp] abbrev zf7 (x:Mon):Bool:=pc (zfx x)
@[simp] abbrev zb3 (x:Mon):Bare:=zdK x
def zBs:Run:=rF1 (dT .mon) λb=>(zf7 b,[aT .bare<|zb3 b])
def zGA (N:Nat)(a:Mon):OA:=
 (oN (zqJ 8)<|oN (zha a.Guests)<|oN (few<|ln<|ap [] a.Outs)<|some [aT .bare (⟨zly 8,zhL a.Guests,ap [] a.Outs,a.Pending⟩:Bare)])
theorem zTg (a:Mon)(c:zf7 a=true):∃N,zGA N a=some [aT .bare<|zb3 a]:=by have b:=zK.1 c;refine⟨0,?_⟩;unfold zGA oN;exact must rfl (must (zbi<|(zwi _).2 b.2.2.2.1) (must (zps b.2.2.2.2.1) rfl))
theorem zLZ:vP 339 zBs:=kF1 zCQ zn zbF zid (zq []) zTg
@[simp] abbrev zf6 (h:Host)(m:Int)(b:Bare):Bool:=pc (hasB m (ln h.Mons)=true/\zmt b.Guests)
@[simp] abbrev ziP (h:Host)(m:Int)(b:Bare):Host:=zcJ h m b
theorem zNy {l:List Mon}{m:Int}(a:hasB m (ln l)=true)(b:Bare):inb m (ln<|up l m {ix l m mZ with Guests:=b.Guests})=true/\
 up (up l m {ix l m mZ with Guests:=b.Guests}) m {ix (up l m {ix l m mZ with Guests:=b.Guests}) m mZ with Pending:=b.Pending}=up l m (zr3 (ix l m mZ) b):=by
 obtain⟨k,rfl,c⟩:=zeG (n:=l.length) a;refine⟨zB (by rw[ln,zgv];exact a),?_⟩
 rw[zrf,zd6 c];rfl
def ztL:List AV->Option (Bool×List AV)
 |[.agg [.s (.sl .int) b,.s .mon c,.s .entry d,.s .entry e],.one<|.i .i64 f,.agg [.s (.sl .int) g,.s .guest h,.s .int j,.i .i64 k]]=>some (zf6 (⟨b,c,d,e⟩:Host) f (⟨g,h,j,k⟩:Bare),[aH<|ziP (⟨b,c,d,e⟩:Host) f (⟨g,h,j,k⟩:Bare)])
 |_=>none
def zxq (N:Nat)(b:Host)(a:Int)(c:Bare):OA:=
 (oN (zha c.Guests)<|oN (inb a<|ln b.Mons)<|share (up b.Mons a ({ (ix b.Mons a zh) with Guests:=(zhL c.Guests)}:Mon)) λd=>oN (inb a<|ln d)<|share (up d a ({ (ix d a zh) with Pending:=c.Pending}:Mon)) λe=>some [aH ({b with Mons:=e}:Host)])
theorem zV3 (N:Nat)(a:Host)(b:Int)(c:Bare):z0G (cQ zUr zp3 z1t z7u) (zq []) N 12 340 [true,true,true,true,false,false,false,false,false] [aH a,aI b,aT .bare c]=zxq N a b c:=by kernel_rfl
theorem zTf (b:Host)(c:Int)(a:Bare)(i:zbR big [aH b,aI c,aT .bare a])(h:zf6 b c a=true):∃N,zxq N b c a=some [aH<|ziP b c a]:=by obtain⟨d,hg⟩:=zK.1 h;obtain⟨f,g⟩:=zNy d a;refine⟨0,?_⟩;unfold zxq oN;refine must (zbi<|(zwi _).2 hg) (must (zB d)<|shr<|must f<|shr ?_);have e:zhL a.Guests=a.Guests:=rfl;rw[e];show some [AV.agg<|zbf {b with Mons:=_}]=some [AV.agg<|zbf {b with Mons:=_}];rw[show zh=mZ from rfl,g]
theorem zLY:zfi Tryz.prog 340 [true,true,true,true,false,false,false,false,false] none ztL:=by refine zNZ (zh7 zCQ zn zbF zid) (zkq (by kernel_rfl)) (by kernel_rfl) ?_;intro a g f e h;have c:=zkv e;unfold ztL at h;split at h;{obtain⟨d,rfl⟩:=ze7 h;obtain⟨N,b⟩:=zTf _ _ _ (by exact c) d;exact⟨_,N,12,(zV3 N _ _ _ ).trans b⟩};{cases h}
def z2H:zba:=[(339,zBs)]++zUr
theorem zfj:zT z2H:=zi zLZ zCQ
def zbcR:zgy:=[(340,[true,true,true,true,false,false,false,false,false],none,ztL)]++z7u
theorem zb7:zfa zbcR:=zrT zid (by
 intro x a;simp only[qG,qN,or_false]at a;rcases a with rfl
 .exact zLY)
def z9y (h:Host)(m:Int)(c:Bool)(B:Bare)(ok:Bool)(a b:Host->Ans):OA:=
 bif zU h then (cond (zcs h) (cond (cond (zcm h) false true) (some<|a h)<|cond (zbl m<|ln h.Mons) (cond (cond (zch m<|ln h.Mons) false true) (some<|a h)<|cond (zc2 h m) (cond c (cond ok (cond (zdh B.Guests) (cond (inb m<|ln h.Mons) (share (up h.Mons m {ix h.Mons m mZ with Guests:=B.Guests}) λx=>cond (inb m<|ln x) (share (up x m {ix x m mZ with Pending:=B.Pending}) λy=>some (b {h with Mons:=y})) none) none) none)<|some<|b h) none) none) none) none) else none
def z9D (h:Host)(m:Int)(a:Bool)(B:Bare)(b c:Host->Ans):OA:=
 bif zU h then (cond (zgX h m) (cond (cond (zgW h m) false true) (some<|b h)<|cond (inb m<|ln h.Mons) (cond (zf7<|ix h.Mons m mZ) (cond a (cond (zf6 h m B) (some<|c<|zcJ h m B) none) none) none) none) none) else none
theorem zbt {h:Host}{m:Int}:(zck h m=true)↔zb0 h=true/\hasB m (ln h.Mons)=true:=by unfold zck;cases zb0 h<;>simp
theorem zph {h:Host}{m:Int}{cB:Bool}{B:Bare}{ok:Bool}{o0 o1:Host->Ans}(l:SmH h)(k:zck h m=true->cB=true)(j:zck h m=true->SmB B)(c:zck h m=true->ok=false->zcJ h m B=h) :
 z9y h m cB B ok o0 o1=some (cond (zck h m) (o1<|zcJ h m B)<|o0 h):=by
 have i:zdP h:=(zS h).2 l;unfold z9y;refine must (zbi i) (must rfl ?_);rw[show zcm h=zb0 h from rfl]
 have g:zb0 h=true->hasB m (ln h.Mons)=true->cB=true:=λa b=>k (zbt.2 ⟨a,b⟩);have f:zb0 h=true->hasB m (ln h.Mons)=true->SmB B:=λa b=>j (zbt.2 ⟨a,b⟩);unfold zck at c ⊢;cases e:zb0 h
 .rfl
 .refine zci rfl (must rfl ?_);rw[show zch m (ln h.Mons)=hasB m (ln h.Mons) from rfl]
  rw[e]at c;cases d:hasB m (ln h.Mons)
  .rfl
  .rw [d]at c;refine zci rfl (must (zbs i)<|must (g e d) ?_);cases ok
   .simp only [cT,cF,c rfl rfl]
   .obtain⟨e1,e2⟩:=zNy d B;refine must rfl (must (zbi (f e d).2.1)<|must (zB d)<|shr<|must e1<|shr ?_)
    show some (o1 {h with Mons:=_})=_
    rw[e2];rfl
theorem zpr {h:Host}{m:Int}{cB:Bool}{B:Bare}{o0 o1:Host->Ans}(c:SmH h)(e:zck h m=true->cB=true)(d:zck h m=true->SmB B):z9D h m cB B o0 o1=some (cond (zck h m) (o1<|zcJ h m B)<|o0 h):=by unfold z9D;refine must (zbi<|(zS h).2 c) (must rfl ?_);rw[show zgW h m=zck h m from rfl];cases a:zck h m;{rfl};{have b:=(zbt.1 a).2;exact zci rfl (must (zB b)<|must (zbi<|c.2.1.2 _<|zbM b _)<|must (e a) (must (zbi ⟨b,(d a).2.1⟩) rfl))}
structure SameB (b c:Bare):Prop where
 g:b.Guests=c.Guests
 p:b.Pending=c.Pending
 o:zbY b=zbY c
theorem SameB.at {b c:Bare}(h:SameB b c)(g:Int):gAt b g=gAt c g:=by unfold gAt;rw[h.g]
theorem SameB.has {b c:Bare}(h:SameB b c)(g:Int):zbZ b g=zbZ c g:=by unfold zbZ;rw[h.g,h.o]
theorem back_eq {h:Host}{m:Int}{b c:Bare}(hg:b.Guests=c.Guests)(a:b.Pending=c.Pending):zcJ h m b=zcJ h m c:=by unfold zcJ zr3;rw[hg,a]
theorem zrp {b c:Bare}(a:SameB b c)(h:Host)(m g:Int)(k:Bool)(x:Guest):zcJ h m (chg b g k x)=zcJ h m (chg c g k x):=by unfold chg;rw[a.has];cases (cond (zbZ c g) k false);{exact back_eq a.g a.p};{exact back_eq (by simp only[cT,zeK,a.g]) a.p}
theorem znm {b c:Bare}(a:SameB b c)(g:Int)(k:Bool):zb2 b g k=zb2 c g k:=by unfold zb2;rw[a.has]
theorem zk2 {h:Host}{m:Int}(a:hasB m (ln h.Mons)=true):zcJ h m (zC h m)=h:=by unfold zcJ zr3 zC;rw[a,cT];simp only;rw[zXx a]
theorem zk8 {h:Host}{m:Int}(b:zck h m=true)(d:zbY (zdK<|ix h.Mons m mZ)=true):SameB (zdK<|ix h.Mons m mZ) (zC h m):=by obtain⟨c,a⟩:=zbt.1 b;refine⟨?_,?_,d.trans (zr4 c a).symm⟩<;>unfold zC zdK<;>rw [a]<;>rfl
theorem zbaz:zjP zPS 8=true:=by decide
theorem zpF {h:Host}{m:Int}(b:zck h m=true):zbY (zdK<|ix h.Mons m mZ)=true:=by obtain⟨c,a⟩:=zbt.1 b;have:=zr4 c a;unfold zC at this;rw[a,cT] at this;unfold zbY at this ⊢;simp only[zdK,zbaz] at *;simp_all
theorem zgg {x:Mon}(h:zfx x):SmB (zdK x):=⟨show SmM zPS from ⟨by decide,by decide⟩,h.2.2.2.1,h.2.2.2.2.1⟩
theorem zu3 {b:Bare}{g:Int}{k:Bool}{x:Guest}(h:zb2 b g k=false):chg b g k x=b:=by unfold chg;unfold zb2 at h;rw[h];rfl
def zgb (h:Host)(m:Int)(b:Bare):Host:=bif zck h m then zcJ h m b else h
def zfg (h:Host)(m:Int)(ok:Bool):Bool:=bif zck h m then ok else false
@[simp] abbrev zgB (h:Host)(m:Int)(g p:Int)(s:Slot):Host:=zgb h m (zdC (zC h m) g p s)
@[simp] abbrev zhB (h:Host)(m:Int)(g p:Int)(s:Slot):Bool:=zfg h m (zdR (zC h m) g p s)
@[simp] abbrev ze2 (h:Host)(m:Int)(g v:Int):Host:=zgb h m (zcp (zC h m) g v)
@[simp] abbrev zfC (h:Host)(m:Int)(g v:Int):Bool:=zfg h m (zcx (zC h m) g v)
@[simp] abbrev ze4 (h:Host)(m:Int)(g:Int):Host:=zgb h m (zcr (zC h m) g)
@[simp] abbrev zfE (h:Host)(m:Int)(g:Int):Bool:=zfg h m (zcz (zC h m) g)
@[simp] abbrev ze3 (h:Host)(m:Int)(g n:Int):Host:=zgb h m (zcq (zC h m) g n)
@[simp] abbrev zfD (h:Host)(m:Int)(g n:Int):Bool:=zfg h m (zcy (zC h m) g n)
@[simp] abbrev zhz (h:Host)(m:Int)(g:Int)(x:Ctl):Host:=zgb h m (zdf (zC h m) g x)
@[simp] abbrev zhA (h:Host)(m:Int)(g:Int)(x:Ctl):Bool:=zfg h m (zdn (zC h m) g x)
@[simp] abbrev zf1 (h:Host)(m:Int)(n:Int):Host:=zgb h m (zdq (zC h m) n)
@[simp] abbrev zgR (h:Host)(m:Int)(n:Int):Bool:=zfg h m (zdI (zC h m) n)
@[simp] abbrev zgA (h:Host)(m:Int):Host:=zgb h m (zdm<|zC h m)
@[simp] abbrev zhx (h:Host)(m:Int):Int:=bif zck h m then zeo (zC h m) else -1
@[simp] abbrev zhy (h:Host)(m:Int):Bool:=zfg h m (zdB<|zC h m)
@[simp] abbrev zf9 (h:Host)(m g p:Int):Bool:=zfg h m (zb2 (zC h m) g<|hasB p 4)
theorem z4o {b c:Bare}(a:SameB b c)(n:Int):(zjR b n).Guests=(zjR c n).Guests/\(zjR b n).Pending=(zjR c n).Pending/\zfZ b n=zfZ c n:=by have e:zfZ b n=zfZ c n:=(by unfold zfZ;rw[a.o]);unfold zjR;rw[e];cases zfZ c n;{exact⟨a.g,a.p,rfl⟩};{unfold zEI;rw[a.g];cases ieq (ln<|ze8 c.Guests n) 0;{exact⟨by simp only[cT,cF],by simp only[cT,cF,a.p],rfl⟩};{exact⟨by simp only[cT,a.g],by simp only[cT,a.p],rfl⟩}}
theorem z4n {b:Bare}{n:Int}(h:zfZ b n=false):zjR b n=b:=by unfold zjR;rw[h];rfl
theorem z5d {b c:Bare}(a:SameB b c):(zlb b).Guests=(zlb c).Guests/\(zlb b).Pending=(zlb c).Pending/\zro b=zro c/\zko b=zko c:=by unfold zlb zro zko;rw[a.o,a.p];cases zbY c;{exact⟨a.g,a.p,rfl,rfl⟩};{exact⟨a.g,rfl,rfl,rfl⟩}
theorem z5c {b:Bare}(h:zko b=false):zlb b=b:=by unfold zlb;unfold zko at h;cases c:zbY b;{rfl};{rw [c]at h;have a:ilt (zey b.Pending) 0=true:=(by simpa using h);unfold zhk;simp only[a,cT]}
theorem z4M {b:Bare}{n:Int}(h:SmB b):SmB (zjR b n):=by unfold zjR;cases zfZ b n;{exact h};{unfold zEI;cases ieq (ln<|ze8 b.Guests n) 0;{exact⟨h.1,(zD7 _ zAc h.2.1).1,h.2.2⟩};{exact h}}
theorem z7g {b:Bare}(h:SmB b):SmB (zlb b):=by unfold zlb;cases zbY b;{exact h};{exact h}
theorem zuB {H a:Host}{x y:Bool}(c:H=a)(d:x=y):some [AV.agg<|zbf H,AV.one<|.b x]=some [AV.agg<|zbf a,AV.one<|.b y]:=by rw[c,d]
theorem z9U {H a:Host}{n k:Int}{x y:Bool}(c:H=a)(d:n=k)(e:x=y):some [AV.agg<|zbf H,AV.one<|.i .i64 n,AV.one<|.b x]=some [AV.agg<|zbf a,AV.one<|.i .i64 k,AV.one<|.b y]:=by rw[c,d,e]
theorem zP7 {b:Bare}(g p:Int)(s:Slot)(a:SmB b):SmB (zdC b g p s):=zpD a (zWS _ _<|zgs _ a)
theorem z6H {b:Bare}(g p:Int)(s:Slot)(a:zdR b g p s=false):zdC b g p s=b:=zu3 a
theorem z7c {b c:Bare}(a:SameB b c)(h:Host)(m:Int)(g p:Int)(s:Slot):zcJ h m (zdC b g p s)=zcJ h m (zdC c g p s)/\zdR b g p s=zdR c g p s:=by have e:=a.at g;simp only[zdC,zdR,e];exact⟨zrp a _ _ _ _ _,znm a _ _⟩
@[simp] abbrev zox (h:Host)(m:Int)(g p:Int)(s:Slot):Bool:=pc (zdP h)
def zoS:Run:=rF5 dH dI dI dI (dT .slot) λb c d e f=>(zox b c d e f,[aH<|zgB b c d e f,aB<|zhB b c d e f])
def zGk (N:Nat)(g:Host)(b d e:Int)(f:Slot):OA:=
 let a:=zk g;let c:=ix a.Mons b zh; (oN (zU g)<|oN (zgX a b)<|cond (nB<|zgW a b) (some [aH a,aB false])<|oN (inb b<|ln a.Mons)<|oN (zf7 c)<|oN (zj9 (zb3 c) d e f)<|oN (zf6 a b<|zdC (zb3 c) d e f)<|some [aH<|ziP a b<|zdC (zb3 c) d e f,aB<|zdR (zb3 c) d e f])
theorem zSX (a:Host)(c d e:Int)(f:Slot)(n:zox a c d e f=true):∃N,zGk N a c d e f=some [aH<|zgB a c d e f,aB<|zhB a c d e f]:=by
 have i:=(zS a).1 (zK.1 n);refine⟨0,?_⟩;have j:=zpr (h:=a) (m:=c) (cB:=zj9 (zdK<|ix a.Mons c mZ) d e f) (B:=zdC (zdK<|ix a.Mons c mZ) d e f) (o0:=λH=>[.agg<|zbf H,.one<|.b false]) (o1:=λH=>[.agg<|zbf H,.one<|.b<|zdR (zdK<|ix a.Mons c mZ) d e f]) i
  (λg=>zbi (zgg<|i.2.1.2 _<|zbM (zbt.1 g).2 _)) (λg=>zP7 _ _ _ (zgg<|i.2.1.2 _<|zbM (zbt.1 g).2 _))
 refine(show zGk 0 a c d e f=_ from j).trans ?_;unfold zgB zhB zgb zfg;cases g:zck a c;{rfl};{obtain⟨k,l⟩:=z7c (zk8 g<|zpF g) a c d e f;simp only[cT];exact zuB k l}
theorem zLx:vP 287 zoS:=kF5 zfj zn zbF zb7 (zq []) zSX
def zFX (N:Nat)(b:Host)(a d e:Int)(f:Slot):OA:=
 let c:=zk b;let h:=zc4 b a;let j:=zdC h d e f;let i:=zdR h d e f; (oN (zU b)<|oN (zcs b)<|cond (nB<|zcm b) (some [aH c,aB false])<|oN (zbl a<|ln b.Mons)<|cond (nB<|zch a<|ln b.Mons) (some [aH c,aB false])<|oN (zc2 b a)<|oN (zj9 h d e f)<|cond i (oN (zdh j.Guests)<|oN (inb a<|ln c.Mons)<|share (up c.Mons a ({ (ix c.Mons a zh) with Guests:=(zdW j.Guests)}:Mon)) λg=>oN (inb a<|ln g)<|share (up g a ({ (ix g a zh) with Pending:=j.Pending}:Mon)) λk=>some [aH ({c with Mons:=k}:Host),aB i])<|some [aH c,aB i])
theorem zSC (a:Host)(c d e:Int)(f:Slot)(k:zox a c d e f=true):∃N,zFX N a c d e f=some [aH<|zgB a c d e f,aB<|zhB a c d e f]:=by
 have i:=(zS a).1 (zK.1 k);refine⟨0,?_⟩;have j:=zph (h:=a) (m:=c) (cB:=zj9 (zC a c) d e f) (B:=zdC (zC a c) d e f) (ok:=zdR (zC a c) d e f) (o0:=λH=>[.agg<|zbf H,.one<|.b false]) (o1:=λH=>[.agg<|zbf H,.one<|.b<|zdR (zC a c) d e f]) i
  (λg=>zbi (zeV i (zbt.1 g).2)) (λg=>zP7 _ _ _ (zeV i (zbt.1 g).2)) (λg l=>(congrArg (zcJ a c)<|z6H _ _ _ l).trans (zk2 (zbt.1 g).2))
 refine(show zFX 0 a c d e f=_ from j).trans ?_;unfold zgB zhB zgb zfg;cases zck a c<;>rfl
theorem zLd:vP 71 zoS:=kF5 zfj zn zbF zb7 (zq []) zSC
theorem zAo {b:Bare}(g v:Int)(a:SmB b):SmB (zcp b g v):=zpD a (z7h _<|zgs _ a)
theorem zYr {b:Bare}(g v:Int)(a:zcx b g v=false):zcp b g v=b:=zu3 a
theorem zYR {b c:Bare}(a:SameB b c)(h:Host)(m:Int)(g v:Int):zcJ h m (zcp b g v)=zcJ h m (zcp c g v)/\zcx b g v=zcx c g v:=by have e:=a.at g;simp only[zcp,zcx,e];exact⟨zrp a _ _ _ _ _,znm a _ _⟩
@[simp] abbrev zkN (h:Host)(m:Int)(g v:Int):Bool:=pc (zdP h)
def zlu:Run:=rF4 dH dI dI dI λb c d e=>(zkN b c d e,[aH<|ze2 b c d e,aB<|zfC b c d e])
def zyb (N:Nat)(f:Host)(b d e:Int):OA:=
 let a:=zk f;let c:=ix a.Mons b zh; (oN (zU f)<|oN (zgX a b)<|cond (nB<|zgW a b) (some [aH a,aB false])<|oN (inb b<|ln a.Mons)<|oN (zf7 c)<|oN (zho (zb3 c) d e)<|oN (zf6 a b<|zcp (zb3 c) d e)<|some [aH<|ziP a b<|zcp (zb3 c) d e,aB<|zcx (zb3 c) d e])
theorem zIZ (a:Host)(c d e:Int)(l:zkN a c d e=true):∃N,zyb N a c d e=some [aH<|ze2 a c d e,aB<|zfC a c d e]:=by
 have g:=(zS a).1 (zK.1 l);refine⟨0,?_⟩;have i:=zpr (h:=a) (m:=c) (cB:=zho (zdK<|ix a.Mons c mZ) d e) (B:=zcp (zdK<|ix a.Mons c mZ) d e) (o0:=λH=>[.agg<|zbf H,.one<|.b false]) (o1:=λH=>[.agg<|zbf H,.one<|.b<|zcx (zdK<|ix a.Mons c mZ) d e]) g
  (λf=>zbi (zgg<|g.2.1.2 _<|zbM (zbt.1 f).2 _)) (λf=>zAo _ _ (zgg<|g.2.1.2 _<|zbM (zbt.1 f).2 _))
 refine(show zyb 0 a c d e=_ from i).trans ?_;unfold ze2 zfC zgb zfg;cases f:zck a c;{rfl};{obtain⟨j,k⟩:=zYR (zk8 f<|zpF f) a c d e;simp only[cT];exact zuB j k}
theorem zDg:vP 289 zlu:=kF4 zfj zn zbF zb7 (zq []) zIZ
def zx1 (N:Nat)(b:Host)(a c d:Int):OA:=
 let f:=zk b;let e:=zc4 b a; (oN (zU b)<|oN (zcs b)<|cond (nB<|zcm b) (some [aH f,aB false])<|oN (zbl a<|ln b.Mons)<|cond (nB<|zch a<|ln b.Mons) (some [aH f,aB false])<|oN (zc2 b a)<|oN (zho e c d)<|cond (zcx e c d) (oN (zdh (zcp e c d).Guests)<|oN (inb a<|ln f.Mons)<|share (up f.Mons a ({ (ix f.Mons a zh) with Guests:=(zdW (zcp e c d).Guests)}:Mon)) λg=>oN (inb a<|ln g)<|share (up g a ({ (ix g a zh) with Pending:=(zcp e c d).Pending}:Mon)) λh=>some [aH ({f with Mons:=h}:Host),aB<|zcx e c d])<|some [aH f,aB<|zcx e c d])
theorem zIP (a:Host)(c d e:Int)(j:zkN a c d e=true):∃N,zx1 N a c d e=some [aH<|ze2 a c d e,aB<|zfC a c d e]:=by
 have g:=(zS a).1 (zK.1 j);refine⟨0,?_⟩;have i:=zph (h:=a) (m:=c) (cB:=zho (zC a c) d e) (B:=zcp (zC a c) d e) (ok:=zcx (zC a c) d e) (o0:=λH=>[.agg<|zbf H,.one<|.b false]) (o1:=λH=>[.agg<|zbf H,.one<|.b<|zcx (zC a c) d e]) g
  (λf=>zbi (zeV g (zbt.1 f).2)) (λf=>zAo _ _ (zeV g (zbt.1 f).2)) (λf k=>(congrArg (zcJ a c)<|zYr _ _ k).trans (zk2 (zbt.1 f).2))
 refine(show zx1 0 a c d e=_ from i).trans ?_;unfold ze2 zfC zgb zfg;cases zck a c<;>rfl
theorem zC8:vP 73 zlu:=kF4 zfj zn zbF zb7 (zq []) zIP
theorem zAq {b:Bare}(g:Int)(a:SmB b):SmB (zcr b g):=zpD a (z7i<|zgs _ a)
theorem zYt {b:Bare}(g:Int)(a:zcz b g=false):zcr b g=b:=zu3 a
theorem zYT {b c:Bare}(a:SameB b c)(h:Host)(m:Int)(g:Int):zcJ h m (zcr b g)=zcJ h m (zcr c g)/\zcz b g=zcz c g:=by have e:=a.at g;simp only[zcr,zcz,e];exact⟨zrp a _ _ _ _ _,znm a _ _⟩
@[simp] abbrev zkP (h:Host)(m:Int)(g:Int):Bool:=pc (zdP h)
def zlw:Run:=rF3 dH dI dI λb c d=>(zkP b c d,[aH<|ze4 b c d,aB<|zfE b c d])
def zyd (N:Nat)(e:Host)(b d:Int):OA:=
 let a:=zk e;let c:=ix a.Mons b zh; (oN (zU e)<|oN (zgX a b)<|cond (nB<|zgW a b) (some [aH a,aB false])<|oN (inb b<|ln a.Mons)<|oN (zf7 c)<|oN (zcB (zb3 c) d)<|oN (zf6 a b<|zcr (zb3 c) d)<|some [aH<|ziP a b<|zcr (zb3 c) d,aB<|zcz (zb3 c) d])
theorem zI1 (a:Host)(c d:Int)(k:zkP a c d=true):∃N,zyd N a c d=some [aH<|ze4 a c d,aB<|zfE a c d]:=by
 have f:=(zS a).1 (zK.1 k);refine⟨0,?_⟩;have g:=zpr (h:=a) (m:=c) (cB:=zcB (zdK<|ix a.Mons c mZ) d) (B:=zcr (zdK<|ix a.Mons c mZ) d) (o0:=λH=>[.agg<|zbf H,.one<|.b false]) (o1:=λH=>[.agg<|zbf H,.one<|.b<|zcz (zdK<|ix a.Mons c mZ) d]) f
  (λe=>zbi (zgg<|f.2.1.2 _<|zbM (zbt.1 e).2 _)) (λe=>zAq _ (zgg<|f.2.1.2 _<|zbM (zbt.1 e).2 _))
 refine(show zyd 0 a c d=_ from g).trans ?_;unfold ze4 zfE zgb zfg;cases e:zck a c;{rfl};{obtain⟨i,j⟩:=zYT (zk8 e<|zpF e) a c d;simp only[cT];exact zuB i j}
theorem zDi:vP 290 zlw:=kF3 zfj zn zbF zb7 (zq []) zI1
def zx3 (N:Nat)(b:Host)(a c:Int):OA:=
 let e:=zk b;let d:=zc4 b a; (oN (zU b)<|oN (zcs b)<|cond (nB<|zcm b) (some [aH e,aB false])<|oN (zbl a<|ln b.Mons)<|cond (nB<|zch a<|ln b.Mons) (some [aH e,aB false])<|oN (zc2 b a)<|oN (zcB d c)<|cond (zcz d c) (oN (zdh (zcr d c).Guests)<|oN (inb a<|ln e.Mons)<|share (up e.Mons a ({ (ix e.Mons a zh) with Guests:=(zdW (zcr d c).Guests)}:Mon)) λf=>oN (inb a<|ln f)<|share (up f a ({ (ix f a zh) with Pending:=(zcr d c).Pending}:Mon)) λg=>some [aH ({e with Mons:=g}:Host),aB<|zcz d c])<|some [aH e,aB<|zcz d c])
theorem zIR (a:Host)(c d:Int)(i:zkP a c d=true):∃N,zx3 N a c d=some [aH<|ze4 a c d,aB<|zfE a c d]:=by
 have f:=(zS a).1 (zK.1 i);refine⟨0,?_⟩;have g:=zph (h:=a) (m:=c) (cB:=zcB (zC a c) d) (B:=zcr (zC a c) d) (ok:=zcz (zC a c) d) (o0:=λH=>[.agg<|zbf H,.one<|.b false]) (o1:=λH=>[.agg<|zbf H,.one<|.b<|zcz (zC a c) d]) f
  (λe=>zbi (zeV f (zbt.1 e).2)) (λe=>zAq _ (zeV f (zbt.1 e).2)) (λe j=>(congrArg (zcJ a c)<|zYt _ j).trans (zk2 (zbt.1 e).2))
 refine(show zx3 0 a c d=_ from g).trans ?_;unfold ze4 zfE zgb zfg;cases zck a c<;>rfl
theorem zDa:vP 74 zlw:=kF3 zfj zn zbF zb7 (zq []) zIR
theorem zAp {b:Bare}(g n:Int)(a:SmB b):SmB (zcq b g n):=zpD a (zgs (b:=b) _ a)
theorem zYs {b:Bare}(g n:Int)(a:zcy b g n=false):zcq b g n=b:=zu3 a
theorem zYS {b c:Bare}(a:SameB b c)(h:Host)(m:Int)(g n:Int):zcJ h m (zcq b g n)=zcJ h m (zcq c g n)/\zcy b g n=zcy c g n:=by have e:=a.at g;simp only[zcq,zcy,e];exact⟨zrp a _ _ _ _ _,znm a _ _⟩
@[simp] abbrev zkO (h:Host)(m:Int)(g n:Int):Bool:=pc (zdP h)
def zlv:Run:=rF4 dH dI dI dI λb c d e=>(zkO b c d e,[aH<|ze3 b c d e,aB<|zfD b c d e])
def zyc (N:Nat)(f:Host)(b d e:Int):OA:=
 let a:=zk f;let c:=ix a.Mons b zh; (oN (zU f)<|oN (zgX a b)<|cond (nB<|zgW a b) (some [aH a,aB false])<|oN (inb b<|ln a.Mons)<|oN (zf7 c)<|oN (zhp (zb3 c) d e)<|oN (zf6 a b<|zcq (zb3 c) d e)<|some [aH<|ziP a b<|zcq (zb3 c) d e,aB<|zcy (zb3 c) d e])
theorem zI0 (a:Host)(c d e:Int)(l:zkO a c d e=true):∃N,zyc N a c d e=some [aH<|ze3 a c d e,aB<|zfD a c d e]:=by
 have g:=(zS a).1 (zK.1 l);refine⟨0,?_⟩;have i:=zpr (h:=a) (m:=c) (cB:=zhp (zdK<|ix a.Mons c mZ) d e) (B:=zcq (zdK<|ix a.Mons c mZ) d e) (o0:=λH=>[.agg<|zbf H,.one<|.b false]) (o1:=λH=>[.agg<|zbf H,.one<|.b<|zcy (zdK<|ix a.Mons c mZ) d e]) g
  (λf=>zbi (zgg<|g.2.1.2 _<|zbM (zbt.1 f).2 _)) (λf=>zAp _ _ (zgg<|g.2.1.2 _<|zbM (zbt.1 f).2 _))
 refine(show zyc 0 a c d e=_ from i).trans ?_;unfold ze3 zfD zgb zfg;cases f:zck a c;{rfl};{obtain⟨j,k⟩:=zYS (zk8 f<|zpF f) a c d e;simp only[cT];exact zuB j k}
theorem zDh:vP 291 zlv:=kF4 zfj zn zbF zb7 (zq []) zI0
def zx2 (N:Nat)(b:Host)(a c d:Int):OA:=
 let f:=zk b;let e:=zc4 b a; (oN (zU b)<|oN (zcs b)<|cond (nB<|zcm b) (some [aH f,aB false])<|oN (zbl a<|ln b.Mons)<|cond (nB<|zch a<|ln b.Mons) (some [aH f,aB false])<|oN (zc2 b a)<|oN (zhp e c d)<|cond (zcy e c d) (oN (zdh (zcq e c d).Guests)<|oN (inb a<|ln f.Mons)<|share (up f.Mons a ({ (ix f.Mons a zh) with Guests:=(zdW (zcq e c d).Guests)}:Mon)) λg=>oN (inb a<|ln g)<|share (up g a ({ (ix g a zh) with Pending:=(zcq e c d).Pending}:Mon)) λh=>some [aH ({f with Mons:=h}:Host),aB<|zcy e c d])<|some [aH f,aB<|zcy e c d])
theorem zIQ (a:Host)(c d e:Int)(j:zkO a c d e=true):∃N,zx2 N a c d e=some [aH<|ze3 a c d e,aB<|zfD a c d e]:=by
 have g:=(zS a).1 (zK.1 j);refine⟨0,?_⟩;have i:=zph (h:=a) (m:=c) (cB:=zhp (zC a c) d e) (B:=zcq (zC a c) d e) (ok:=zcy (zC a c) d e) (o0:=λH=>[.agg<|zbf H,.one<|.b false]) (o1:=λH=>[.agg<|zbf H,.one<|.b<|zcy (zC a c) d e]) g
  (λf=>zbi (zeV g (zbt.1 f).2)) (λf=>zAp _ _ (zeV g (zbt.1 f).2)) (λf k=>(congrArg (zcJ a c)<|zYs _ _ k).trans (zk2 (zbt.1 f).2))
 refine(show zx2 0 a c d e=_ from i).trans ?_;unfold ze3 zfD zgb zfg;cases zck a c<;>rfl
theorem zC9:vP 75 zlv:=kF4 zfj zn zbF zb7 (zq []) zIQ
theorem zP6 {b:Bare}(g:Int)(x:Ctl)(a:SmB b):SmB (zdf b g x):=zpD a (zgs (b:=b) _ a)
theorem z6G {b:Bare}(g:Int)(x:Ctl)(a:zdn b g x=false):zdf b g x=b:=zu3 a
theorem z7b {b c:Bare}(a:SameB b c)(h:Host)(m:Int)(g:Int)(x:Ctl):zcJ h m (zdf b g x)=zcJ h m (zdf c g x)/\zdn b g x=zdn c g x:=by have e:=a.at g;simp only[zdf,zdn,e];exact⟨zrp a _ _ _ _ _,znm a _ _⟩
@[simp] abbrev zov (h:Host)(m:Int)(g:Int)(x:Ctl):Bool:=pc (zdP h)
def zoQ:Run:=rF4 dH dI dI dC λb c d e=>(zov b c d e,[aH<|zhz b c d e,aB<|zhA b c d e])
def zGh (N:Nat)(f:Host)(b d:Int)(e:Ctl):OA:=
 let a:=zk f;let c:=ix a.Mons b zh; (oN (zU f)<|oN (zgX a b)<|cond (nB<|zgW a b) (some [aH a,aB false])<|oN (inb b<|ln a.Mons)<|oN (zf7 c)<|oN (zj8 (zb3 c) d e)<|oN (zf6 a b<|zdf (zb3 c) d e)<|some [aH<|ziP a b<|zdf (zb3 c) d e,aB<|zdn (zb3 c) d e])
theorem zSU (a:Host)(c d:Int)(e:Ctl)(l:zov a c d e=true):∃N,zGh N a c d e=some [aH<|zhz a c d e,aB<|zhA a c d e]:=by
 have g:=(zS a).1 (zK.1 l);refine⟨0,?_⟩;have i:=zpr (h:=a) (m:=c) (cB:=zj8 (zdK<|ix a.Mons c mZ) d e) (B:=zdf (zdK<|ix a.Mons c mZ) d e) (o0:=λH=>[.agg<|zbf H,.one<|.b false]) (o1:=λH=>[.agg<|zbf H,.one<|.b<|zdn (zdK<|ix a.Mons c mZ) d e]) g
  (λf=>zbi (zgg<|g.2.1.2 _<|zbM (zbt.1 f).2 _)) (λf=>zP6 _ _ (zgg<|g.2.1.2 _<|zbM (zbt.1 f).2 _))
 refine(show zGh 0 a c d e=_ from i).trans ?_;unfold zhz zhA zgb zfg;cases f:zck a c;{rfl};{obtain⟨j,k⟩:=z7b (zk8 f<|zpF f) a c d e;simp only[cT];exact zuB j k}
theorem zLu:vP 292 zoQ:=kF4 zfj zn zbF zb7 (zq []) zSU
def zFV (N:Nat)(b:Host)(a c:Int)(d:Ctl):OA:=
 let f:=zk b;let e:=zc4 b a; (oN (zU b)<|oN (zcs b)<|cond (nB<|zcm b) (some [aH f,aB false])<|oN (zbl a<|ln b.Mons)<|cond (nB<|zch a<|ln b.Mons) (some [aH f,aB false])<|oN (zc2 b a)<|oN (zj8 e c d)<|cond (zdn e c d) (oN (zdh (zdf e c d).Guests)<|oN (inb a<|ln f.Mons)<|share (up f.Mons a ({ (ix f.Mons a zh) with Guests:=(zdW (zdf e c d).Guests)}:Mon)) λg=>oN (inb a<|ln g)<|share (up g a ({ (ix g a zh) with Pending:=(zdf e c d).Pending}:Mon)) λh=>some [aH ({f with Mons:=h}:Host),aB<|zdn e c d])<|some [aH f,aB<|zdn e c d])
theorem zSA (a:Host)(c d:Int)(e:Ctl)(j:zov a c d e=true):∃N,zFV N a c d e=some [aH<|zhz a c d e,aB<|zhA a c d e]:=by
 have g:=(zS a).1 (zK.1 j);refine⟨0,?_⟩;have i:=zph (h:=a) (m:=c) (cB:=zj8 (zC a c) d e) (B:=zdf (zC a c) d e) (ok:=zdn (zC a c) d e) (o0:=λH=>[.agg<|zbf H,.one<|.b false]) (o1:=λH=>[.agg<|zbf H,.one<|.b<|zdn (zC a c) d e]) g
  (λf=>zbi (zeV g (zbt.1 f).2)) (λf=>zP6 _ _ (zeV g (zbt.1 f).2)) (λf k=>(congrArg (zcJ a c)<|z6G _ _ k).trans (zk2 (zbt.1 f).2))
 refine(show zFV 0 a c d e=_ from i).trans ?_;unfold zhz zhA zgb zfg;cases zck a c<;>rfl
theorem zLb:vP 76 zoQ:=kF4 zfj zn zbF zb7 (zq []) zSA
theorem zJq {b:Bare}(n:Int)(a:SmB b):SmB (zdq b n):=z4M a
theorem z3Y {b:Bare}(n:Int)(a:zdI b n=false):zdq b n=b:=z4n a
theorem z4D {b c:Bare}(f:SameB b c)(h:Host)(m n:Int):zcJ h m (zdq b n)=zcJ h m (zdq c n)/\zdI b n=zdI c n:=by obtain⟨a,d,e⟩:=z4o f n;exact⟨back_eq a d,e⟩
@[simp] abbrev zm1 (h:Host)(m:Int)(n:Int):Bool:=pc (zdP h)
def znL:Run:=rF3 dH dI dI λb c d=>(zm1 b c d,[aH<|zf1 b c d,aB<|zgR b c d])
def zCr (N:Nat)(e:Host)(b d:Int):OA:=
 let a:=zk e;let c:=ix a.Mons b zh; (oN (zU e)<|oN (zgX a b)<|cond (nB<|zgW a b) (some [aH a,aB false])<|oN (inb b<|ln a.Mons)<|oN (zf7 c)<|oN (zeC (zb3 c) d)<|oN (zf6 a b<|zdq (zb3 c) d)<|some [aH<|ziP a b<|zdq (zb3 c) d,aB<|zdI (zb3 c) d])
theorem zPE (a:Host)(c d:Int)(k:zm1 a c d=true):∃N,zCr N a c d=some [aH<|zf1 a c d,aB<|zgR a c d]:=by
 have f:=(zS a).1 (zK.1 k);refine⟨0,?_⟩;have g:=zpr (h:=a) (m:=c) (cB:=zeC (zdK<|ix a.Mons c mZ) d) (B:=zdq (zdK<|ix a.Mons c mZ) d) (o0:=λH=>[.agg<|zbf H,.one<|.b false]) (o1:=λH=>[.agg<|zbf H,.one<|.b<|zdI (zdK<|ix a.Mons c mZ) d]) f
  (λe=>zbi (zgg<|f.2.1.2 _<|zbM (zbt.1 e).2 _)) (λe=>zJq _ (zgg<|f.2.1.2 _<|zbM (zbt.1 e).2 _))
 refine(show zCr 0 a c d=_ from g).trans ?_;unfold zf1 zgR zgb zfg;cases e:zck a c;{rfl};{obtain⟨i,j⟩:=z4D (zk8 e<|zpF e) a c d;simp only[cT];exact zuB i j}
theorem zIq:vP 295 znL:=kF3 zfj zn zbF zb7 (zq []) zPE
def zB0 (N:Nat)(b:Host)(a c:Int):OA:=
 let e:=zk b;let d:=zc4 b a; (oN (zU b)<|oN (zcs b)<|cond (nB<|zcm b) (some [aH e,aB false])<|oN (zbl a<|ln b.Mons)<|cond (nB<|zch a<|ln b.Mons) (some [aH e,aB false])<|oN (zc2 b a)<|oN (zeC d c)<|cond (zdI d c) (oN (zdh (zdq d c).Guests)<|oN (inb a<|ln e.Mons)<|share (up e.Mons a ({ (ix e.Mons a zh) with Guests:=(zdW (zdq d c).Guests)}:Mon)) λf=>oN (inb a<|ln f)<|share (up f a ({ (ix f a zh) with Pending:=(zdq d c).Pending}:Mon)) λg=>some [aH ({e with Mons:=g}:Host),aB<|zdI d c])<|some [aH e,aB<|zdI d c])
theorem zPg (a:Host)(c d:Int)(i:zm1 a c d=true):∃N,zB0 N a c d=some [aH<|zf1 a c d,aB<|zgR a c d]:=by
 have f:=(zS a).1 (zK.1 i);refine⟨0,?_⟩;have g:=zph (h:=a) (m:=c) (cB:=zeC (zC a c) d) (B:=zdq (zC a c) d) (ok:=zdI (zC a c) d) (o0:=λH=>[.agg<|zbf H,.one<|.b false]) (o1:=λH=>[.agg<|zbf H,.one<|.b<|zdI (zC a c) d]) f
  (λe=>zbi (zeV f (zbt.1 e).2)) (λe=>zJq _ (zeV f (zbt.1 e).2)) (λe j=>(congrArg (zcJ a c)<|z3Y _ j).trans (zk2 (zbt.1 e).2))
 refine(show zB0 0 a c d=_ from g).trans ?_;unfold zf1 zgR zgb zfg;cases zck a c<;>rfl
theorem zH0:vP 79 znL:=kF3 zfj zn zbF zb7 (zq []) zPg
theorem zP5 {b:Bare}(a:SmB b):SmB (zdm b):=z7g a
theorem z6F {b:Bare}(a:zdB b=false):zdm b=b:=z5c a
theorem z7a {b c:Bare}(g:SameB b c)(h:Host)(m:Int):zcJ h m (zdm b)=zcJ h m (zdm c)/\zeo b=zeo c/\zdB b=zdB c:=by obtain⟨a,d,e,f⟩:=z5d g;exact⟨back_eq a d,e,f⟩
def zoP:Run:=rF2 dH dI λb c=>(zc2 b c,[aH<|zgA b c,aI<|zhx b c,aB<|zhy b c])
def zGf (N:Nat)(d:Host)(b:Int):OA:=
 let a:=zk d;let c:=ix a.Mons b zh; (oN (zU d)<|oN (zgX a b)<|cond (nB<|zgW a b) (some [aH a,aI<|-1,aB false])<|oN (inb b<|ln a.Mons)<|oN (zf7 c)<|oN (zbo<|zb3 c)<|oN (zf6 a b<|zdm<|zb3 c)<|some [aH<|ziP a b<|zdm<|zb3 c,aI<|zeo<|zb3 c,aB<|zdB<|zb3 c])
theorem zSS (a:Host)(c:Int)(l:zc2 a c=true):∃N,zGf N a c=some [aH<|zgA a c,aI<|zhx a c,aB<|zhy a c]:=by
 have e:=(zS a).1 (zK.1 l);refine⟨0,?_⟩;have f:=zpr (h:=a) (m:=c) (cB:=zbo (zdK<|ix a.Mons c mZ)) (B:=zdm (zdK<|ix a.Mons c mZ)) (o0:=λH=>[.agg<|zbf H,.one<|.i .i64<|-1,.one<|.b false]) (o1:=λH=>[.agg<|zbf H,.one<|.i .i64<|zeo<|zdK<|ix a.Mons c mZ,.one<|.b<|zdB<|zdK<|ix a.Mons c mZ]) e
  (λd=>zbi (zgg<|e.2.1.2 _<|zbM (zbt.1 d).2 _)) (λd=>zP5 (zgg<|e.2.1.2 _<|zbM (zbt.1 d).2 _))
 refine(show zGf 0 a c=_ from f).trans ?_;unfold zgA zhx zhy zgb zfg;cases d:zck a c;{rfl};{obtain⟨g,j,k⟩:=z7a (zk8 d<|zpF d) a c;simp only[cT];exact z9U g j k}
theorem zLt:vP 296 zoP:=kF2 zfj zn zbF zb7 (zq []) zSS
def zFT (N:Nat)(c:Host)(a:Int):OA:=
 let d:=zk c;let b:=zc4 c a; (oN (zU c)<|oN (zcs c)<|cond (nB<|zcm c) (some [aH d,aI<|-1,aB false])<|oN (zbl a<|ln c.Mons)<|cond (nB<|zch a<|ln c.Mons) (some [aH d,aI<|-1,aB false])<|oN (zc2 c a)<|oN (zbo b)<|cond (zdB b) (oN (zdh (zdm b).Guests)<|oN (inb a<|ln d.Mons)<|share (up d.Mons a ({ (ix d.Mons a zh) with Guests:=(zdW (zdm b).Guests)}:Mon)) λe=>oN (inb a<|ln e)<|share (up e a ({ (ix e a zh) with Pending:=(zdm b).Pending}:Mon)) λf=>some [aH ({d with Mons:=f}:Host),aI<|zeo b,aB<|zdB b])<|some [aH d,aI<|zeo b,aB<|zdB b])
theorem zSy (a:Host)(c:Int)(g:zc2 a c=true):∃N,zFT N a c=some [aH<|zgA a c,aI<|zhx a c,aB<|zhy a c]:=by
 have e:=(zS a).1 (zK.1 g);refine⟨0,?_⟩;have f:=zph (h:=a) (m:=c) (cB:=zbo (zC a c)) (B:=zdm (zC a c)) (ok:=zdB (zC a c)) (o0:=λH=>[.agg<|zbf H,.one<|.i .i64<|-1,.one<|.b false]) (o1:=λH=>[.agg<|zbf H,.one<|.i .i64<|zeo<|zC a c,.one<|.b<|zdB<|zC a c]) e
  (λd=>zbi (zeV e (zbt.1 d).2)) (λd=>zP5 (zeV e (zbt.1 d).2)) (λd j=>(congrArg (zcJ a c)<|z6F j).trans (zk2 (zbt.1 d).2))
 refine(show zFT 0 a c=_ from f).trans ?_;unfold zgA zhx zhy zgb zfg;cases zck a c<;>rfl
theorem zK9:vP 80 zoP:=kF2 zfj zn zbF zb7 (zq []) zSy
def z2I:zba:=[(287,zoS),(71,zoS),(289,zlu),(73,zlu),(290,zlw),(74,zlw),(291,zlv),(75,zlv),(292,zoQ),(76,zoQ),(295,znL),(79,znL),(296,zoP),(80,zoP)]++z2H
theorem zmz:zT z2I:=zi zLx (zi zLd<|zi zDg<|zi zC8<|zi zDi<|zi zDa<|zi zDh<|zi zC9<|zi zLu<|zi zLb<|zi zIq<|zi zH0<|zi zLt<|zi zK9 zfj)
def zjm (h:Host)(m t:Int):Host:=bif zb0 h then (cond (hasB m<|ln h.Mons) (cond (zl t 0 3) {h with Mons:=up h.Mons m {ix h.Mons m mZ with Traps:=t}} h) h) else h
def zrb (h:Host)(m t:Int):Bool:=bif zb0 h then (cond (hasB m<|ln h.Mons) (zl t 0 3) false) else false
@[simp] abbrev zm3 (h:Host)(m t:Int):Bool:=pc (zdP h)
@[simp] abbrev zh1 (h:Host)(m t:Int):Host:=zjm h m t
@[simp] abbrev zjf (h:Host)(m t:Int):Bool:=zrb h m t
def znP:Run:=rF3 dH dI dI λb c d=>(zm3 b c d,[aH<|zh1 b c d,aB<|zjf b c d])
def zCv (N:Nat)(d:Host)(b c:Int):OA:=
 let a:=zk d; (oN (zU d)<|oN (zcs a)<|cond (nB<|zcm a) (some [aH a,aB false])<|oN (zM b 0<|wsub .i64 (ln a.Mons) 1)<|cond (nB<|zl b 0<|wsub .i64 (ln a.Mons) 1) (some [aH a,aB false])<|oN (zM c 0 3)<|cond (nB<|zl c 0 3) (some [aH a,aB false])<|oN (inb b<|ln a.Mons)<|share (up a.Mons b ({ (ix a.Mons b zh) with Traps:=c}:Mon)) λe=>some [aH ({a with Mons:=e}:Host),aB true])
theorem zPI (a:Host)(b c:Int)(d:zm3 a b c=true):∃N,zCv N a b c=some [aH<|zh1 a b c,aB<|zjf a b c]:=by
 have g:=(zS a).1 (zK.1 d);refine⟨0,?_⟩;unfold zCv zh1 zjf zjm zrb oN nB;conv=>zeta
 refine must d (must rfl ?_);rw[show zcm (zk a)=zb0 a from rfl];cases e:zb0 a;{rfl};{refine zci rfl (must rfl ?_);rw[show zl b 0 (wsub .i64 (ln (zk a).Mons) 1)=hasB b (ln a.Mons) from zQy e b];cases f:hasB b (ln a.Mons);{rfl};{refine zci rfl (must rfl ?_);rw[show zl c 0 3=zl c 0 3 from rfl];cases h:zl c 0 3;{rfl};{exact zci rfl (must (zB f) rfl)}}}
theorem zIv:vP 329 znP:=kF3 zmz zn zbF zb7 (zq []) zPI
def zB6 (N:Nat)(b:Host)(c d:Int):OA:=
 let a:=zk b; (oN (zU b)<|oN (zcs b)<|cond (nB<|zcm b) (some [aH a,aB false])<|oN (zbl c<|ln b.Mons)<|cond (nB<|zch c<|ln b.Mons) (some [aH a,aB false])<|oN (zM d 0 3)<|cond (nB<|zl d 0 3) (some [aH a,aB false])<|oN (inb c<|ln a.Mons)<|share (up a.Mons c ({ (ix a.Mons c zh) with Traps:=d}:Mon)) λe=>some [aH ({a with Mons:=e}:Host),aB true])
theorem zPm (a:Host)(b c:Int)(d:zm3 a b c=true):∃N,zB6 N a b c=some [aH<|zh1 a b c,aB<|zjf a b c]:=by
 have g:=(zS a).1 (zK.1 d);refine⟨0,?_⟩;unfold zB6 zh1 zjf zjm zrb oN nB;conv=>zeta
 refine must d (must rfl ?_);rw[show zcm a=zb0 a from rfl];cases f:zb0 a;{rfl};{refine zci rfl (must rfl ?_);rw[show zch b (ln a.Mons)=hasB b (ln a.Mons) from rfl];cases e:hasB b (ln a.Mons);{rfl};{refine zci rfl (must rfl ?_);rw[show zl c 0 3=zl c 0 3 from rfl];cases h:zl c 0 3;{rfl};{exact zci rfl (must (zB e) rfl)}}}
theorem zH7:vP 85 znP:=kF3 zmz zn zbF zb7 (zq []) zPm
theorem ziE {h:Host}{m p:Int}:(zb9 h m p=true)↔zb0 h=true/\hasB m (ln h.Mons)=true/\hasB p 8=true:=by unfold zb9;cases zb0 h<;>cases hasB m (ln h.Mons)<;>simp
def zjr (h:Host)(m p:Int):Bool:=ieq (ix (ix h.Mons m mZ).Outer p sZ).Page (-1)
def znC (h:Host)(m p:Int):Host:=bif zb9 h m p then (cond (zjr h m p) h<|zeJ h m p) else h
def zta (h:Host)(m p:Int):Bool:=bif zb9 h m p then !zjr h m p else false
def zp8 (h:Host)(m p:Int):Host:=bif zb9 h m p then (cond (zjr h m p) (fetched h m p) h) else h
def zvt (h:Host)(m p:Int):Bool:=bif zb9 h m p then zjr h m p else false
@[simp] abbrev ziJ (h:Host)(m p:Int):Host:=znC h m p
@[simp] abbrev zkc (h:Host)(m p:Int):Bool:=zta h m p
@[simp] abbrev zjV (h:Host)(m p:Int):Host:=zp8 h m p
@[simp] abbrev zlA (h:Host)(m p:Int):Bool:=zvt h m p
theorem zMB {h:Host}(f:SmH h)(c:zb0 h=true){m p:Int}(d:hasB m (ln h.Mons)=true)(e:hasB p 8=true) :
 (cond (ieq (ix (ix h.Mons m mZ).Outer p sZ).Page<|-1) (ieq (ix (ix h.Mons m mZ).Outer p sZ).Rights 0) false)=zjr h m p:=by
 have a:=(zuj (ziB c _<|zbM d mZ) e).no;unfold zdJ at a;unfold zjr;rw[<- a];cases b:ieq (ix (ix h.Mons m mZ).Outer p sZ).Page (-1)<;>simp [noSlot,b]
theorem zwG {h:Host}(d:SmH h)(a:zb0 h=true){m p:Int}(b:hasB m (ln h.Mons)=true)(c:hasB p 8=true):inb p (ln (ix h.Mons m mZ).Outer)=true :=
 zB (by rw[ln,((zfy d a).1.2 _ (zbM b mZ)).1];exact c)
def zoU:Run:=rF3 dH dI dI λb c d=>(zfm b c d,[aH<|ziJ b c d,aB<|zkc b c d])
def zGo (N:Nat)(e:Host)(c b:Int):OA:=
 let a:=zk e;let d:=(ix a.Mons c zh).Outer; (oN (zU e)<|oN (ziM a c b)<|cond (nB<|zdV a c b) (some [aH a,aB false])<|oN (inb c<|ln a.Mons)<|oN (inb b<|ln d)<|oN zbV<|cond (cond (ieq (ix d b zV).Page zbk.Page) (ieq (ix d b zV).Rights zbk.Rights) false) (some [aH a,aB false])<|oN (zjY a c b)<|some [aH<|zm9 a c b,aB true])
theorem zS0 (a:Host)(b c:Int)(h:zfm a b c=true):∃N,zGo N a b c=some [aH<|ziJ a b c,aB<|zkc a b c]:=by
 have g:=(zS a).1 (zK.1 h);refine⟨0,?_⟩;unfold zGo ziJ zkc znC zta oN nB;conv=>zeta
 refine must h (must rfl ?_);rw[show zdV (zk a) b c=zb9 a b c from rfl];cases i:zb9 a b c;{rfl};{obtain⟨e,d,f⟩:=ziE.1 i;refine zci rfl (must (zB d)<|must (zwG g e d f) (must rfl ?_));rw[show (cond (ieq (ix (ix (zk a).Mons b zh).Outer c zV).Page zbk.Page) (ieq (ix (ix (zk a).Mons b zh).Outer c zV).Rights zbk.Rights) false)=zjr a b c from zMB g e d f];cases j:zjr a b c;{exact zci rfl (must (zbi ⟨(zfy g e).1,d,f⟩) rfl)};{rfl}}
theorem zLB:vP 326 zoU:=kF3 zmz zn zbF zb7 (zq []) zS0
def zFY (N:Nat)(a:Host)(b c:Int):OA:=
 let d:=(ix a.Mons b zh).Outer; (oN (zU a)<|oN (ziM a b c)<|cond (nB<|zdV a b c) (some [aH<|zk a,aB false])<|oN (inb b<|ln a.Mons)<|oN (inb c<|ln d)<|cond (ieq (ix d c zV).Page<|-1) (some [aH<|zk a,aB false])<|oN (zjY (zk a) b c)<|some [aH<|zm9 (zk a) b c,aB true])
theorem zSD (a:Host)(b c:Int)(e:zfm a b c=true):∃N,zFY N a b c=some [aH<|ziJ a b c,aB<|zkc a b c]:=by
 have h:=(zS a).1 (zK.1 e);refine⟨0,?_⟩;unfold zFY ziJ zkc znC zta oN nB;conv=>zeta
 refine must e (must rfl ?_);rw[show zdV a b c=zb9 a b c from rfl];cases i:zb9 a b c;{rfl};{obtain⟨f,d,g⟩:=ziE.1 i;refine zci rfl (must (zB d)<|must (zwG h f d g) ?_);rw[show ieq (ix (ix a.Mons b zh).Outer c zV).Page (-1)=zjr a b c from rfl];cases j:zjr a b c;{exact zci rfl (must (zbi ⟨(zfy h f).1,d,g⟩) rfl)};{rfl}}
theorem zLg:vP 83 zoU:=kF3 zmz zn zbF zb7 (zq []) zSD
def zqp:Run:=rF3 dH dI dI λb c d=>(zfm b c d,[aH<|zjV b c d,aB<|zlA b c d])
def zJ8 (N:Nat)(e:Host)(c b:Int):OA:=
 let a:=zk e;let d:=(ix a.Mons c zh).Outer; (oN (zU e)<|oN (ziM a c b)<|cond (nB<|zdV a c b) (some [aH a,aB false])<|oN (inb c<|ln a.Mons)<|oN (inb b<|ln d)<|oN zbV<|cond (nB<|cond (ieq (ix d b zV).Page zbk.Page) (ieq (ix d b zV).Rights zbk.Rights) false) (some [aH a,aB false])<|oN (zk7 a c b)<|some [aH<|zmd a c b,aB true])
theorem zVC (a:Host)(b c:Int)(h:zfm a b c=true):∃N,zJ8 N a b c=some [aH<|zjV a b c,aB<|zlA a b c]:=by
 have g:=(zS a).1 (zK.1 h);refine⟨0,?_⟩;unfold zJ8 zjV zlA zp8 zvt oN nB;conv=>zeta
 refine must h (must rfl ?_);rw[show zdV (zk a) b c=zb9 a b c from rfl];cases i:zb9 a b c;{rfl};{obtain⟨e,d,f⟩:=ziE.1 i;refine zci rfl (must (zB d)<|must (zwG g e d f) (must rfl ?_));rw[show (cond (ieq (ix (ix (zk a).Mons b zh).Outer c zV).Page zbk.Page) (ieq (ix (ix (zk a).Mons b zh).Outer c zV).Rights zbk.Rights) false)=zjr a b c from zMB g e d f];cases j:zjr a b c;{rfl};{exact zci rfl (must (zbi ⟨zfy g e,d,f⟩) rfl)}}
theorem zOF:vP 327 zqp:=kF3 zmz zn zbF zb7 (zq []) zVC
def zJK (N:Nat)(a:Host)(b c:Int):OA:=
 let d:=(ix a.Mons b zh).Outer; (oN (zU a)<|oN (ziM a b c)<|cond (nB<|zdV a b c) (some [aH<|zk a,aB false])<|oN (inb b<|ln a.Mons)<|oN (inb c<|ln d)<|cond (ine (ix d c zV).Page<|-1) (some [aH<|zk a,aB false])<|oN (zk7 (zk a) b c)<|some [aH<|zmd (zk a) b c,aB true])
theorem zVg (a:Host)(b c:Int)(e:zfm a b c=true):∃N,zJK N a b c=some [aH<|zjV a b c,aB<|zlA a b c]:=by
 have h:=(zS a).1 (zK.1 e);refine⟨0,?_⟩;unfold zJK zjV zlA zp8 zvt oN nB;conv=>zeta
 refine must e (must rfl ?_);rw[show zdV a b c=zb9 a b c from rfl];cases i:zb9 a b c;{rfl};{obtain⟨f,d,g⟩:=ziE.1 i;refine zci rfl (must (zB d)<|must (zwG h f d g) ?_);rw[show ine (ix (ix a.Mons b zh).Outer c zV).Page (-1) = !zjr a b c from zjA _ _];cases j:zjr a b c;{rfl};{exact zci rfl (must (zbi ⟨zfy h f,d,g⟩) rfl)}}
theorem zOe:vP 84 zqp:=kF3 zmz zn zbF zb7 (zq []) zVg
def z2J:zba:=[(329,znP),(85,znP),(326,zoU),(83,zoU),(327,zqp),(84,zqp)]++z2I
theorem zCR:zT z2J:=zi zIv (zi zH7<|zi zLB<|zi zLg<|zi zOF<|zi zOe zmz)
theorem z2c {x:Mon}{b:Bare}(h:zfx x)(a:zmt b.Guests):zfx (zr3 x b):=⟨h.1,h.2.1,h.2.2.1,a,h.2.2.2.2⟩
theorem zAr {h:Host}{m:Int}{b:Bare}(a:SmH h)(d:hasB m (ln h.Mons)=true)(c:zmt b.Guests):SmH (zcJ h m b):=
 ⟨a.1,zj0 a.2.1<|z2c (a.2.1.2 _<|zbM d _) c,a.2.2⟩
theorem zHs {h:Host}{m:Int}(b:Bare)(a:hasB m (ln h.Mons)=true):hasB m (ln (zcJ h m b).Mons)=true:=by show hasB m (ln<|up h.Mons m _)=true;rw[ln,zgv];exact a
theorem z9L {h:Host}{m:Int}(b:Bare)(c:hasB m (ln h.Mons)=true):ix (zcJ h m b).Mons m mZ=zr3 (ix h.Mons m mZ) b:=by obtain⟨k,rfl,a⟩:=zeG (n:=h.Mons.length) c;exact zd6 a _ _
def zCZ (h:Host)(m g p:Int):Host:=⟨h.Memory,up h.Mons m {ix h.Mons m mZ with Tables:=up (ix h.Mons m mZ).Tables g (zcd (ix (ix h.Mons m mZ).Tables g kZ) p)},zdg h.Buffer (zeW m g) p,zdg h.IoBuffer (zeW m g) p⟩
def z3m (H:Host)(m g p:Int)(o:Host->Ans):OA:=
 bif inb m (ln H.Mons) then (bif inb m (ln H.Mons) then (bif inb g (ln (ix H.Mons m mZ).Tables) then (bif zc8 (ix (ix H.Mons m mZ).Tables g kZ) p then (bif inb g (ln (ix H.Mons m mZ).Tables) then (share (up H.Mons m {ix H.Mons m mZ with Tables:=up (ix H.Mons m mZ).Tables g (zcd (ix (ix H.Mons m mZ).Tables g kZ) p)}) λx=>
  (cond (zh2 m g) (cond (zd9 H.Buffer (zeW m g) p) (cond (zh2 m g) (cond (zd9 H.IoBuffer (zeW m g) p) (some<|o ⟨H.Memory,x,zdg H.Buffer (zeW m g) p,zdg H.IoBuffer (zeW m g) p⟩) none) none) none) none)) else none) else none) else none) else none) else none
theorem zRj {H:Host}{m g p:Int}{o:Host->Ans}(b:SmH H)(a:hasB m (ln H.Mons)=true)(hg:hasB g (ln (ix H.Mons m mZ).Tables)=true):z3m H m g p o=some (o<|zCZ H m g p):=by have c:=b.2.1.2 _ (zbM a mZ);unfold z3m;exact must (zB a) (must (zB a)<|must (zB hg)<|must (zbi<|c.2.2.2.2.2.2 _<|zbM hg _)<|must (zB hg)<|shr (must rfl (must (zbi b.2.2.1) (must rfl (must (zbi b.2.2.2) rfl)))))
def zjM (h:Host)(m g p:Int):Host:=bif zck h m then (cond (zb2 (zC h m) g<|hasB p 4) (zCZ (zcJ h m<|chg (zC h m) g (hasB p 4)<|zev (gAt (zC h m) g) p) m g p) h) else h
@[simp] abbrev zlV (h:Host)(m g p:Int):Bool:=pc (zdP h)
@[simp] abbrev zg8 (h:Host)(m g p:Int):Host:=zjM h m g p
theorem zYU {h:Host}{m:Int}(a:hasB m (ln h.Mons)=true):(zC h m).Guests=(ix h.Mons m mZ).Guests:=by unfold zC;rw[a];rfl
theorem zC0 {h:Host}{m g:Int}{k:Bool}(i:SmH h)(e:zck h m=true)(b:Bare)(a:zb2 (zC h m) g k=true):hasB g (ln (ix (zcJ h m b).Mons m mZ).Tables)=true:=by obtain⟨f,c⟩:=zbt.1 e;rw[z9L b c];show hasB g (ln (ix h.Mons m mZ).Tables)=true;rw[ln,((zfy i f).1.2 _ (zbM c mZ)).2.2.2,<- zYU c];unfold zb2 at a;cases d:zbZ (zC h m) g;{rw [d]at a;cases a};{exact(zeM.1 d).2}
def zmp:Run:=rF4 dH dI dI dI λb c d e=>(zlV b c d e,[aH<|zg8 b c d e,aB<|zf9 b c d e])
def zAU (N:Nat)(i:Host)(a b c:Int):OA:=
 let h:=zkS a b;let e:=zk i;let g:=ix e.Mons a zh;let d:=ziP e a<|zdj (zb3 g) b c;let f:=ix d.Mons a zh;let j:=ix f.Tables b zeL; (oN (zU i)<|oN (zgX e a)<|cond (nB<|zgW e a) (some [aH e,aB false])<|oN (inb a<|ln e.Mons)<|oN (zf7 g)<|oN (zlT (zb3 g) b c)<|cond (nB<|zeZ (zb3 g) b c) (some [aH e,aB false])<|oN (zf6 e a<|zdj (zb3 g) b c)<|oN (inb a<|ln d.Mons)<|oN (inb a<|ln d.Mons)<|oN (inb b<|ln f.Tables)<|oN (zc8 j c)<|oN (inb b<|ln f.Tables)<|share (up d.Mons a ({f with Tables:=(up f.Tables b<|zeI j c)}:Mon)) λk=>oN (zh2 a b)<|oN (zd9 d.Buffer h c)<|oN (zh2 a b)<|oN (zd9 d.IoBuffer h c)<|some [aH (⟨d.Memory,k,zft d.Buffer h c,zft d.IoBuffer h c⟩:Host),aB true])
theorem zMs (a:Host)(c d e:Int)(j:zbR big [aH a,aI c,aI d,aI e])(q:zlV a c d e=true):∃N,zAU N a c d e=some [aH<|zg8 a c d e,aB<|zf9 a c d e]:=by
 have k:=(zS a).1 (zK.1 q);refine⟨0,?_⟩;unfold zAU zg8 zf9 zjM zfg oN nB;conv=>zeta
 refine must q (must rfl ?_);rw[show zgW (zk a) c=zck a c from rfl];cases h:zck a c;{rfl};{obtain⟨v,f⟩:=zbt.1 h;have r:=k.2.1.2 _ (zbM f mZ);have l:=zgg r;have i:=zk8 h (zpF h);have u:zb2 (zdK<|ix a.Mons c mZ) d (hasB e 4)=zb2 (zC a c) d (hasB e 4):=znm i _ _;have s:zcJ a c (zdj (zdK<|ix a.Mons c mZ) d e)=zcJ a c (chg (zC a c) d (hasB e 4)<|zev (gAt (zC a c) d) e):=(by rw[<- i.at];exact zrp i _ _ _ _ _);refine zci rfl (must (zB f)<|must (zbi r)<|must (zbi l) ?_);rw[show zeZ (zb3<|ix (zk a).Mons c zh) d e=zb2 (zC a c) d (hasB e 4) from u];cases t:zb2 (zC a c) d (hasB e 4);{rfl};{have j:SmB (zdj (zdK<|ix a.Mons c mZ) d e):=zpD l (zuz _<|zgs _ l);refine zci rfl (must (zbi ⟨f,j.2.1⟩) ?_);have n:=zRj (H:=zcJ a c (zdj (zdK<|ix a.Mons c mZ) d e)) (m:=c) (g:=d) (p:=e) (o:=λH=>[.agg<|zbf H,.one<|.b true]) (zAr k f j.2.1) (zHs _ f) (zC0 k h _ t);refine(show _=_ from n).trans ?_;rw[s];rfl}}
theorem zFb:vP 288 zmp:=hF4 zCR zn zbF zb7 (zq []) zMs
def zAF (N:Nat)(e:Host)(a d c:Int):OA:=
 let l:=zh2 a d;let m:=zdj (zc4 e a) d c;let f:=zkS a d;let b:=zk e;let n:=inb a<|ln b.Mons;let g:=zeZ (zc4 e a) d c;let h:=ix b.Mons a zh;let q:=ix h.Tables d zeL; (oN (zU e)<|oN (zcs e)<|cond (nB<|zcm e) (some [aH b,aB false])<|oN (zbl a<|ln e.Mons)<|cond (nB<|zch a<|ln e.Mons) (some [aH b,aB false])<|oN (zc2 e a)<|oN (zlT (zc4 e a) d c)<|cond g (oN (zdh m.Guests)<|oN n<|share (up b.Mons a ({h with Guests:=(zdW m.Guests)}:Mon)) λi=>oN (inb a<|ln i)<|share (up i a ({ (ix i a zh) with Pending:=m.Pending}:Mon)) (λj=>let k:=ix j a zh;let p:=ix k.Tables d zeL; (cond g (oN (inb a<|ln j)<|oN (inb a<|ln j)<|oN (inb d<|ln k.Tables)<|oN (zc8 p c)<|oN (inb d<|ln k.Tables)<|share (up j a ({k with Tables:=(up k.Tables d<|zeI p c)}:Mon)) λr=>oN l<|oN (zd9 b.Buffer f c)<|oN l<|oN (zd9 b.IoBuffer f c)<|some [aH (⟨b.Memory,r,zft b.Buffer f c,zft b.IoBuffer f c⟩:Host),aB g])<|some [aH ({b with Mons:=j}:Host),aB g])))<|cond g (oN n<|oN n<|oN (inb d<|ln h.Tables)<|oN (zc8 q c)<|oN (inb d<|ln h.Tables)<|share (up b.Mons a ({h with Tables:=(up h.Tables d<|zeI q c)}:Mon)) λi=>oN l<|oN (zd9 b.Buffer f c)<|oN l<|oN (zd9 b.IoBuffer f c)<|some [aH (⟨b.Memory,i,zft b.Buffer f c,zft b.IoBuffer f c⟩:Host),aB g])<|some [aH b,aB g])
theorem zMd (a:Host)(c d e:Int)(h:zbR big [aH a,aI c,aI d,aI e])(i:zlV a c d e=true):∃N,zAF N a c d e=some [aH<|zg8 a c d e,aB<|zf9 a c d e]:=by
 have k:=(zS a).1 (zK.1 i);refine⟨0,?_⟩;unfold zAF zg8 zf9 zjM zfg oN nB;conv=>zeta
 refine must i (must rfl ?_);rw[show zcm a=zb0 a from rfl];cases j:zb0 a;{unfold zck;rw[j];rfl};{refine zci rfl (must rfl ?_);rw[show zch c (ln a.Mons)=hasB c (ln a.Mons) from rfl];cases f:hasB c (ln a.Mons);{unfold zck;rw[j,f];rfl};{have q:zck a c=true:=zbt.2 ⟨j,f⟩;have l:=zeV k f;have h:SmB (zdj (zC a c) d e):=zpD l (zuz _<|zgs _ l);rw[q];refine zci rfl (must i<|must (zbi l) ?_);rw[show zeZ (zc4 a c) d e=zb2 (zC a c) d (hasB e 4) from rfl];cases t:zb2 (zC a c) d (hasB e 4);{rfl};{obtain⟨r,s⟩:=zNy f (zdj (zC a c) d e);refine must rfl (must (zbi h.2.1)<|must (zB f)<|shr<|must r<|shr ?_);rw[show zh=mZ from rfl,s];have n:=zRj (H:=zcJ a c (zdj (zC a c) d e)) (m:=c) (g:=d) (p:=e) (o:=λH=>[.agg<|zbf H,.one<|.b true]) (zAr k f h.2.1) (zHs _ f) (zC0 k q _ t);exact must rfl (show _=_ from n)}}}
theorem zEX:vP 72 zmp:=hF4 zCR zn zbF zb7 (zq []) zMd
def z2K:zba:=[(288,zmp),(72,zmp)]++z2J
theorem zCS:zT z2K:=zi zFb (zi zEX zCR)
def zWp (h:Host)(m p c v:Int):Host:={mended h m p 2 with Memory:=zbW (mended h m p 2).Memory (ix (ix (mended h m p 2).Mons m mZ).Outer p sZ).Page c v}
def zdO (h:Host)(m p c v:Int):Bool:=bif zb9 h m p then (cond (hasB c 4) (zl v 0 99) false) else false
def zli (h:Host)(m p c v:Int):Host:=bif zdO h m p c v then zWp h m p c v else h
@[simp] abbrev zm0 (h:Host)(m p c v:Int):Bool:=pc (zdP h)
@[simp] abbrev zjb (h:Host)(m p c v:Int):Host:=zli h m p c v
@[simp] abbrev zjc (h:Host)(m p c v:Int):Bool:=zdO h m p c v
def z9w (H:Host)(m p c v:Int)(o:Host->Ans):OA:=
 bif zgG H m p 2 then (cond (inb m<|ln (mended H m p 2).Mons) (cond (inb p<|ln (ix (mended H m p 2).Mons m mZ).Outer) (cond (zeh (mended H m p 2).Memory (ix (ix (mended H m p 2).Mons m mZ).Outer p sZ).Page c v) (some<|o<|zWp H m p c v) none) none) none) else none
theorem zWo {h:Host}{m p c v:Int}{o:Host->Ans}(j:SmH h)(i:zb9 h m p=true):z9w h m p c v o=some (o<|zWp h m p c v):=by obtain⟨g,b,a⟩:=ziE.1 i;have f:=zfy j g;obtain⟨d,e⟩:=zvS (n:=2) f b a;unfold z9w;refine must (zbi ⟨f,b,a,.inr rfl,zuj (ziB g _<|zbM b mZ) a⟩) (must (zB e)<|must (zB ?_) (must (zbi d.1.1) rfl));rw[ln,(d.2 _<|zbM e mZ).1];exact a
def znK:Run:=rF5 dH dI dI dI dI λb c d e f=>(zm0 b c d e f,[aH<|zjb b c d e f,aB<|zjc b c d e f])
def zCq (N:Nat)(g:Host)(b c:Int)(e f:Int):OA:=
 let a:=zk g;let d:=zgr a b c 2;let h:=(ix d.Mons b zh).Outer;let i:=(ix h c zV).Page; (oN (zU g)<|oN (ziM a b c)<|cond (nB<|zdV a b c) (some [aH a,aB false])<|oN (zM e 0 3)<|cond (nB<|zl e 0 3) (some [aH a,aB false])<|oN (zM f 0 99)<|cond (nB<|zl f 0 99) (some [aH a,aB false])<|oN (zgG a b c 2)<|oN (inb b<|ln d.Mons)<|oN (inb c<|ln h)<|oN (zeh d.Memory i e f)<|some [aH ({d with Memory:=(zeE d.Memory i e f)}:Host),aB true])
theorem zPD (d:Host)(f g:Int)(a e:Int)(i:zm0 d f g a e=true):∃N,zCq N d f g a e=some [aH<|zjb d f g a e,aB<|zjc d f g a e]:=by
 have k:=(zS d).1 (zK.1 i);refine⟨0,?_⟩;unfold zCq zjb zjc zli zdO oN nB;conv=>zeta
 refine must i (must rfl ?_);rw[show zdV (zk d) f g=zb9 d f g from rfl];cases j:zb9 d f g;{rfl};{refine zci rfl (must rfl ?_);rw[show zl a 0 3=hasB a 4 from zbce a];cases l:hasB a 4;{rfl};{refine zci rfl (must rfl ?_);rw[show zl e 0 99=zl e 0 99 from rfl];cases m:zl e 0 99;{rfl};{have h:=zWo (c:=a) (v:=e) (o:=λH=>[.agg<|zbf H,.one<|.b true]) k j;exact zci rfl (show _=_ from h)}}}
theorem zIp:vP 294 znK:=kF5 zCS zn zbF zb7 (zq []) zPD
theorem z4m {h:Host}{m p c v:Int}(a:hasB m (ln h.Mons)=true):zcJ h m (zoK (zC h m) p c v)=h:=by have e:zcJ h m (zoK (zC h m) p c v)=zcJ h m (zC h m):=(by refine back_eq ?_ ?_<;>unfold zoK<;>cases zkG (zC h m) p c v<;>rfl);rw[e];exact zk2 a
theorem zbaL {h:Host}{m p c v:Int}(a:zb0 h=true)(b:hasB m (ln h.Mons)=true):zkG (zC h m) p c v=zdO h m p c v:=by unfold zkG zdO zML zb9;rw[zr4 a b,a,b];cases hasB p 8<;>rfl
def zBZ (N:Nat)(c:Host)(a b:Int)(e f:Int):OA:=
 let l:=zhQ (zc4 c a) b e f;let d:=zk c;let i:=zgr d a b 2;let n:=(ix i.Mons a zh).Outer;let q:=(ix n b zV).Page;let g:=zkz (zc4 c a) b e f; (oN (zU c)<|oN (zcs c)<|cond (nB<|zcm c) (some [aH d,aB false])<|oN (zbl a<|ln c.Mons)<|cond (nB<|zch a<|ln c.Mons) (some [aH d,aB false])<|oN (zc2 c a)<|oN (zvk (zc4 c a) b e f)<|cond g (oN (zdh l.Guests)<|oN (inb a<|ln d.Mons)<|share (up d.Mons a ({ (ix d.Mons a zh) with Guests:=(zdW l.Guests)}:Mon)) λj=>oN (inb a<|ln j)<|share (up j a ({ (ix j a zh) with Pending:=l.Pending}:Mon)) (λr=>let k:=({d with Mons:=r}:Host);let h:=zgr k a b 2;let m:=(ix h.Mons a zh).Outer;let p:=(ix m b zV).Page; (cond g (oN (zgG k a b 2)<|oN (inb a<|ln h.Mons)<|oN (inb b<|ln m)<|oN (zeh h.Memory p e f)<|some [aH ({h with Memory:=(zeE h.Memory p e f)}:Host),aB g])<|some [aH k,aB g])))<|cond g (oN (zgG d a b 2)<|oN (inb a<|ln i.Mons)<|oN (inb b<|ln n)<|oN (zeh i.Memory q e f)<|some [aH ({i with Memory:=(zeE i.Memory q e f)}:Host),aB g])<|some [aH d,aB g])
theorem zPf (a:Host)(d e:Int)(f g:Int)(p:zbR big [aH a,aI d,aI e,aI f,aI g])(k:zm0 a d e f g=true):∃N,zBZ N a d e f g=some [aH<|zjb a d e f g,aB<|zjc a d e f g]:=by
 have q:=(zS a).1 (zK.1 k);refine⟨0,?_⟩;unfold zBZ zjb zjc zli oN nB;conv=>zeta
 refine must k (must rfl ?_);rw[show zcm a=zb0 a from rfl];cases m:zb0 a;{unfold zdO zb9;rw[m];rfl};{refine zci rfl (must rfl ?_);rw[show zch d (ln a.Mons)=hasB d (ln a.Mons) from rfl];cases h:hasB d (ln a.Mons);{unfold zdO zb9;rw[m,h];rfl};{have i:=zeV q h;have p:SmB (zhQ (zC a d) e f g):=(by show SmB (zoK _ _ _ _);unfold zoK;cases zkG (zC a d) e f g;{exact i};{exact⟨zvW i.1,i.2⟩});refine zci rfl (must k<|must (zbi i) ?_);rw[show zkz (zc4 a d) e f g=zdO a d e f g from zbaL m h];cases l:zdO a d e f g;{rfl};{have t:zb9 a d e=true:=(by unfold zdO at l;cases u:zb9 a d e;{rw [u]at l;cases l};{rfl});obtain⟨r,s⟩:=zNy h (zhQ (zC a d) e f g);refine must rfl (must (zbi p.2.1)<|must (zB h)<|shr<|must r<|shr ?_);rw[show zh=mZ from rfl,s];have j:({zk a with Mons:=up (zk a).Mons d (zr3 (ix (zk a).Mons d mZ)<|zhQ (zC a d) e f g)}:Host)=a:=z4m h;have n:=zWo (c:=f) (v:=g) (o:=λH=>[.agg<|zbf H,.one<|.b true]) q t;refine must rfl ?_;rw[j];exact(show _=_ from n)}}}
theorem zHZ:vP 78 znK:=hF5 zCS zn zbF zb7 (zq []) zPf
def z2L:zba:=[(294,znK),(78,znK)]++z2K
theorem zQ7:zT z2L:=zi zIp (zi zHZ zCS)
@[simp] abbrev zpY (h:Host)(m g b a:Int):Host:=(lookOf h h.IoBuffer m g b a true).1
@[simp] abbrev zkB (h:Host)(m g b a:Int):Int:=(lookOf h h.IoBuffer m g b a true).2.1
@[simp] abbrev zkC (h:Host)(m g b a:Int):Bool:=(lookOf h h.IoBuffer m g b a true).2.2
def zyU:Run:=rF5 dH dI dI dI dI λb c d e f=>(zlk b c d e f,[aH<|zpY b c d e f,aI<|zkB b c d e f,aB<|zkC b c d e f])
def zB3 (N:Nat)(a:Host)(b c:Int)(d e:Int):OA:=
 (oN (zue a b c d e true)<|some [aH<|zt8 a b c d e true,aI<|zt9 a b c d e true,aB<|zua a b c d e true])
theorem zPj (a:Host)(b c:Int)(d e:Int)(f:zlk a b c d e=true):∃N,zB3 N a b c d e=some [aH<|zpY a b c d e,aI<|zkB a b c d e,aB<|zkC a b c d e]:=by refine⟨0,?_⟩;unfold zB3 oN;exact must f rfl
theorem zH3:vP 167 zyU:=kF5 zQ7 zn zbF zb7 (zq []) zPj
def z2M:zba:=[(167,zyU)]++z2L
theorem zsP:zT z2M:=zi zH3 zQ7
theorem zMv (h:Host)(b:List Entry)(m g c a:Int)(e:Bool):(lookOf h b m g c a e).2.2=zb1 h m g c a:=by cases d:zb1 h m g c a;{rw [ziW d]};{rw [zI4 d];unfold zhw zfB;generalize zjz b m g c a=x;cases x;{generalize zfo _ m g c a=y;cases y<;>rfl};{rfl}}
theorem zZA {h:Host}{m g c a:Int}(b:List Entry)(i:Bool)(f:SmH h)(d:zb1 h m g c a=true):SmM (lookOf h b m g c a i).1.Memory:=by have hg:zcb h m g=true:=(by unfold zb1 at d;cases e:zcb h m g;{rw [e]at d;cases d};{rfl});exact(zuH f hg).shape.1.1
def zDn (h:Host)(m g a n:Int):Host×Int×Bool:=lookOf h h.IoBuffer m g (zbn a) n true
def zg3 (h:Host)(m g a v:Int):Bool:=bif zl a 0 15 then (cond (zl v 0 99) (zb1 h m g (zbn a) 2) false) else false
def znu (h:Host)(m g a v:Int):Host:=bif zg3 h m g a v then { (zDn h m g a 2).1 with Memory:=zbW (zDn h m g a 2).1.Memory (zDn h m g a 2).2.1 (zd7 a) v} else h
def zf8 (h:Host)(m g a:Int):Bool:=bif zl a 0 15 then zb1 h m g (zbn a) 1 else false
def zlj (h:Host)(m g a:Int):Host:=bif zf8 h m g a then (zDn h m g a 1).1 else h
def zmG (h:Host)(m g a:Int):Int:=bif zf8 h m g a then cellAt (zDn h m g a 1).1.Memory (zDn h m g a 1).2.1 (zd7 a) else 0
@[simp] abbrev zow (h:Host)(m g a v:Int):Bool:=pc (zdP h)
@[simp] abbrev zka (h:Host)(m g a v:Int):Host:=znu h m g a v
@[simp] abbrev zkb (h:Host)(m g a v:Int):Bool:=zg3 h m g a v
@[simp] abbrev zm2 (h:Host)(m g a:Int):Bool:=pc (zdP h)
@[simp] abbrev zhZ (h:Host)(m g a:Int):Host:=zlj h m g a
@[simp] abbrev zjd (h:Host)(m g a:Int):Int:=zmG h m g a
@[simp] abbrev zje (h:Host)(m g a:Int):Bool:=zf8 h m g a
def zoR:Run:=rF5 dH dI dI dI dI λb c d e f=>(zow b c d e f,[aH<|zka b c d e f,aB<|zkb b c d e f])
def zGi (N:Nat)(g:Host)(c d:Int)(a e:Int):OA:=
 let b:=zk g;let h:=zme b b.IoBuffer c d (zby a) 2 true;let f:=zgI b b.IoBuffer c d (zby a) 2 true; (oN (zU g)<|oN (zM a 0 15)<|cond (nB<|zl a 0 15) (some [aH b,aB false])<|oN (zM e 0 99)<|cond (nB<|zl e 0 99) (some [aH b,aB false])<|oN (zbQ a)<|oN (zmf b b.IoBuffer c d (zby a) 2 true)<|cond (nB<|ziO b b.IoBuffer c d (zby a) 2 true) (some [aH f,aB false])<|oN (zbQ a)<|oN (zeh f.Memory h (zc7 a) e)<|some [aH ({f with Memory:=(zeE f.Memory h (zc7 a) e)}:Host),aB true])
theorem zSV (a:Host)(c d:Int)(b e:Int)(f:zow a c d b e=true):∃N,zGi N a c d b e=some [aH<|zka a c d b e,aB<|zkb a c d b e]:=by
 have h:=(zS a).1 (zK.1 f);refine⟨0,?_⟩;unfold zGi zka zkb znu zg3 oN nB;conv=>zeta
 refine must f (must rfl ?_);rw[show zl b 0 15=zl b 0 15 from rfl];cases i:zl b 0 15;{rfl};{refine zci rfl (must rfl ?_);rw[show zl e 0 99=zl e 0 99 from rfl];cases j:zl e 0 99;{rfl};{refine zci rfl (must rfl (must f ?_));rw[show ziO (zk a) (zk a).IoBuffer c d (zby b) 2 true=zb1 a c d (zbn b) 2 from zMv _ _ _ _ _ _ _];cases g:zb1 a c d (zbn b) 2;{rw [show zgI (zk a) (zk a).IoBuffer c d (zby b) 2 true=a from congrArg Prod.fst (ziW g)];rfl};{exact zci rfl (must rfl (must (zbi<|zZA a.IoBuffer true h g) rfl))}}}
theorem zLv:vP 297 zoR:=kF5 zsP zn zbF zb7 (zq []) zSV
def zFW (N:Nat)(a:Host)(c d:Int)(b e:Int):OA:=
 let f:=zpY a c d (zby b) 2; (oN (zbQ b)<|oN (zlk a c d (zby b) 2)<|oN (zM b 0 15)<|cond (nB<|zl b 0 15) (oN (zU a)<|some [aH<|zk a,aB false])<|oN (zM e 0 99)<|cond (nB<|zl e 0 99) (oN (zU a)<|some [aH<|zk a,aB false])<|cond (nB<|zkC a c d (zby b) 2) (oN (zU a)<|some [aH<|zk a,aB false])<|oN (zbQ b)<|oN (zeh f.Memory (zkB a c d (zby b) 2) (zc7 b) e)<|some [aH ({f with Memory:=(zeE f.Memory (zkB a c d (zby b) 2) (zc7 b) e)}:Host),aB true])
theorem zSB (b:Host)(c d:Int)(a e:Int)(f:zow b c d a e=true):∃N,zFW N b c d a e=some [aH<|zka b c d a e,aB<|zkb b c d a e]:=by
 have h:=(zS b).1 (zK.1 f);refine⟨0,?_⟩;unfold zFW zka zkb znu zg3 oN nB;conv=>zeta
 refine must rfl (must f (must rfl ?_));rw[show zl a 0 15=zl a 0 15 from rfl];cases i:zl a 0 15;{exact must rfl (must f rfl)};{refine zci rfl (must rfl ?_);rw[show zl e 0 99=zl e 0 99 from rfl];cases j:zl e 0 99;{exact must rfl (must f rfl)};{refine zci rfl ?_;rw[show zkC b c d (zby a) 2=zb1 b c d (zbn a) 2 from zMv _ _ _ _ _ _ _];cases g:zb1 b c d (zbn a) 2;{exact must rfl (must f rfl)};{exact zci rfl (must rfl (must (zbi<|zZA b.IoBuffer true h g) rfl))}}}
theorem zLc:vP 81 zoR:=kF5 zsP zn zbF zb7 (zq []) zSB
def znM:Run:=rF4 dH dI dI dI λb c d e=>(zm2 b c d e,[aH<|zhZ b c d e,aI<|zjd b c d e,aB<|zje b c d e])
def zCs (N:Nat)(f:Host)(c d a:Int):OA:=
 let b:=zk f;let g:=zme b b.IoBuffer c d (zby a) 1 true;let e:=zgI b b.IoBuffer c d (zby a) 1 true; (oN (zU f)<|oN (zM a 0 15)<|cond (nB<|zl a 0 15) (some [aH b,aI 0,aB false])<|oN (zbQ a)<|oN (zmf b b.IoBuffer c d (zby a) 1 true)<|cond (nB<|ziO b b.IoBuffer c d (zby a) 1 true) (some [aH e,aI 0,aB false])<|oN (zbQ a)<|oN (zfJ e.Memory g<|zc7 a)<|some [aH e,aI<|zgN e.Memory g<|zc7 a,aB true])
theorem zPF (a:Host)(c d b:Int)(e:zm2 a c d b=true):∃N,zCs N a c d b=some [aH<|zhZ a c d b,aI<|zjd a c d b,aB<|zje a c d b]:=by
 have h:=(zS a).1 (zK.1 e);refine⟨0,?_⟩;unfold zCs zhZ zjd zje zlj zmG zf8 oN nB;conv=>zeta
 refine must e (must rfl ?_);rw[show zl b 0 15=zl b 0 15 from rfl];cases g:zl b 0 15;{rfl};{refine zci rfl (must rfl (must e ?_));rw[show ziO (zk a) (zk a).IoBuffer c d (zby b) 1 true=zb1 a c d (zbn b) 1 from zMv _ _ _ _ _ _ _];cases f:zb1 a c d (zbn b) 1;{rw [show zgI (zk a) (zk a).IoBuffer c d (zby b) 1 true=a from congrArg Prod.fst (ziW f)];rfl};{exact zci rfl (must rfl (must rfl rfl))}}
theorem zIr:vP 298 znM:=kF4 zsP zn zbF zb7 (zq []) zPF
def zB1 (N:Nat)(b:Host)(c d a:Int):OA:=
 let e:=zpY b c d (zby a) 1; (oN (zbQ a)<|oN (zlk b c d (zby a) 1)<|oN (zM a 0 15)<|cond (nB<|zl a 0 15) (oN (zU b)<|some [aH<|zk b,aI 0,aB false])<|cond (nB<|zkC b c d (zby a) 1) (oN (zU b)<|some [aH<|zk b,aI 0,aB false])<|oN (zbQ a)<|oN (zfJ e.Memory (zkB b c d (zby a) 1)<|zc7 a)<|some [aH e,aI<|zgN e.Memory (zkB b c d (zby a) 1)<|zc7 a,aB true])
theorem zPh (b:Host)(c d a:Int)(e:zm2 b c d a=true):∃N,zB1 N b c d a=some [aH<|zhZ b c d a,aI<|zjd b c d a,aB<|zje b c d a]:=by
 have h:=(zS b).1 (zK.1 e);refine⟨0,?_⟩;unfold zB1 zhZ zjd zje zlj zmG zf8 oN nB;conv=>zeta
 refine must rfl (must e (must rfl ?_));rw[show zl a 0 15=zl a 0 15 from rfl];cases f:zl a 0 15;{exact must rfl (must e rfl)};{refine zci rfl ?_;rw[show zkC b c d (zby a) 1=zb1 b c d (zbn a) 1 from zMv _ _ _ _ _ _ _];cases g:zb1 b c d (zbn a) 1;{exact must rfl (must e rfl)};{exact zci rfl (must rfl (must rfl rfl))}}
theorem zH1:vP 82 znM:=kF4 zsP zn zbF zb7 (zq []) zPh
def z2N:zba:=[(297,zoR),(81,zoR),(298,znM),(82,znM)]++z2M
theorem z2O:zT z2N:=zi zLv (zi zLc<|zi zIr<|zi zH1 zsP)
def z2P:zba:=[(311,zrO),(258,znJ)]++z2N
theorem zQ8:zT z2P:=zi zvi (zi zpd z2O)
def zl9:Kept:=⟨rp 4 false,znc⟩
@[simp] abbrev zxI (n:Int):Bool:=ieq n 4
@[simp] abbrev zxa (n:Int):Kept:=zl9
def zBn:Run:=rF1 dI λb=>(zxI b,[aT .kept<|zxa b])
def zXE (N:Nat)(b:Int):OA:=
 let a:=ln<|ziA b; (oN (zkR b)<|oN (cond (few a) (ieq a a) false)<|some [aT .kept (⟨rp a false,ziA b⟩:Kept)])
theorem zSZ (a:Int)(b:zxI a=true):∃N,zXE N a=some [aT .kept<|zxa a]:=by refine⟨0,?_⟩;have h:a=4:=qD b;subst h;change _=_;kernel_rfl
theorem zLz:vP 325 zBn:=kF1 zQ8 zn zbF zb7 (zq []) zSZ
def z2Q:zba:=[(325,zBn)]++z2P
theorem zQ9:zT z2Q:=zi zLz zQ8
def zvU:List Slot:=List.replicate 8 ⟨-1,0⟩
def zis (a:List (List Ins)):Mon:=⟨zvU,zPS,rp 8 false,(a.take 2).map zgf,[],0,0,(a.take 2).map λ_=>zl9,0⟩
theorem zMw {d a b q:Type}(m:Nat)(f:d->a)(g:d->b)(K:List a×List b->Option q):∀(l:List d) (i:Nat) (u:List a×List b),u.1.length+l.length<=2147483648->u.2.length+l.length<=2147483648->
 goL (λ(i:Nat) x (u:List a×List b) k=>bif ilt (i:Int) (m:Int) then (cond (few<|ln<|ap u.1 [f x]) (cond (few<|ln<|ap u.2 [g x]) (k (ap u.1 [f x],ap u.2 [g x])) none) none) else K u) K l i u=K (u.1++(l.take<|m-i).map f,u.2++(l.take<|m-i).map g)
 |[],i,u,_,_=>by simp[goL]
 |x::l,i,u,n,p=>by simp only[jB]at n p;have e:few (ln<|ap u.1 [f x])=true:=zir (by simp[ap];omega);have j:few (ln<|ap u.2 [g x])=true:=zir (by simp[ap];omega);by_cases h:i<m;{have c:ilt (i:Int) (m:Int)=true:=qJ (by omega);simp only[goL,c,e,j,cT];rw[zMw m f g K l (i+1) _ (by simp[ap];omega) (by simp[ap];omega)];rw[show m-i=m-(i+1)+1 by omega];simp[ap]};{have c:ilt (i:Int) (m:Int)=false:=qH (by omega);simp only[goL,c,cF];rw[show m-i=0 by omega];simp}
def z3U (u:List Guest×List Kept):OA:=some [AV.agg<|Ty.cells .mon (⟨zvU,zPS,rp 8 false,u.1,[],0,0,u.2,0⟩:Mon)]
@[simp] abbrev zut (a:List (List Ins)):Bool:=pc (SmPs a)
@[simp] abbrev zJl (a:List (List Ins)):Mon:=zis a
def zDS:Run:=rF1 (dS<|.sl .ins) λb=>(zut b,[aT .mon<|zJl b])
def zJ5 (N:Nat)(k:lP):OA:=
 (oN (zkR 8)<|oN (zqJ 8)<|oN (cond (few 8) (ieq 8 8) false)<|iter (σ:=(Int×Int×Int×Int×Int×Int×Int×lP×lS×lM×lB×lG×(List Int)×lK×lS×lM×lB×lG×(List Int)×lK×Unit)) N (λl a=>let j:=a.2.2.2.2.2.2.2.2.2.2.2.2.2.2.1;let i:=a.2.2.2.2.2.2.2.2.2.2.2.2.2.2.2.1;let h:=a.2.2.2.2.2.2.2.2.2.2.2.2.2.2.2.2.1;let g:=a.2.2.2.2.2.2.2.2.2.2.2.2.2.2.2.2.2.1;let f:=a.2.2.2.2.2.2.2.2.2.2.2.2.2.2.2.2.2.2.1;let b:=a.2.2.2.2.2.2.2.1;let c:=a.2.2.2.2.2.2.2.2.2.2.2.2.2.2.2.2.2.2.2.1;let e:=ap g [zcX<|ix b a.1 []];let d:=aT .mon (⟨j,i,h,g,f,a.2.2.2.2.1,a.2.2.2.2.2.1,c,a.2.2.2.2.2.2.1⟩:Mon); (cond (ilt a.1<|ln b) (cond (ilt a.1 2) (oN (inb a.1<|ln b)<|oN (zkM<|ix b a.1 [])<|oN (few<|ln e)<|oN (zxI 4)<|oN (few<|ln<|ap c [zxa 4])<|l (zQ .i64 a.1 1,a.2.1,a.2.2.1,a.2.2.2.1,a.2.2.2.2.1,a.2.2.2.2.2.1,a.2.2.2.2.2.2.1,b,a.2.2.2.2.2.2.2.2.1,a.2.2.2.2.2.2.2.2.2.1,a.2.2.2.2.2.2.2.2.2.2.1,a.2.2.2.2.2.2.2.2.2.2.2.1,a.2.2.2.2.2.2.2.2.2.2.2.2.1,a.2.2.2.2.2.2.2.2.2.2.2.2.2.1,j,i,h,e,f,ap c [zxa 4],()))<|some [d])<|some [d])) (0,0,0,0,0,0,0,k,[],[],[],[],[],[],ziA 8,zly 8,rp 8 false,[],[],[],()))
def zXj:=zq [(282,0,{n:=36,tm:=[(0,.sl 0 []),(2,.lp 0 0),(3,.lp 1 0),(4,ti)],lo:=[(0,[.sl 1 [],.sl 2 [],.sl 3 [],.sl 4 [],.sl 5 [],ti,ti,.sl 6 [],ti]),(1,[.sl 7 [],.sl 8 [],.sl 9 [],.sl 10 [],.sl 11 [],ti,ti,.sl 12 [],ti])],ro:=[(0,.sl .ins,false),(1,.slot,true),(2,.sl .int,true),(3,.bool,true),(4,.guest,true),(5,.int,true),(6,.kept,true),(7,.slot,true),(8,.sl .int,true),(9,.bool,true),(10,.guest,true),(11,.int,true),(12,.kept,true)]})]
theorem zVA (a:List lI)(f:zut a=true):∃N,zJ5 N a=some [aT .mon<|zJl a]:=by
 have e:=zK.1 f;have c:=zda e.1;refine zcE λN d=>?_;unfold zJ5 oN;conv=>zeta
 refine must rfl (must rfl (must rfl ?_));refine(zbq a (λi (t:lG×lK)=>((i:Int),0,0,0,0,0,0,a,[],[],[],[],[],[],ziA 8,zly 8,rp 8 false,t.1,[],t.2,())) _ (λi (x:List Ins) (u:List Guest×List Kept) h=>bif ilt (i:Int) ((2:Nat):Int) then (cond (few<|ln<|ap u.1 [zgf x]) (cond (few<|ln<|ap u.2 [zl9]) (h (ap u.1 [zgf x],ap u.2 [zl9])) none) none) else z3U u) (λ(t:lG×lK)=>some [.agg<|Ty.cells .mon (⟨ziA 8,zly 8,rp 8 false,t.1,[],0,0,t.2,0⟩:Mon)]) (λi b t rec=>?_) (λt rec=>?_) _ ([],[])<|d c.1).trans ?_;{simp only [zbI b,zbm b,zbu b,zbj b c.1,cT];have g:zkM a[i]=true:=zbi (e.2 _<|jI b);simp only[g,cT];rfl};{simp only [zbz,cF]};exact zMw 2 zgf (λ_=>zl9) z3U a 0 ([],[]) (by simpa using c.2) (by simpa using c.2)
theorem zOC:vP 282 zDS:=kF1 zQ9 zn zbF zb7 zXj zVA
def z2R:zba:=[(282,zDS)]++z2Q
theorem zRa:zT z2R:=zi zOC zQ9
def z1e:List (List Int):=List.replicate 12 [0,0,0,0]
def zgZ (a:List (List<|List Ins)):Host:=⟨z1e,(a.take 3).map zis,[],[]⟩
def zKp (a:List (List<|List Ins)):Prop:=a.length<=1048576/\∀p∈a,SmPs p
@[simp] abbrev zxG (a:List (List<|List Ins)):Bool:=pc (zKp a)
@[simp] abbrev ziI (a:List (List<|List Ins)):Host:=zgZ a
def zZv (t:List Mon):OA:=some [AV.agg<|zbf ⟨z1e,t,[],[]⟩]
def zBl:Run:=rF1 (dS<|.sl<|.sl .ins) λb=>(zxG b,[aH<|ziI b])
def zGj (N:Nat)(d:lQ):OA:=
 (oN (zqJ 12)<|iter (σ:=(Int×lQ×lM×lN×lE×lE×lM×lN×lE×lE×Unit)) N (λe a=>let c:=ap a.2.2.2.2.2.2.2.1 [zJl<|ix a.2.1 a.1 []];let b:=aH (⟨a.2.2.2.2.2.2.1,a.2.2.2.2.2.2.2.1,a.2.2.2.2.2.2.2.2.1,a.2.2.2.2.2.2.2.2.2.1⟩:Host); (cond (ilt a.1<|ln a.2.1) (cond (ilt a.1 3) (oN (inb a.1<|ln a.2.1)<|oN (zut<|ix a.2.1 a.1 [])<|oN (few<|ln c)<|e (zQ .i64 a.1 1,a.2.1,a.2.2.1,a.2.2.2.1,a.2.2.2.2.1,a.2.2.2.2.2.1,a.2.2.2.2.2.2.1,c,a.2.2.2.2.2.2.2.2.1,a.2.2.2.2.2.2.2.2.2.1,()))<|some [b])<|some [b])) (0,d,[],[],[],[],zly 12,[],[],[],()))
def zTw:=zq [(201,0,{n:=28,tm:=[(0,.sl 0 []),(2,.lp 0 0),(3,.lp 1 0),(4,ti)],lo:=[(0,[.sl 1 [],.sl 2 [],.sl 3 [],.sl 4 []]),(1,[.sl 5 [],.sl 6 [],.sl 7 [],.sl 8 []])],ro:=[(0,.sl<|.sl .ins,false),(1,.sl .int,true),(2,.mon,true),(3,.entry,true),(4,.entry,true),(5,.sl .int,true),(6,.mon,true),(7,.entry,true),(8,.entry,true)]})]
theorem zSW (a:List lP)(f:zxG a=true):∃N,zGj N a=some [aH<|ziI a]:=by
 have e:=zK.1 f;have d:=zda e.1;refine zcE λN c=>?_;unfold zGj oN;conv=>zeta
 refine must rfl ?_;refine(zbq a (λi (t:lN)=>((i:Int),a,[],[],[],[],zly 12,t,[],[],())) _ (λi (x:List lI) (t:List Mon) h=>bif ilt (i:Int) ((3:Nat):Int) then (cond (few<|ln<|ap t [zis x]) (h<|ap t [zis x]) none) else zZv t) (λ(t:lN)=>some [.agg<|zbf (⟨zly 12,t,[],[]⟩:Host)]) (λi b t rec=>?_) (λt rec=>?_) _ ([])<|c d.1).trans ?_;{simp only [zbI b,zbm b,zbu b,zbj b d.1,cT];have g:zut a[i]=true:=zbi (e.2 _<|jI b);simp only[g,cT];rfl};{simp only [zbz,cF]};exact zRu 3 zis zZv a 0 [] (by simpa using d.2)
theorem zLw:vP 201 zBl:=kF1 zRa zn zbF zb7 zTw zSW
def z2S:zba:=[(201,zBl)]++z2R
theorem zCT:zT z2S:=zi zLw zRa
def ziT:Nat->Nat->Kept->Kept
 | 0,_,k=>k
 |n+1,i,k=>ziT n (i+1) (zcd k (i:Int))
def ziw (k:Kept):Kept:=ziT k.Known.length 0 k
theorem z0N (k:Kept)(p:Int):(zcd k p).Known.length=k.Known.length:=by unfold zcd;cases zd8 k p;{rfl};{exact zgv _ _ _}
theorem zsH:∀(n i:Nat) (k:Kept),SmK k->SmK (ziT n i k)
 | 0,_,_,h=>h
 |n+1,i,k,h=>zsH n (i+1) _ (zn5 h)
@[simp] abbrev zou (k:Kept):Kept:=ziw k
theorem zGN {b d:Type}(K:List Bool×List Slot->Option d):∀(l:List b) (i:Nat) (k:Kept),SmK k->
 goL (λ(i:Nat) _ (t:List Bool×List Slot) c=>bif zc8 ⟨t.1,t.2⟩ (i:Int) then c ((zeI ⟨t.1,t.2⟩ (i:Int)).Known,(zeI ⟨t.1,t.2⟩ (i:Int)).Slots) else none) K l i (k.Known,k.Slots)=K ((ziT l.length i k).Known,(ziT l.length i k).Slots)
 |[],_,_,_=>rfl
 |x::l,i,k,h=>by have a:zc8 ⟨k.Known,k.Slots⟩ (i:Int)=true:=zbi h;simp only[goL,a,cT];exact zGN K l (i+1) (zcd k (i:Int)) (zn5 h)
def zmj:Run:=rF1 (dT .kept) λb=>(zed b,[aT .kept<|zou b])
def zAE (N:Nat)(b:Kept):OA:=
 (oN (zed b)<|iter (σ:=(Int×Int×lB×lS×lB×lS×Unit)) N (λd a=>let c:=(⟨a.2.2.2.2.1,a.2.2.2.2.2.1⟩:Kept); (cond (ilt a.2.1 a.1) (oN (zc8 c a.2.1)<|d (a.1,zQ .i64 a.2.1 1,a.2.2.1,a.2.2.2.1,(zeI c a.2.1).Known,(zeI c a.2.1).Slots,()))<|some [aT .kept c])) (ln b.Known,0,[],[],(zdl b).Known,(zdl b).Slots,()))
def zNp:=zq [(170,0,{n:=18,tm:=[(2,.lp 0 0),(3,.lp 1 0),(9,ti),(10,ti)],lo:=[(0,[.sl 0 [],.sl 1 []]),(1,[.sl 2 [],.sl 3 []])],ro:=[(0,.bool,true),(1,.slot,true),(2,.bool,true),(3,.slot,true)]})]
theorem zMc (a:Kept)(f:zed a=true):∃N,zAE N a=some [aT .kept<|zou a]:=by
 have d:=zK.1 f;have e:=zda d.1;refine zcE λN c=>?_;unfold zAE oN;conv=>zeta
 refine must (zbi d) ?_;refine(zbq a.Known (λi (t:lB×lS)=>(ln a.Known,(i:Int),[],[],t.1,t.2,())) _ (λi (x:Bool) (t:List Bool×List Slot) g=>bif zc8 ⟨t.1,t.2⟩ (i:Int) then g ((zeI ⟨t.1,t.2⟩ (i:Int)).Known,(zeI ⟨t.1,t.2⟩ (i:Int)).Slots) else none) (λ(t:lB×lS)=>some [.agg<|Ty.cells .kept (⟨t.1,t.2⟩:Kept)]) (λi b t rec=>?_) (λt rec=>?_) _ ((zdl a).Known,(zdl a).Slots)<|c e.1).trans ?_;{simp only [zbI b,zbm b,zbu b,zbj b e.1,cT]};{simp only [zbz,cF]};exact zGN _ a.Known 0 a d
theorem zEW:vP 170 zmj:=kF1 zCT zn zbF zb7 zNp zMc
def zAT (N:Nat)(c:Kept):OA:=
 (oN (zhJ c)<|iter (σ:=(Int×lB×lS×lB×lS×Unit)) N (λd a=>let b:=(⟨a.2.1,a.2.2.1⟩:Kept); (cond (ilt a.1<|ln a.2.1) (oN (zc8 b a.1)<|d (zQ .i64 a.1 1,(zeI b a.1).Known,(zeI b a.1).Slots,a.2.2.2.1,a.2.2.2.2.1,()))<|some [aT .kept b])) (0,(zeB c).Known,(zeB c).Slots,[],[],()))
def zNv:=zq [(363,0,{n:=17,tm:=[(1,.lp 0 0),(2,.lp 1 0),(3,ti)],lo:=[(0,[.sl 0 [],.sl 1 []]),(1,[.sl 2 [],.sl 3 []])],ro:=[(0,.bool,true),(1,.slot,true),(2,.bool,true),(3,.slot,true)]})]
theorem zMq (a:Kept)(g:zed a=true):∃N,zAT N a=some [aT .kept<|zou a]:=by
 have d:=zK.1 g;have f:=zda d.1;refine zcE λN c=>?_;unfold zAT oN;conv=>zeta
 refine must (zbs<|(zyf _).2 d) ?_;refine(zrD a.Known.length (λi (k:Kept)=>((i:Int),k.Known,k.Slots,[],[],())) _ (λi k=>SmK k/\k.Known.length=a.Known.length) (λi k=>some [AV.agg<|Ty.cells .kept<|ziT (a.Known.length-i) i k]) (λi k rec e b h=>?_) (λk rec b=>?_) N 0 a ⟨d,rfl⟩ (jX _)<|c f.1).trans rfl;{refine must (zbI (by rw[b.2];exact e)) (must (zbi b.1) ?_);have q:=h (zcd k (i:Int)) ⟨zn5 b.1,by rw[z0N];exact b.2⟩;rw[show a.Known.length-i=a.Known.length-(i+1)+1 by omega];rw[zbj e f.1];exact q};{refine zci (by show ilt (a.Known.length:Int) (ln k.Known)=false;rw[ln,b.2];exact qH (by omega)) ?_;rw[kW];rfl}
theorem zFa:vP 363 zmj:=kF1 zCT zn zbF zb7 zNv zMq
def z2T:zba:=[(363,zmj),(170,zmj)]++z2S
theorem zRb:zT z2T:=zi zFa (zi zEW zCT)
def zwe:Nat->Nat->List Kept->List Kept
 | 0,_,l=>l
 |n+1,j,l=>zwe n (j+1) (up l (j:Int)<|ziw<|ix l (j:Int) kZ)
def zr5 (x:Mon)(n j:Nat):Mon:={x with Tables:=zwe n j x.Tables}
def zoi:Nat->Nat->List Mon->List Mon
 | 0,_,t=>t
 |n+1,i,t=>zoi n (i+1) (up t (i:Int)<|zr5 (ix t (i:Int) mZ) (ix t (i:Int) mZ).Tables.length 0)
def cold (h:Host):Host:=⟨h.Memory,zoi h.Mons.length 0 h.Mons,[],[]⟩
theorem zNa:∀(n j:Nat) (l:List Kept),j+n<=l.length->zCD l->zCD (zwe n j l)
 | 0,_,_,_,h=>h
 |n+1,j,l,b,h=>by have a:j<l.length:=(by omega);refine zNa n (j+1) _ (by rw[zgv];omega) (zuN h<|zsH _ _ _ ?_);rw[zbu a];exact h.2 _ (jI a)
theorem zAt {x:Mon}(h:zfx x){n j:Nat}(a:j+n<=x.Tables.length):zfx (zr5 x n j):=⟨h.1,h.2.1,h.2.2.1,h.2.2.2.1,h.2.2.2.2.1,zNa n j _ a h.2.2.2.2.2⟩
@[simp] abbrev zy6 (h:Host):Host:=cold h
def zuo:Run:=rF1 dH λb=>(zU b,[aH<|zy6 b])
def zTZ (N:Nat)(d:Host):OA:=
 (oN (zU d)<|iter (σ:=(Int×lM×lN×lE×lE×lM×lN×lE×lE×Unit)) N (λg b=>cond (ilt b.1<|ln b.2.2.1) (iter (σ:=(Int×Int×lM×lN×lE×lE×lM×lN×lE×lE×Unit)) N (λh a=>let e:=inb a.1<|ln a.2.2.2.1;let c:=ix a.2.2.2.1 a.1 zh;let f:=ix c.Tables a.2.1 zeL; (oN e<|cond (ilt a.2.1<|ln c.Tables) (oN e<|oN e<|oN (inb a.2.1<|ln c.Tables)<|oN (zed f)<|oN (inb a.2.1<|ln c.Tables)<|share (up a.2.2.2.1 a.1 ({c with Tables:=(up c.Tables a.2.1<|zou f)}:Mon)) λi=>h (a.1,zQ .i64 a.2.1 1,a.2.2.1,i,a.2.2.2.2.1,a.2.2.2.2.2.1,a.2.2.2.2.2.2.1,a.2.2.2.2.2.2.2.1,a.2.2.2.2.2.2.2.2.1,a.2.2.2.2.2.2.2.2.2.1,()))<|g (zQ .i64 a.1 1,a.2.2.1,a.2.2.2.1,a.2.2.2.2.1,a.2.2.2.2.2.1,a.2.2.2.2.2.2.1,a.2.2.2.2.2.2.2.1,a.2.2.2.2.2.2.2.2.1,a.2.2.2.2.2.2.2.2.2.1,()))) (b.1,0,b.2.1,b.2.2.1,b.2.2.2.1,b.2.2.2.2.1,b.2.2.2.2.2.1,b.2.2.2.2.2.2.1,b.2.2.2.2.2.2.2.1,b.2.2.2.2.2.2.2.2.1,()))<|some [aH (⟨b.2.1,b.2.2.1,[],[]⟩:Host)]) (0,(zk d).Memory,(zk d).Mons,(zk d).Buffer,(zk d).IoBuffer,[],[],[],[],()))
def z2j:=zq [(330,0,{n:=48,tm:=[(1,.lp 0 0),(2,.lp 1 0),(3,ti)],lo:=[(0,[.sl 0 [],.sl 1 [],.sl 2 [],.sl 3 []]),(1,[.sl 4 [],.sl 5 [],.sl 6 [],.sl 7 []])],ro:=[(0,.sl .int,true),(1,.mon,true),(2,.entry,true),(3,.entry,true),(4,.sl .int,true),(5,.mon,true),(6,.entry,true),(7,.entry,true)]}),(330,2,{n:=48,tm:=[(1,.lp 0 0),(2,.lp 1 0),(3,ti),(4,ti)],lo:=[(0,[.sl 0 [],.sl 1 [],.sl 2 [],.sl 3 []]),(1,[.sl 4 [],.sl 5 [],.sl 6 [],.sl 7 []])],ro:=[(0,.sl .int,true),(1,.mon,true),(2,.entry,true),(3,.entry,true),(4,.sl .int,true),(5,.mon,true),(6,.entry,true),(7,.entry,true)]})]
theorem z1c (a:Host)(m:zU a=true):∃N,zTZ N a=some [aH<|zy6 a]:=by
 have v:=(zS a).1 (zK.1 m);have s:=zda v.2.1.1;refine zcE λN f=>?_;unfold zTZ oN;conv=>zeta
 refine must m ?_;refine(zrD a.Mons.length (λi (t:List Mon)=>((i:Int),a.Memory,t,a.Buffer,a.IoBuffer,[],[],[],[],())) _ (λi t=>zpL t/\t.length=a.Mons.length) (λi t=>some [AV.agg<|zbf ⟨a.Memory,zoi (a.Mons.length-i) i t,[],[]⟩]) (λi t rec n e x=>?_) (λt rec e=>?_) N 0 a.Mons ⟨v.2.1,rfl⟩ (jX _)<|f s.1).trans rfl
 .have hit:i<t.length:=(by rw[e.2];exact n);have l:zfx (ix t (i:Int) mZ):=by rw[zbu hit];exact e.1.2 _ (jI hit)
  have r:=zda l.2.2.2.2.2.1;refine must (zbI hit) ?_;refine(zrD (ix t (i:Int) mZ).Tables.length (λj (u:List Mon)=>((i:Int),(j:Int),a.Memory,u,a.Buffer,a.IoBuffer,[],[],[],[],()))
   _ (λj u=>u.length=t.length/\zfx (ix u (i:Int) mZ)/\(ix u (i:Int) mZ).Tables.length=(ix t (i:Int) mZ).Tables.length)
   (λj u=>rec (((i+1:Nat):Int),a.Memory,up u (i:Int)<|zr5 (ix u (i:Int) mZ) ((ix t (i:Int) mZ).Tables.length-j) j,a.Buffer,a.IoBuffer,[],[],[],[],()))
   (λj u h p c k=>?_) (λu h c=>?_) N 0 t ⟨rfl,l,rfl⟩ (jX _) (f r.1)).trans ?_
  .have b:i<u.length:=(by rw[c.1];exact hit);have d:j<(ix u (i:Int) mZ).Tables.length:=(by rw[c.2.2];exact p);have g:SmK (ix (ix u (i:Int) mZ).Tables (j:Int) kZ):=by rw[zbu d];exact c.2.1.2.2.2.2.2.2 _ (jI d)
   refine must (zbm b) (must (zbI d)<|must (zbm b)<|must (zbm b)<|must (zbm d)<|must (zbi g)<|must (zbm d)<|shr ?_);have w:zfx {ix u (i:Int) mZ with Tables:=up (ix u (i:Int) mZ).Tables (j:Int) (ziw<|ix (ix u (i:Int) mZ).Tables (j:Int) kZ)} :=
    ⟨c.2.1.1,c.2.1.2.1,c.2.1.2.2.1,c.2.1.2.2.2.1,c.2.1.2.2.2.2.1,zuN c.2.1.2.2.2.2.2<|zsH _ _ _ g⟩
   have q:=k (up u (i:Int) {ix u (i:Int) mZ with Tables:=up (ix u (i:Int) mZ).Tables (j:Int) (ziw<|ix (ix u (i:Int) mZ).Tables (j:Int) kZ)}) ⟨by rw[zgv];exact c.1,by rw[zd6 b];exact w,by rw[zd6 b];simp only[zgv];exact c.2.2⟩;rw[zbj p r.1];refine q.trans ?_;rw[zd6 b,zrf,show (ix t (i:Int) mZ).Tables.length-j=(ix t (i:Int) mZ).Tables.length-(j+1)+1 by omega];rfl
  {have b:i<u.length:=(by rw[c.1];exact hit);refine must (zbm b) (zci (by show ilt ((ix t (i:Int) mZ).Tables.length:Int) (ln (ix u (i:Int) mZ).Tables)=false;rw[ln,c.2.2];exact qH (by omega)) ?_);rw[zbj n s.1,kW];show rec (_,a.Memory,u,_)=rec (_,a.Memory,up u (i:Int)<|ix u (i:Int) mZ,_);rw[zEQ b]};{have q:=x (up t (i:Int)<|zr5 (ix t (i:Int) mZ) (ix t (i:Int) mZ).Tables.length 0) ⟨zj0 e.1<|zAt l (by omega),by rw[zgv];exact e.2⟩;refine q.trans ?_;rw[show a.Mons.length-i=a.Mons.length-(i+1)+1 by omega];rfl}
 {refine zci (by show ilt (a.Mons.length:Int) (ln t)=false;rw[ln,e.2];exact qH (by omega)) ?_;rw[kW];rfl}
theorem zUW:vP 330 zuo:=kF1 zRb zn zbF zb7 z2j z1c
def z2U:zba:=[(330,zuo)]++z2T
theorem zRc:zT z2U:=zi zUW zRb
def zTX (N:Nat)(d:Host):OA:=
 (oN (zU d)<|iter (σ:=(Int×Int×lM×lN×lE×lE×lM×lN×lE×lE×Unit)) N (λk b=>let f:=b.2.2.2.2.2.2.2.1; (cond (ilt b.2.1 b.1) (oN (inb b.2.1<|ln f)<|iter (σ:=(Int×Int×Int×Int×Int×Int×lN×lM×lN×lE×lE×lM×lE×lE×Unit)) N (λl a=>let j:=a.2.2.2.2.2.2.2.2.2.2.2.2.1;let i:=a.2.2.2.2.2.2.2.2.2.2.2.2.2.1;let c:=a.2.2.2.2.2.1;let e:=a.2.2.2.2.2.2.1;let h:=ix e a.1 zh;let g:=(ix e a.2.2.2.1 zh).Tables; (cond (ilt c a.2.2.2.2.1) (oN (inb c<|ln g)<|oN (inb a.1<|ln e)<|oN (zed<|ix g c zeL)<|oN (inb c<|ln h.Tables)<|share (up e a.1 ({h with Tables:=(up h.Tables c<|zou<|ix g c zeL)}:Mon)) λp=>l (a.1,a.2.1,a.2.2.1,a.2.2.2.1,a.2.2.2.2.1,zQ .i64 c 1,p,a.2.2.2.2.2.2.2.1,a.2.2.2.2.2.2.2.2.1,a.2.2.2.2.2.2.2.2.2.1,a.2.2.2.2.2.2.2.2.2.2.1,a.2.2.2.2.2.2.2.2.2.2.2.1,j,i,()))<|k (a.2.1,zQ .i64 a.2.2.1 1,a.2.2.2.2.2.2.2.1,a.2.2.2.2.2.2.2.2.1,a.2.2.2.2.2.2.2.2.2.1,a.2.2.2.2.2.2.2.2.2.2.1,a.2.2.2.2.2.2.2.2.2.2.2.1,e,j,i,()))) (b.2.1,b.1,b.2.1,b.2.1,ln (ix f b.2.1 zh).Tables,0,f,b.2.2.1,b.2.2.2.1,b.2.2.2.2.1,b.2.2.2.2.2.1,b.2.2.2.2.2.2.1,b.2.2.2.2.2.2.2.2.1,b.2.2.2.2.2.2.2.2.2.1,()))<|share [] λm=>share [] λn=>some [aH (⟨b.2.2.2.2.2.2.1,f,m,n⟩:Host)])) (ln (zk d).Mons,0,[],[],[],[],(zk d).Memory,(zk d).Mons,(zk d).Buffer,(zk d).IoBuffer,()))
def z2i:=zq [(86,0,{n:=42,tm:=[(2,.lp 0 0),(3,.lp 1 0),(11,ti),(12,ti)],lo:=[(0,[.sl 0 [],.sl 1 [],.sl 2 [],.sl 3 []]),(1,[.sl 4 [],.sl 5 [],.sl 6 [],.sl 7 []])],ro:=[(0,.sl .int,true),(1,.mon,true),(2,.entry,true),(3,.entry,true),(4,.sl .int,true),(5,.mon,true),(6,.entry,true),(7,.entry,true)]}),(86,2,{n:=42,tm:=[(2,.lp 0 0),(3,.lp 1 0),(4,ti),(11,ti),(12,ti),(20,.sl 0 [7]),(21,ti),(22,ti)],lo:=[(0,[.sl 1 [],.sl 2 [],.sl 3 [],.sl 4 []]),(1,[.sl 5 [],.sl 0 [],.sl 6 [],.sl 7 []])],ro:=[(0,.mon,true),(1,.sl .int,true),(2,.mon,true),(3,.entry,true),(4,.entry,true),(5,.sl .int,true),(6,.entry,true),(7,.entry,true)]})]
theorem z08 (a:Host)(p:zU a=true):∃N,zTX N a=some [aH<|zy6 a]:=by
 have v:=(zS a).1 (zK.1 p);have s:=zda v.2.1.1;refine zcE λN f=>?_;unfold zTX oN;conv=>zeta
 refine must p ?_;refine(zrD a.Mons.length (λi (t:List Mon)=>(ln a.Mons,(i:Int),[],[],[],[],a.Memory,t,a.Buffer,a.IoBuffer,())) _ (λi t=>zpL t/\t.length=a.Mons.length) (λi t=>some [AV.agg<|zbf ⟨a.Memory,zoi (a.Mons.length-i) i t,[],[]⟩]) (λi t rec k e x=>?_) (λt rec e=>?_) N 0 a.Mons ⟨v.2.1,rfl⟩ (jX _)<|f s.1).trans rfl
 .have hit:i<t.length:=(by rw[e.2];exact k);have n:zfx (ix t (i:Int) mZ):=by rw[zbu hit];exact e.1.2 _ (jI hit)
  have r:=zda n.2.2.2.2.2.1;refine must (zbI k) (must (zbm hit) ?_);refine(zrD (ix t (i:Int) mZ).Tables.length (λj (u:List Mon)=>((i:Int),ln a.Mons,(i:Int),(i:Int),ln (ix t (i:Int) mZ).Tables,(j:Int),u,[],[],[],[],a.Memory,a.Buffer,a.IoBuffer,()))
   _ (λj u=>u.length=t.length/\zfx (ix u (i:Int) mZ)/\(ix u (i:Int) mZ).Tables.length=(ix t (i:Int) mZ).Tables.length)
   (λj u=>rec (ln a.Mons,((i+1:Nat):Int),[],[],[],[],a.Memory,up u (i:Int)<|zr5 (ix u (i:Int) mZ) ((ix t (i:Int) mZ).Tables.length-j) j,a.Buffer,a.IoBuffer,()))
   (λj u h l b m=>?_) (λu h b=>?_) N 0 t ⟨rfl,n,rfl⟩ (jX _) (f r.1)).trans ?_
  .have c:i<u.length:=(by rw[b.1];exact hit);have d:j<(ix u (i:Int) mZ).Tables.length:=(by rw[b.2.2];exact l);have g:SmK (ix (ix u (i:Int) mZ).Tables (j:Int) kZ):=by rw[zbu d];exact b.2.1.2.2.2.2.2.2 _ (jI d)
   refine must (zbI l) (must (zbm d)<|must (zbm c)<|must (zbi g)<|must (zbm d)<|shr ?_);have w:zfx {ix u (i:Int) mZ with Tables:=up (ix u (i:Int) mZ).Tables (j:Int) (ziw<|ix (ix u (i:Int) mZ).Tables (j:Int) kZ)} :=
    ⟨b.2.1.1,b.2.1.2.1,b.2.1.2.2.1,b.2.1.2.2.2.1,b.2.1.2.2.2.2.1,zuN b.2.1.2.2.2.2.2<|zsH _ _ _ g⟩
   have q:=m (up u (i:Int) {ix u (i:Int) mZ with Tables:=up (ix u (i:Int) mZ).Tables (j:Int) (ziw<|ix (ix u (i:Int) mZ).Tables (j:Int) kZ)}) ⟨by rw[zgv];exact b.1,by rw[zd6 c];exact w,by rw[zd6 c];simp only[zgv];exact b.2.2⟩;rw[zbj l r.1];refine q.trans ?_;rw[zd6 c,zrf,show (ix t (i:Int) mZ).Tables.length-j=(ix t (i:Int) mZ).Tables.length-(j+1)+1 by omega];rfl
  {have c:i<u.length:=(by rw[b.1];exact hit);refine zci (by show ilt ((ix t (i:Int) mZ).Tables.length:Int) (ln (ix t (i:Int) mZ).Tables)=false;exact qH (by simp only[ln];omega)) ?_;rw[zbj k s.1,kW];show rec _=rec (ln a.Mons,_,[],[],[],[],a.Memory,up u (i:Int)<|ix u (i:Int) mZ,_);rw[zEQ c]};{have q:=x (up t (i:Int)<|zr5 (ix t (i:Int) mZ) (ix t (i:Int) mZ).Tables.length 0) ⟨zj0 e.1<|zAt n (by omega),by rw[zgv];exact e.2⟩;refine q.trans ?_;rw[show a.Mons.length-i=a.Mons.length-(i+1)+1 by omega];rfl}
 {refine zci (by show ilt (a.Mons.length:Int) (ln a.Mons)=false;exact qH (by simp only[ln];omega)) ?_;rw[kW];rfl}
theorem zUR:vP 86 zuo:=kF1 zRc zn zbF zb7 z2i z08
def z2V:zba:=[(86,zuo)]++z2U
theorem zRd:zT z2V:=zi zUR zRc
theorem zBC:∀(n i:Nat) (t:List Mon),i+n<=t.length->zpL t->zpL (zoi n i t)
 | 0,_,_,_,h=>h
 |n+1,i,t,b,h=>by have a:i<t.length:=(by omega);refine zBC n (i+1) _ (by rw[zgv];omega) (zj0 h<|zAt ?_ (by omega));rw[zbu a];exact h.2 _ (jI a)
theorem z7k {h:Host}(a:SmH h):SmH (cold h):=⟨a.1,zBC _ _ _ (by omega) a.2.1,by simp[cold],by simp[cold]⟩
theorem zpo {h:Host}{m:Int}{b:Bare}(c:SmH h)(d:zck h m=true->SmB b):SmH (zgb h m b):=by unfold zgb;cases a:zck h m;{exact c};{exact zAr c (zbt.1 a).2 (d a).2.1}
theorem z4N {h:Host}{m g p:Int}(c:SmH h):SmH (zjM h m g p):=by unfold zjM;cases e:zck h m;{exact c};{cases l:zb2 (zC h m) g (hasB p 4);{exact c};{have d:=(zbt.1 e).2;have f:=zeV c d;have k:SmB (chg (zC h m) g (hasB p 4)<|zev (gAt (zC h m) g) p):=zpD f (zuz _<|zgs _ f);have b:=zAr c d k.2.1;have i:=zHs (chg (zC h m) g (hasB p 4)<|zev (gAt (zC h m) g) p) d;have j:=zC0 c e (chg (zC h m) g (hasB p 4)<|zev (gAt (zC h m) g) p) l;have a:=b.2.1.2 _ (zbM i mZ);simp only[cT];exact⟨b.1,zj0 b.2.1 ⟨a.1,a.2.1,a.2.2.1,a.2.2.2.1,a.2.2.2.2.1,zuN a.2.2.2.2.2<|zn5<|a.2.2.2.2.2.2 _<|zbM j _⟩,qU (zzJ _ _ _) b.2.2.1,qU (zzJ _ _ _) b.2.2.2⟩}}
theorem z7l {h:Host}{m p c v:Int}(e:SmH h):SmH (zli h m p c v):=by unfold zli;cases a:zdO h m p c v;{exact e};{have f:zb9 h m p=true:=(by unfold zdO at a;cases b:zb9 h m p;{rw [b]at a;cases a};{rfl});obtain⟨g,i,b⟩:=ziE.1 f;have d:=(zvS (n:=2) (zfy e g) i b).1.1;exact⟨zvW d.1,d.2⟩}
theorem zVT {h:Host}{m g c a:Int}(b:List Entry)(i:Bool)(f:SmH h)(d:zb1 h m g c a=true):SmH (lookOf h b m g c a i).1:=by have hg:zcb h m g=true:=(by unfold zb1 at d;cases e:zcb h m g;{rw [e]at d;cases d};{rfl});exact(zuH f hg).shape.1
theorem zbaZ {h:Host}{m g a v:Int}(e:SmH h):SmH (znu h m g a v):=by unfold znu;cases b:zg3 h m g a v;{exact e};{have f:zb1 h m g (zbn a) 2=true:=(by unfold zg3 at b;cases c:zl a 0 15;{rw [c]at b;cases b};{cases d:zl v 0 99;{rw [c,d]at b;cases b};{rw [c,d]at b;exact b}});have c:=zVT h.IoBuffer true e f;exact⟨zvW c.1,c.2⟩}
theorem z7m {h:Host}{m g a:Int}(d:SmH h):SmH (zlj h m g a):=by unfold zlj;cases b:zf8 h m g a;{exact d};{have e:zb1 h m g (zbn a) 1=true:=(by unfold zf8 at b;cases c:zl a 0 15;{rw [c]at b;cases b};{rw [c]at b;exact b});exact zVT h.IoBuffer true d e}
theorem zba0 {h:Host}{m p:Int}(a:SmH h):SmH (znC h m p):=by unfold znC;cases b:zb9 h m p;{exact a};{obtain⟨c,d,e⟩:=ziE.1 b;cases zjr h m p;{exact(zM6 (zfy a c).1 d).1};{exact a}}
theorem zbca {h:Host}{m p:Int}(a:SmH h):SmH (zp8 h m p):=by unfold zp8;cases b:zb9 h m p;{exact a};{obtain⟨c,d,e⟩:=ziE.1 b;cases zjr h m p;{exact a};{exact(zl2 (zfy a c) d e).1.1}}
theorem z4R {h:Host}{m t:Int}(a:SmH h):SmH (zjm h m t):=by unfold zjm;cases zb0 h;{exact a};{cases c:hasB m (ln h.Mons);{exact a};{cases zl t 0 3;{exact a};{have b:zfx (ix h.Mons m mZ):=a.2.1.2 _ (zbM c mZ);exact⟨a.1,zj0 a.2.1 ⟨b.1,b.2.1,b.2.2.1,b.2.2.2.1,b.2.2.2.2.1,b.2.2.2.2.2⟩,a.2.2⟩}}}
def zgP (h:Host)(a:GAct):Host:=bif ieq a.Kind 1 then (zcM h a.M a.G).1 else (cond (ieq a.Kind 2) (zgB h a.M a.G a.X ⟨a.Y,a.Z⟩)<|cond (ieq a.Kind 3) (zjM h a.M a.G a.X)<|cond (ieq a.Kind 4) (ze2 h a.M a.G a.X)<|cond (ieq a.Kind 5) (ze4 h a.M a.G)<|cond (ieq a.Kind 6) (ze3 h a.M a.G a.X)<|cond (ieq a.Kind 7) (zhz h a.M a.G ⟨a.X,a.Y,ieq a.Z 1⟩)<|cond (ieq a.Kind 8) (zli h a.M a.X a.Y a.Z)<|cond (ieq a.Kind 9) (zf1 h a.M a.X)<|cond (ieq a.Kind 10) (zgA h a.M)<|cond (ieq a.Kind 11) (znu h a.M a.G a.X a.Y)<|zlj h a.M a.G a.X)
def zhR (h:Host)(a:GAct):Told:=bif ieq a.Kind 1 then ⟨(zcM h a.M a.G).2,0⟩ else (cond (ieq a.Kind 2) ⟨zhB h a.M a.G a.X ⟨a.Y,a.Z⟩,0⟩<|cond (ieq a.Kind 3) ⟨zf9 h a.M a.G a.X,0⟩<|cond (ieq a.Kind 4) ⟨zfC h a.M a.G a.X,0⟩<|cond (ieq a.Kind 5) ⟨zfE h a.M a.G,0⟩<|cond (ieq a.Kind 6) ⟨zfD h a.M a.G a.X,0⟩<|cond (ieq a.Kind 7) ⟨zhA h a.M a.G ⟨a.X,a.Y,ieq a.Z 1⟩,0⟩<|cond (ieq a.Kind 8) ⟨zdO h a.M a.X a.Y a.Z,0⟩<|cond (ieq a.Kind 9) ⟨zgR h a.M a.X,0⟩<|cond (ieq a.Kind 10) ⟨zhy h a.M,zhx h a.M⟩<|cond (ieq a.Kind 11) ⟨zg3 h a.M a.G a.X a.Y,0⟩<|⟨zf8 h a.M a.G a.X,zmG h a.M a.G a.X⟩)
def zi8 (h:Host)(a:GAct):Host:=bif ieq a.Kind 13 then znC h a.M a.X else (cond (ieq a.Kind 14) (zp8 h a.M a.X)<|cond (ieq a.Kind 15) (zpV h a.M a.X)<|cond (ieq a.Kind 16) (zjm h a.M a.X)<|cold h)
def zp5 (h:Host)(a:GAct):Told:=bif ieq a.Kind 13 then ⟨zta h a.M a.X,0⟩ else (cond (ieq a.Kind 14) ⟨zvt h a.M a.X,0⟩<|cond (ieq a.Kind 15) ⟨zb9 h a.M a.X,0⟩<|cond (ieq a.Kind 16) ⟨zrb h a.M a.X,0⟩<|⟨true,0⟩)
def zbU (h:Host)(a:GAct):Host:=bif zl a.Kind 1 17 then (cond (zl a.Kind 13 17) (zi8 h a)<|zgP h a) else h
def zcP (h:Host)(a:GAct):Told:=bif zl a.Kind 1 17 then (cond (zl a.Kind 13 17) (zp5 h a)<|zhR h a) else ⟨false,0⟩
theorem z4Q {h:Host}{a:GAct}(b:SmH h):SmH (zi8 h a):=by unfold zi8;cases ieq a.Kind 13;{cases ieq a.Kind 14;{cases ieq a.Kind 15;{cases ieq a.Kind 16;{exact z7k b};{exact z4R b}};{exact z4O b}};{exact zbca b}};{exact zba0 b}
theorem z4P {h:Host}{a:GAct}(c:SmH h):SmH (zgP h a):=by have d:zck h a.M=true->SmB (zC h a.M):=λb=>zeV c (zbt.1 b).2;unfold zgP;cases ieq a.Kind 1;{cases ieq a.Kind 2;{cases ieq a.Kind 3;{cases ieq a.Kind 4;{cases ieq a.Kind 5;{cases ieq a.Kind 6;{cases ieq a.Kind 7;{cases ieq a.Kind 8;{cases ieq a.Kind 9;{cases ieq a.Kind 10;{cases ieq a.Kind 11;{exact z7m c};{exact zbaZ c}};{exact zpo c (λb=>zP5 (d b))}};{exact zpo c (λb=>zJq _ (d b))}};{exact z7l c}};{exact zpo c (λb=>zP6 _ _ (d b))}};{exact zpo c (λb=>zAp _ _ (d b))}};{exact zpo c (λb=>zAq _ (d b))}};{exact zpo c (λb=>zAo _ _ (d b))}};{exact z4N c}};{exact zpo c (λb=>zP7 _ _ _ (d b))}};{exact(z4E a.M a.G c).sm}
theorem zEN {h:Host}{a:GAct}(b:SmH h):SmH (zbU h a):=by unfold zbU;cases zl a.Kind 1 17;{exact b};{cases zl a.Kind 13 17;{exact z4P b};{exact z4Q b}}
@[simp] abbrev zgY (h:Host)(a:GAct):Bool:=pc (zdP h)
@[simp] abbrev zna (h:Host)(a:GAct):Host:=zi8 h a
@[simp] abbrev zk0 (h:Host)(a:GAct):Told:=zp5 h a
def zy4:Run:=rF2 dH (dT .act) λb c=>(zgY b c,[aH<|zna b c,aT .told<|zk0 b c])
def zCC (N:Nat)(c:Host)(a:GAct):OA:=
 (cond (ieq a.Kind 13) (oN (zfm c a.M a.X)<|some [aH<|ziJ c a.M a.X,.agg [.b<|zkc c a.M a.X,.i .i64 0]])<|cond (ieq a.Kind 14) (oN (zfm c a.M a.X)<|some [aH<|zjV c a.M a.X,.agg [.b<|zlA c a.M a.X,.i .i64 0]])<|cond (ieq a.Kind 15) (oN (zfm c a.M a.X)<|some [aH<|zk5 c a.M a.X,.agg [.b<|zdV c a.M a.X,.i .i64 0]])<|cond (ieq a.Kind 16) (oN (zm3 c a.M a.X)<|some [aH<|zh1 c a.M a.X,.agg [.b<|zjf c a.M a.X,.i .i64 0]])<|oN (zU c)<|some [aH<|zy6 c,.agg [.b true,.i .i64 0]])
theorem zPO (a:Host)(b:GAct)(c:zgY a b=true):∃N,zCC N a b=some [aH<|zna a b,aT .told<|zk0 a b]:=by have d:=zK.1 c;refine⟨0,?_⟩;unfold zCC oN;refine br (λ_=>mu ?_) (λ_=>br (λ_=>mu ?_) λ_=>br (λ_=>mu ?_) λ_=>br (λ_=>mu ?_) λ_=>mu ?_);all_goals first|rfl|(simp only [*,zna,zk0,zi8,zp5,cT,cF]<;>rfl)|simp_all[Ty.cells,zna,zk0,zi8,zp5]
theorem zIH:vP 285 zy4:=kF2 zRd zn zbF zb7 (zq []) zPO
def z2W:zba:=[(285,zy4),(283,zG4),(37,zBm),(293,zsh),(77,zsh)]++z2V
theorem zCU:zT z2W:=zi zIH (zi zSb<|zi zLy<|zi zSc<|zi zRZ zRd)
@[simp] abbrev zhC (h:Host)(a:GAct):Host:=zbU h a
@[simp] abbrev ziH (h:Host)(a:GAct):Told:=zcP h a
def zlR:Run:=rF2 dH (dT .act) λb c=>(zgY b c,[aH<|zhC b c,aT .told<|ziH b c])
def zGg (N:Nat)(c:Host)(a:GAct):OA:=
 let d:=(⟨a.Y,a.Z⟩:Slot); (oN (zmY a)<|cond (nB<|zy5 a) (oN (zU c)<|some [aH<|zk c,.agg [.b false,.i .i64 0]])<|oN (zxH a.Kind)<|cond (zte a.Kind) (oN (zgY c a)<|some [aH<|zna c a,.agg [.b (zk0 c a).Ok,.i .i64 (zk0 c a).N]])<|cond (ieq a.Kind 1) (oN (zdu c a.M a.G)<|some [aH<|zcC c a.M a.G,.agg [.b<|zcO c a.M a.G,.i .i64 0]])<|cond (ieq a.Kind 2) (oN (zox c a.M a.G a.X d)<|some [aH<|zgB c a.M a.G a.X d,.agg [.b<|zhB c a.M a.G a.X d,.i .i64 0]])<|cond (ieq a.Kind 3) (oN (zlV c a.M a.G a.X)<|some [aH<|zg8 c a.M a.G a.X,.agg [.b<|zf9 c a.M a.G a.X,.i .i64 0]])<|cond (ieq a.Kind 4) (oN (zkN c a.M a.G a.X)<|some [aH<|ze2 c a.M a.G a.X,.agg [.b<|zfC c a.M a.G a.X,.i .i64 0]])<|cond (ieq a.Kind 5) (oN (zkP c a.M a.G)<|some [aH<|ze4 c a.M a.G,.agg [.b<|zfE c a.M a.G,.i .i64 0]])<|cond (ieq a.Kind 6) (oN (zkO c a.M a.G a.X)<|some [aH<|ze3 c a.M a.G a.X,.agg [.b<|zfD c a.M a.G a.X,.i .i64 0]])<|cond (ieq a.Kind 7) (oN (zmY a)<|oN (zov c a.M a.G<|zmb a)<|some [aH<|zhz c a.M a.G<|zmb a,.agg [.b<|zhA c a.M a.G<|zmb a,.i .i64 0]])<|cond (ieq a.Kind 8) (oN (zm0 c a.M a.X a.Y a.Z)<|some [aH<|zjb c a.M a.X a.Y a.Z,.agg [.b<|zjc c a.M a.X a.Y a.Z,.i .i64 0]])<|cond (ieq a.Kind 9) (oN (zm1 c a.M a.X)<|some [aH<|zf1 c a.M a.X,.agg [.b<|zgR c a.M a.X,.i .i64 0]])<|cond (ieq a.Kind 10) (oN (zc2 c a.M)<|some [aH<|zgA c a.M,.agg [.b<|zhy c a.M,.i .i64<|zhx c a.M]])<|cond (ieq a.Kind 11) (oN (zow c a.M a.G a.X a.Y)<|some [aH<|zka c a.M a.G a.X a.Y,.agg [.b<|zkb c a.M a.G a.X a.Y,.i .i64 0]])<|oN (zm2 c a.M a.G a.X)<|some [aH<|zhZ c a.M a.G a.X,.agg [.b<|zje c a.M a.G a.X,.i .i64<|zjd c a.M a.G a.X]])
theorem zST (a:Host)(b:GAct)(c:zgY a b=true):∃N,zGg N a b=some [aH<|zhC a b,aT .told<|ziH a b]:=by
 have d:=zK.1 c;refine⟨0,?_⟩;unfold zGg oN nB;conv=>zeta
 refine must rfl (brN (λ_=>mu ?_) λ_=>must rfl (br (λ_=>mu ?_) λ_=>br (λ_=>mu ?_) λ_=>br (λ_=>mu ?_) λ_=>br (λ_=>mu ?_) λ_=>br (λ_=>mu ?_) λ_=>br (λ_=>mu ?_) λ_=>br (λ_=>mu ?_) λ_=>br (λ_=>must rfl (mu ?_)) λ_=>br (λ_=>mu ?_) λ_=>br (λ_=>mu ?_) λ_=>br (λ_=>mu ?_) λ_=>br (λ_=>mu ?_) λ_=>mu ?_));all_goals first|rfl|(simp only [*,zhC,ziH,zbU,zcP,zgP,zhR,cT,cF]<;>rfl)|simp_all[Ty.cells,zhC,ziH,zbU,zcP,zgP,zhR]
theorem zwA:vP 202 zlR:=kF2 zCU zn zbF zb7 (zq []) zST
theorem zbcj {h:Host}{a:GAct}(b:ieq a.Kind 1=true):zbU h a=(zcM h a.M a.G).1/\zcP h a=⟨(zcM h a.M a.G).2,0⟩:=by have e:a.Kind=1:=qD b;constructor;{unfold zbU zgP;rw[e];rfl};{unfold zcP zhR;rw[e];rfl}
theorem zbck {h:Host}{a:GAct}(b:ieq a.Kind 2=true):zbU h a=zgB h a.M a.G a.X ⟨a.Y,a.Z⟩/\zcP h a=⟨zhB h a.M a.G a.X ⟨a.Y,a.Z⟩,0⟩:=by have e:a.Kind=2:=qD b;constructor;{unfold zbU zgP;rw[e];rfl};{unfold zcP zhR;rw[e];rfl}
theorem zbcl {h:Host}{a:GAct}(b:ieq a.Kind 3=true):zbU h a=zjM h a.M a.G a.X/\zcP h a=⟨zf9 h a.M a.G a.X,0⟩:=by have e:a.Kind=3:=qD b;constructor;{unfold zbU zgP;rw[e];rfl};{unfold zcP zhR;rw[e];rfl}
theorem zbcm {h:Host}{a:GAct}(b:ieq a.Kind 4=true):zbU h a=ze2 h a.M a.G a.X/\zcP h a=⟨zfC h a.M a.G a.X,0⟩:=by have e:a.Kind=4:=qD b;constructor;{unfold zbU zgP;rw[e];rfl};{unfold zcP zhR;rw[e];rfl}
theorem zbcn {h:Host}{a:GAct}(b:ieq a.Kind 5=true):zbU h a=ze4 h a.M a.G/\zcP h a=⟨zfE h a.M a.G,0⟩:=by have e:a.Kind=5:=qD b;constructor;{unfold zbU zgP;rw[e];rfl};{unfold zcP zhR;rw[e];rfl}
theorem zbco {h:Host}{a:GAct}(b:ieq a.Kind 6=true):zbU h a=ze3 h a.M a.G a.X/\zcP h a=⟨zfD h a.M a.G a.X,0⟩:=by have e:a.Kind=6:=qD b;constructor;{unfold zbU zgP;rw[e];rfl};{unfold zcP zhR;rw[e];rfl}
theorem zbcp {h:Host}{a:GAct}(b:ieq a.Kind 7=true):zbU h a=zhz h a.M a.G ⟨a.X,a.Y,ieq a.Z 1⟩/\zcP h a=⟨zhA h a.M a.G ⟨a.X,a.Y,ieq a.Z 1⟩,0⟩:=by have e:a.Kind=7:=qD b;constructor;{unfold zbU zgP;rw[e];rfl};{unfold zcP zhR;rw[e];rfl}
theorem zbcq {h:Host}{a:GAct}(b:ieq a.Kind 8=true):zbU h a=zli h a.M a.X a.Y a.Z/\zcP h a=⟨zdO h a.M a.X a.Y a.Z,0⟩:=by have e:a.Kind=8:=qD b;constructor;{unfold zbU zgP;rw[e];rfl};{unfold zcP zhR;rw[e];rfl}
theorem zbcr {h:Host}{a:GAct}(b:ieq a.Kind 9=true):zbU h a=zf1 h a.M a.X/\zcP h a=⟨zgR h a.M a.X,0⟩:=by have e:a.Kind=9:=qD b;constructor;{unfold zbU zgP;rw[e];rfl};{unfold zcP zhR;rw[e];rfl}
theorem zbbb {h:Host}{a:GAct}(b:ieq a.Kind 10=true):zbU h a=zgA h a.M/\zcP h a=⟨zhy h a.M,zhx h a.M⟩:=by have e:a.Kind=10:=qD b;constructor;{unfold zbU zgP;rw[e];rfl};{unfold zcP zhR;rw[e];rfl}
theorem zbbc {h:Host}{a:GAct}(b:ieq a.Kind 11=true):zbU h a=znu h a.M a.G a.X a.Y/\zcP h a=⟨zg3 h a.M a.G a.X a.Y,0⟩:=by have e:a.Kind=11:=qD b;constructor;{unfold zbU zgP;rw[e];rfl};{unfold zcP zhR;rw[e];rfl}
theorem zbbd {h:Host}{a:GAct}(b:ieq a.Kind 12=true):zbU h a=zlj h a.M a.G a.X/\zcP h a=⟨zf8 h a.M a.G a.X,zmG h a.M a.G a.X⟩:=by have e:a.Kind=12:=qD b;constructor;{unfold zbU zgP;rw[e];rfl};{unfold zcP zhR;rw[e];rfl}
theorem zbbe {h:Host}{a:GAct}(b:ieq a.Kind 13=true):zbU h a=znC h a.M a.X/\zcP h a=⟨zta h a.M a.X,0⟩:=by have e:a.Kind=13:=qD b;constructor;{unfold zbU zi8;rw[e];rfl};{unfold zcP zp5;rw[e];rfl}
theorem zbbf {h:Host}{a:GAct}(b:ieq a.Kind 14=true):zbU h a=zp8 h a.M a.X/\zcP h a=⟨zvt h a.M a.X,0⟩:=by have e:a.Kind=14:=qD b;constructor;{unfold zbU zi8;rw[e];rfl};{unfold zcP zp5;rw[e];rfl}
theorem zbbg {h:Host}{a:GAct}(b:ieq a.Kind 15=true):zbU h a=zpV h a.M a.X/\zcP h a=⟨zb9 h a.M a.X,0⟩:=by have e:a.Kind=15:=qD b;constructor;{unfold zbU zi8;rw[e];rfl};{unfold zcP zp5;rw[e];rfl}
theorem zbbh {h:Host}{a:GAct}(b:ieq a.Kind 16=true):zbU h a=zjm h a.M a.X/\zcP h a=⟨zrb h a.M a.X,0⟩:=by have e:a.Kind=16:=qD b;constructor;{unfold zbU zi8;rw[e];rfl};{unfold zcP zp5;rw[e];rfl}
theorem zbbi {h:Host}{a:GAct}(b:ieq a.Kind 17=true):zbU h a=cold h/\zcP h a=⟨true,0⟩:=by have e:a.Kind=17:=qD b;constructor;{unfold zbU zi8;rw[e];rfl};{unfold zcP zp5;rw[e];rfl}
theorem zbci {h:Host}{a:GAct}(l:ieq a.Kind 1=false)(m:ieq a.Kind 2=false)(n:ieq a.Kind 3=false)(p:ieq a.Kind 4=false)(q:ieq a.Kind 5=false)(r:ieq a.Kind 6=false)(s:ieq a.Kind 7=false)(t:ieq a.Kind 8=false)(u:ieq a.Kind 9=false)(b:ieq a.Kind 10=false)(c:ieq a.Kind 11=false)(d:ieq a.Kind 12=false)(e:ieq a.Kind 13=false)(f:ieq a.Kind 14=false)(g:ieq a.Kind 15=false)(i:ieq a.Kind 16=false)(j:ieq a.Kind 17=false):zbU h a=h/\zcP h a=⟨false,0⟩:=by have k:zl a.Kind 1 17=false:=(by cases k:zl a.Kind 1 17;{rfl};{have:=zfT.1 k;have:=qW l;have:=qW m;have:=qW n;have:=qW p;have:=qW q;have:=qW r;have:=qW s;have:=qW t;have:=qW u;have:=qW b;have:=qW c;have:=qW d;have:=qW e;have:=qW f;have:=qW g;have:=qW i;have:=qW j;omega});unfold zbU zcP;rw[k];exact⟨rfl,rfl⟩
def zFU (N:Nat)(c:Host)(a:GAct):OA:=
 let g:=zhz c a.M a.G<|zmb a;let f:=zka c a.M a.G a.X a.Y;let e:=zjb c a.M a.X a.Y a.Z;let d:=(⟨a.Y,a.Z⟩:Slot); (cond (ieq a.Kind 1) (oN (zdu c a.M a.G)<|oN (zU<|zcC c a.M a.G)<|some [aH<|zk<|zcC c a.M a.G,.agg [.b<|zcO c a.M a.G,.i .i64 0]])<|cond (ieq a.Kind 2) (oN (zox c a.M a.G a.X d)<|oN (zU<|zgB c a.M a.G a.X d)<|some [aH<|zk<|zgB c a.M a.G a.X d,.agg [.b<|zhB c a.M a.G a.X d,.i .i64 0]])<|cond (ieq a.Kind 3) (oN (zlV c a.M a.G a.X)<|oN (zU<|zg8 c a.M a.G a.X)<|some [aH<|zk<|zg8 c a.M a.G a.X,.agg [.b<|zf9 c a.M a.G a.X,.i .i64 0]])<|cond (ieq a.Kind 4) (oN (zkN c a.M a.G a.X)<|oN (zU<|ze2 c a.M a.G a.X)<|some [aH<|zk<|ze2 c a.M a.G a.X,.agg [.b<|zfC c a.M a.G a.X,.i .i64 0]])<|cond (ieq a.Kind 5) (oN (zkP c a.M a.G)<|oN (zU<|ze4 c a.M a.G)<|some [aH<|zk<|ze4 c a.M a.G,.agg [.b<|zfE c a.M a.G,.i .i64 0]])<|cond (ieq a.Kind 6) (oN (zkO c a.M a.G a.X)<|oN (zU<|ze3 c a.M a.G a.X)<|some [aH<|zk<|ze3 c a.M a.G a.X,.agg [.b<|zfD c a.M a.G a.X,.i .i64 0]])<|cond (ieq a.Kind 7) (oN (zmY a)<|oN (zov c a.M a.G<|zmb a)<|oN (zU g)<|some [aH<|zk g,.agg [.b<|zhA c a.M a.G<|zmb a,.i .i64 0]])<|cond (ieq a.Kind 8) (oN (zm0 c a.M a.X a.Y a.Z)<|oN (zU e)<|some [aH<|zk e,.agg [.b<|zjc c a.M a.X a.Y a.Z,.i .i64 0]])<|cond (ieq a.Kind 9) (oN (zm1 c a.M a.X)<|oN (zU<|zf1 c a.M a.X)<|some [aH<|zk<|zf1 c a.M a.X,.agg [.b<|zgR c a.M a.X,.i .i64 0]])<|cond (ieq a.Kind 10) (oN (zc2 c a.M)<|oN (zU<|zgA c a.M)<|some [aH<|zk<|zgA c a.M,.agg [.b<|zhy c a.M,.i .i64<|zhx c a.M]])<|cond (ieq a.Kind 11) (oN (zow c a.M a.G a.X a.Y)<|oN (zU f)<|some [aH<|zk f,.agg [.b<|zkb c a.M a.G a.X a.Y,.i .i64 0]])<|cond (ieq a.Kind 12) (oN (zm2 c a.M a.G a.X)<|oN (zU<|zhZ c a.M a.G a.X)<|some [aH<|zk<|zhZ c a.M a.G a.X,.agg [.b<|zje c a.M a.G a.X,.i .i64<|zjd c a.M a.G a.X]])<|cond (ieq a.Kind 13) (oN (zfm c a.M a.X)<|oN (zU<|ziJ c a.M a.X)<|some [aH<|zk<|ziJ c a.M a.X,.agg [.b<|zkc c a.M a.X,.i .i64 0]])<|cond (ieq a.Kind 14) (oN (zfm c a.M a.X)<|oN (zU<|zjV c a.M a.X)<|some [aH<|zk<|zjV c a.M a.X,.agg [.b<|zlA c a.M a.X,.i .i64 0]])<|cond (ieq a.Kind 15) (oN (zfm c a.M a.X)<|oN (zU<|zk5 c a.M a.X)<|some [aH<|zk<|zk5 c a.M a.X,.agg [.b<|zdV c a.M a.X,.i .i64 0]])<|cond (ieq a.Kind 16) (oN (zm3 c a.M a.X)<|oN (zU<|zh1 c a.M a.X)<|some [aH<|zk<|zh1 c a.M a.X,.agg [.b<|zjf c a.M a.X,.i .i64 0]])<|cond (ieq a.Kind 17) (oN (zU c)<|oN (zU<|zy6 c)<|some [aH<|zk<|zy6 c,.agg [.b true,.i .i64 0]])<|oN (zU c)<|some [aH<|zk c,.agg [.b false,.i .i64 0]])
theorem zSz (a:Host)(b:GAct)(c:zgY a b=true):∃N,zFU N a b=some [aH<|zhC a b,aT .told<|ziH a b]:=by
 have d:=zK.1 c;have e:zdP (zbU a b):=(zS _).2 (zEN<|(zS _).1 d);have p:=@zbcj a b;have q:=@zbck a b;have r:=@zbcl a b;have s:=@zbcm a b;have t:=@zbcn a b;have u:=@zbco a b;have v:=@zbcp a b;have w:=@zbcq a b;have x:=@zbcr a b;have f:=@zbbb a b;have g:=@zbbc a b;have h:=@zbbd a b;have i:=@zbbe a b;have j:=@zbbf a b;have k:=@zbbg a b;have l:=@zbbh a b;have m:=@zbbi a b;have n:=@zbci a b;refine⟨0,?_⟩;unfold zFU oN;conv=>zeta
 refine br (λ_=>mu (mu ?_)) (λ_=>br (λ_=>mu (mu ?_)) λ_=>br (λ_=>mu (mu ?_)) λ_=>br (λ_=>mu (mu ?_)) λ_=>br (λ_=>mu (mu ?_)) λ_=>br (λ_=>mu (mu ?_)) λ_=>br (λ_=>must rfl (mu<|mu ?_)) λ_=>br (λ_=>mu (mu ?_)) λ_=>br (λ_=>mu (mu ?_)) λ_=>br (λ_=>mu (mu ?_)) λ_=>br (λ_=>mu (mu ?_)) λ_=>br (λ_=>mu (mu ?_)) λ_=>br (λ_=>mu (mu ?_)) λ_=>br (λ_=>mu (mu ?_)) λ_=>br (λ_=>mu (mu ?_)) λ_=>br (λ_=>mu (mu ?_)) λ_=>br (λ_=>mu (mu ?_)) λ_=>mu ?_);all_goals first|rfl|(simp only [*,zhC,ziH,cT,cF]<;>rfl)|simp_all[Ty.cells,zhC,ziH]
theorem zLa:vP 27 zlR:=kF2 zCU zn zbF zb7 (zq []) zSz
def z2X:zba:=[(202,zlR),(27,zlR)]++z2W
theorem zRe:zT z2X:=zi zwA (zi zLa zCU)
def zDM:List GAct->Host×List Told->Host×List Told
 |[],u=>u
 |a::l,u=>zDM l (zbU u.1 a,ap u.2 [zcP u.1 a])
def zzV (a:List (List<|List Ins))(l:List GAct):Host×List Told:=zDM (l.take 80) (zgZ a,[])
abbrev HSt:Type:=(List Told)×(List<|List Int)×(List Mon)×(List Entry)×(List Entry)
def hOf (t:HSt):Host:=⟨t.2.1,t.2.2.1,t.2.2.2.1,t.2.2.2.2⟩
def tOf (u:Host×List Told):HSt:=(u.2,u.1.Memory,u.1.Mons,u.1.Buffer,u.1.IoBuffer)
def zz4 (t:HSt):OA:=some [AV.agg<|zbf<|hOf t,AV.one<|.s .told t.1]
theorem zZR {e:List (List<|List Ins)}(h:zKp e):SmH (zgZ e):=by refine⟨show SmM z1e from ⟨by decide,by decide⟩,⟨?_,?_⟩,by simp[zgZ],by simp[zgZ]⟩;{simp only [zgZ,uO,vN];omega};{intro x d;simp only[zgZ,jH]at d;obtain⟨p,f,rfl⟩:=d;have b:=h.2 p (jY f);refine⟨show zvU.length<=1048576 by decide,show SmM zPS from ⟨by decide,by decide⟩,show (rp 8 false).length<=1048576 by decide,⟨?_,?_⟩,by simp[zis],⟨?_,?_⟩⟩;{simp only [zis,uO,vN];omega};{intro y a;simp only[zis,jH]at a;obtain⟨q,c,rfl⟩:=a;exact⟨b.2 q<|jY c,show znc.length<=1048576 by decide,show znc.length<=1048576 by decide,by simp[zgf]⟩};{simp only [zis,uO,vN];omega};{intro y a;simp only[zis,jH]at a;obtain⟨q,c,rfl⟩:=a;exact⟨show (rp 4 false).length<=1048576 by decide,show znc.length<=1048576 by decide⟩}}
theorem zGP {c:Host->GAct->Bool}(d:∀h a,SmH h->c h a=true)(m:Nat):∀(l:List GAct) (i:Nat) (u:Host×List Told),SmH u.1->u.2.length+l.length<=2147483648->
 goL (λ(i:Nat) x (t:HSt) n=>bif ilt (i:Int) (m:Int) then (cond (c (hOf t) x) (cond (few<|ln<|ap t.1 [zcP (hOf t) x]) (n (ap t.1 [zcP (hOf t) x],(zbU (hOf t) x).Memory,(zbU (hOf t) x).Mons,(zbU (hOf t) x).Buffer,(zbU (hOf t) x).IoBuffer)) none) none) else zz4 t) zz4 l i (tOf u)=zz4 (tOf<|zDM (l.take<|m-i) u)
 |[],i,u,_,_=>by simp[goL,zDM]
 |a::l,i,u,e,k=>by simp only[jB]at k;have g:few (ln<|ap u.2 [zcP u.1 a])=true:=zir (by simp[ap];omega);have j:hOf (tOf u)=u.1:=rfl;have f:(tOf u).1=u.2:=rfl;by_cases h:i<m;{have b:ilt (i:Int) (m:Int)=true:=qJ (by omega);simp only[goL,b,j,f,g,d _ _ e,cT];refine(zGP d m l (i+1) (zbU u.1 a,ap u.2 [zcP u.1 a]) (zEN e) (by simp[ap];omega)).trans ?_;rw[show m-i=m-(i+1)+1 by omega];rfl};{have b:ilt (i:Int) (m:Int)=false:=qH (by omega);simp only[goL,b,cF];rw[show m-i=0 by omega];rfl}
@[simp] abbrev zvL (a:List (List<|List Ins))(l:List GAct):Bool:=pc (zKp a/\l.length<=1048576)
@[simp] abbrev zvK (a:List (List<|List Ins))(l:List GAct):Host:=(zzV a l).1
@[simp] abbrev zDY (a:List (List<|List Ins))(l:List GAct):List Told:=(zzV a l).2
def zy2:Run:=rF2 (dS<|.sl<|.sl .ins) (dS .act) λb c=>(zvL b c,[aH<|zvK b c,aS .told<|zDY b c])
def zCp (N:Nat)(b:lQ)(g:lA):OA:=
 (oN (zxG b)<|iter (σ:=(Int×lA×lT×lM×lN×lE×lE×lM×lN×lE×lE×Unit)) N (λh a=>let e:=ix a.2.1 a.1 zbcV;let c:=(⟨a.2.2.2.2.2.2.2.1,a.2.2.2.2.2.2.2.2.1,a.2.2.2.2.2.2.2.2.2.1,a.2.2.2.2.2.2.2.2.2.2.1⟩:Host);let f:=ap a.2.2.1 [ziH c e];let d:=zhC c e; (cond (ilt a.1<|ln a.2.1) (cond (ilt a.1 80) (oN (inb a.1<|ln a.2.1)<|oN (zgY c e)<|oN (few<|ln f)<|h (zQ .i64 a.1 1,a.2.1,f,a.2.2.2.1,a.2.2.2.2.1,a.2.2.2.2.2.1,a.2.2.2.2.2.2.1,d.Memory,d.Mons,d.Buffer,d.IoBuffer,()))<|some [aH c,aS .told a.2.2.1])<|some [aH c,aS .told a.2.2.1])) (0,g,[],[],[],[],[],(ziI b).Memory,(ziI b).Mons,(ziI b).Buffer,(ziI b).IoBuffer,()))
def zQm:=zq [(121,0,{n:=39,tm:=[(1,.sl 0 []),(4,.lp 0 0),(6,.lp 1 0),(7,.sl 1 []),(8,ti)],lo:=[(0,[.sl 2 [],.sl 3 [],.sl 4 [],.sl 5 []]),(1,[.sl 6 [],.sl 7 [],.sl 8 [],.sl 9 []])],ro:=[(0,.act,false),(1,.told,true),(2,.sl .int,true),(3,.mon,true),(4,.entry,true),(5,.entry,true),(6,.sl .int,true),(7,.mon,true),(8,.entry,true),(9,.entry,true)]})]
theorem zPC (b:List lP)(c:List GAct)(k:zvL b c=true):∃N,zCp N b c=some [aH<|zvK b c,aS .told<|zDY b c]:=by
 obtain⟨j,g⟩:=zK.1 k;have f:=zda g;refine zcE λN e=>?_;unfold zCp oN;conv=>zeta
 refine must (zbi j) ?_;refine(zbq c (λi (t:lT×lM×lN×lE×lE)=>((i:Int),c,t.1,[],[],[],[],t.2.1,t.2.2.1,t.2.2.2.1,t.2.2.2.2,())) _ (λi (x:GAct) (t:HSt) m=>bif ilt (i:Int) ((80:Nat):Int) then (cond (zgY (hOf t) x) (cond (few<|ln<|ap t.1 [zcP (hOf t) x]) (m (ap t.1 [zcP (hOf t) x],(zbU (hOf t) x).Memory,(zbU (hOf t) x).Mons,(zbU (hOf t) x).Buffer,(zbU (hOf t) x).IoBuffer)) none) none) else zz4 t) (λ(t:lT×lM×lN×lE×lE)=>some [.agg<|zbf (⟨t.2.1,t.2.2.1,t.2.2.2.1,t.2.2.2.2⟩:Host),.one<|.s .told t.1]) (λi d t rec=>?_) (λt rec=>?_) _ ([],(ziI b).Memory,(ziI b).Mons,(ziI b).Buffer,(ziI b).IoBuffer)<|e f.1).trans ?_;{simp only [zbI d,zbm d,zbu d,zbj d f.1,cT];rfl};{simp only [zbz,cF]};exact zGP (λh a l=>zbi ((zS h).2 l)) 80 c 0 (zgZ b,[]) (zZR j) (by simpa using f.2)
theorem zIo:vP 121 zy2:=kF2 zRe zn zbF zb7 zQm zPC
def zUs:zba:=[(121,zy2)]++z2X
theorem zxv:zT zUs:=zi zIo zRe
def zEj (h:Host):Prop:=∃a l,zKp a/\(1<=a.length/\∀p∈a,1<=p.length/\∀x∈p,zd5 x=true)/\h=(zzV a l).1
theorem zJh {p:List Ins}(h:zd5 p=true):p.length<=12:=by unfold zd5 at h;cases a:p.all zff with|false=>rw[a]at h;cases h|true=>rw[a,cT]at h;have b:=(zfT.1 h).2;unfold ln at b;omega
def zxn (N:Nat)(c:Cur)  : OA :=
 let a:=({ (zn2 c) with b:=c.b}:Cur); (oN (zq7 c)<|oN (zoD a 20)<|oN (zvL (zvP c)<|ztj a 20)<|some [.agg [.s .u8 c.b,.i .i64 (zoE a 20).i,.i .i64 (zoE a 20).h],aH<|zvK (zvP c)<|ztj a 20])
def zq9 (c:Cur)(s:Cur)(a:Host):Prop:=(∃N,zxn N c=some (AV.agg (zcj s)::[aH a]))/\(s.b=c.b/\0<=s.i)/\(zEj a)
def zgF (c:Cur)  : Bool:=wC (zq9 c)
def zkj (c:Cur)  : Cur:=wS (zq9 c)
def ziL (c:Cur)  : Host:=wV (zq9 c)
theorem zxN {c:Cur}(h:zgF c=true):zq9 c (zkj c) (ziL c):=wG h
theorem zYM (c:Cur)  : 0<=(zkj c).i:=wP λh=>h.2.1.2
theorem zYL (c:Cur)(h:∃N,Ends (wE (λa=>aH a) c.b λa=>zEj a)<|zxn N c):zgF c=true:=wI (λ_ _ h=>h) h
def zyQ:zeS:=rP0 λc=>(zgF c,zkj c,[aH<|ziL c])
theorem zLU:zb8 Tryz.prog 64 [false,true,true] zyQ:=hP0 zxv zbh zWf zo (zq []) (λ_ h=>(zxN h).1)
theorem zL1 {c:Cur}(h:zbg c):zgF c=true:=by
 refine zYL c ⟨0,?_⟩;have e:zbg {zn2 c with b:=c.b}:=zbT h (z1P _);have a:=(zMZ<|z7B h).2.2;have f:=(zG9<|z2r e (m:=20) (by omega) (by omega)).2.2;unfold zxn oN;conv=>zeta
 have i:(ztj {zn2 c with b:=c.b} 20).length<=65:=by unfold ln at f;omega
 have S:zKp (zvP c):=⟨by omega,λp d=>by
  have g:=a.2.2 p d;exact⟨by omega,λx j=>by have:=zJh (g.2.2 x j);omega⟩⟩
 exact zG (z7B h) (zG (z2r e (by omega) (by omega))<|zG (zbi ⟨S,qU i (by decide)⟩)<|zbN aH (zYO _ _) ⟨_,_,S,⟨a.1,λp d=>⟨(a.2.2 p d).1,(a.2.2 p d).2.2⟩⟩,rfl⟩)
def z1s:zdk:=[(64,[false,true,true],zyQ)]++z9j
theorem zvv:zcn z1s:=zcY zWf (by
 intro x a;simp only[qG,qN,or_false]at a;rcases a with rfl
 .exact zLU)
theorem zUK {f c b:Type}{G:b->Prop}{a:Nat->f->c->(c->Option b)->Option b}{K:c->Option b}(e:∀i x t g,(∀t,Ends G<|g t)->Ends G (a i x t g))(d:∀t,Ends G<|K t):∀(l:List f) (i:Nat) (t:c),Ends G (goL a K l i t)
 |[],i,t=>d t
 |x::l,i,t=>e i x t _ (λt=>zUK e d l (i+1) t)
def zpI (N:Nat)(c:List Int):OA:=
 (iter (σ:=(Int×Int×(List Int)×lM×lN×lE×lE×Unit)) N (λd a=>let b:=(⟨a.2.2.1,0,a.1⟩:Cur); (cond (ilt a.2.1<|ln a.2.2.1) (cond (ilt a.2.1 4000) (oN (inb a.2.1<|ln a.2.2.1)<|d (wand .i64 (zQ .i64 (zQ .i64 (znd .i64 a.1 131)<|wcv .i64<|ix a.2.2.1 a.2.1 0) 7) 1073741823,zQ .i64 a.2.1 1,a.2.2.1,a.2.2.2.1,a.2.2.2.2.1,a.2.2.2.2.2.1,a.2.2.2.2.2.2.1,()))<|oN (zgF b)<|some [aH<|ziL b])<|oN (zgF b)<|some [aH<|ziL b])) (zQ .i64 94701<|ln c,0,c,[],[],[],[],()))
def zQl:=zq [(39,0,{n:=32,tm:=[(0,.sl 0 []),(3,ti),(4,ti)],lo:=[(0,[.sl 1 [],.sl 2 [],.sl 3 [],.sl 4 []])],ro:=[(0,.u8,false),(1,.sl .int,true),(2,.mon,true),(3,.entry,true),(4,.entry,true)],sk:=[(0,2,0,.lp 0 0)]})]
def ztM (b:List Int)(a:Host):Prop:=(∃N,zpI N b=some [aH a])/\(zEj a)
def zkK (a:List Int):Bool:=uC (T:=Host) (λr=>ztM a r)
def zWv (a:List Int):Host:=uV (λr=>ztM a r)
def zqH (a:List Int):Host:=(zWv a)
theorem zDX {a:List Int}(h:zkK a=true):ztM a (zqH a):=uG h
theorem zWu (c:List Int)(h:∃N,Ends (λa=>∃b,a=[aH b]/\(zEj b))<|zpI N c):zkK c=true:=by obtain⟨N,a,e,b,rfl,h⟩:=h;exact zbi ⟨b,⟨N,e⟩,h⟩
def zy1:Run:=rF1 (dS .u8) λb=>(zkK b,[aH<|zqH b])
theorem zPA (a:List Int)(b:zkK a=true):∃N,zpI N a=some [aH<|zqH a]:=by exact(zDX b).1
theorem zIn:vP 24 zy1:=kF1 zxv zbh zvv zo zQl zPA
theorem zKL {b:List Int}(h:b.length<=big):zkK b=true:=by
 refine zWu b (zcE λN e=>?_);unfold zpI oN;conv=>zeta
 have c:∀t,Ends (λa=>∃g,a=[aH g]/\zEj g) (cond (zgF ⟨b,0,t⟩) (some [aH<|ziL ⟨b,0,t⟩]) none):=λt=>
  have f:zbg ⟨b,0,t⟩:=⟨kN 0,h⟩
  zG (zL1 f) ⟨_,rfl,_,rfl,(zxN<|zL1 f).2.2⟩
 refine(congrArg (Ends _)<|zbq b (λi (t:Int)=>(t,(i:Int),b,[],[],[],[],())) _ (λi x (t:Int) j=>bif ilt (i:Int) 4000 then j (wand .i64 (zQ .i64 (zQ .i64 (znd .i64 t 131)<|wcv .i64 x) 7) 1073741823) else (cond (zgF ⟨b,0,t⟩) (some [aH<|ziL ⟨b,0,t⟩]) none)) (λ(t:Int)=>cond (zgF ⟨b,0,t⟩) (some [aH<|ziL ⟨b,0,t⟩]) none) (λi d t rec=>?_) (λt rec=>?_) N (zQ .i64 94701<|ln b)<|e h).mpr ?_;{simp only [zbI d,zbm d,zbu d,zbj d h,cT]};{simp only [zbz,cF]};exact zUK (λi x t j k=>zbG (λ_=>k _) λ_=>c t) c _ _ _
def z2E:zba:=[(24,zy1)]++zUs
theorem z2F:zT z2E:=zi zIn zxv
instance:Inhabited Slot:=⟨⟨0,0⟩⟩
instance:Inhabited Entry:=⟨⟨0,0,0,0⟩⟩
instance:Inhabited GExit:=⟨⟨0,0,false,0⟩⟩
instance:Inhabited Guest:=⟨⟨[],0,0,[],[],⟨0,0,false⟩,0,⟨0,0,false,0⟩,false,[]⟩⟩
theorem zwd {c:Cur}(h:zbg c){n m:Int}(a:0<n)(b:n<=m):inb (zu c n) m=true:=by have:=zhf h a;exact qJ (by omega)
theorem zCK {c:Cur}(h:zbg c){n m:Int}(a:0<n)(b:n<=m+1):inr 0 (zu c n) m=true:=by have:=zhf h a;exact qJ (by omega)
theorem zDC {a:Type}(l:List a)(n:Int):(tk l n).length<=l.length:=by simp[tk];omega
theorem zjO {a:Type}(l:List a)(n:Int)(x:a):(up l n x).length=l.length:=by simp[up]
theorem z6u {a:Type}(l:List a)(n:Int):ln (tk l n)<=ln l:=by have:=zDC l n;unfold ln;omega
theorem z6v {a:Type}(l:List a)(n:Int)(x:a):ln (up l n x)=ln l:=by unfold ln;rw[zjO]
def I64 (x:Int):Prop:=-9223372036854775808<=x/\x<=9223372036854775807
theorem zVZ {f:Type}{c:Cur}(h:zbg c){P:f->Prop}{m:Int}(r:0<=m)(I:m<=1000){fc:Cur->Bool}{fs:Cur->Cur}{fv:Cur->f}(z:∀{c:Cur},zbg c->fc c=true)(C:∀c,0<=(fs c).i)(hg:∀{c:Cur},zbg c->P (fv c)){G:Ans->Prop}{R:Cur->List f->Ans}(w:∀s l,s.b=c.b->0<=s.i->ln l=m->(∀x∈l,P x)->G (R s l)){j:Type}(S:Int->Int×Int×List f->j){F:(j->OA)->j->OA}(v:∀rec t i k l,F rec (S t (i,k,l))=bif ilt t m then (cond (fc ⟨c.b,i,k⟩) (cond (few<|ln<|ap l [fv ⟨c.b,i,k⟩]) (rec<|S (zQ .i64 t 1) ((fs ⟨c.b,i,k⟩).i,(fs ⟨c.b,i,k⟩).h,ap l [fv ⟨c.b,i,k⟩])) none) none) else some (R ⟨c.b,i,k⟩ l)):Ends G (iter 1002 F<|S 0 (c.i,c.h,[])):=by refine zmB (λn s=>∃t i k l,s=S t (i,k,l)/\t+(n:Int)=1000/\0<=t/\t<=m/\0<=i/\(∀x∈l,P x)/\ln l=t) ?_ 1002 1000 _ ⟨0,c.i,c.h,[],rfl,rfl,kN 0,r,h.1,by simp,rfl⟩ (by omega);rintro n s rec ⟨t,i,k,l,rfl,D,u,E,p,q,H⟩ d;rw[v];have a:zbg ⟨c.b,i,k⟩:=zbT h p;refine zbG (λg=>?_) (λg=>?_);{have B:t<m:=qD g;have J:=ziZ (y:=1) u (by omega) (by omega) (by omega);refine zG (z a) (zG (zmC (by rw[zjo];omega))<|d (n-1) _ (by omega) ⟨_,_,_,_,rfl,by omega,by omega,by omega,C _,?_,by rw[zjo];omega⟩);intro x e;rcases jN.1 e with e|e;{exact q x e};{rw [qF.1 e];exact hg a}};{have A:¬ t<m:=qW g;exact zu8 (w _ l rfl p (by omega) q)}
def ztu (N:Nat)(c:Cur)  : OA :=
 let a:=zbb c [3,3,1,2,0,3,1,-1,4,9223372036854775807]; (oN (zbA c [3,3,1,2,0,3,1,-1,4,9223372036854775807])<|some [.agg [.s .u8 c.b,.i .i64 a.i,.i .i64 a.h],aI<|zbr c [3,3,1,2,0,3,1,-1,4,9223372036854775807]])
def znX (c:Cur)(s:Cur)(a:Int):Prop:=(∃N,ztu N c=some (AV.agg (zcj s)::[aI a]))/\(s.b=c.b/\0<=s.i)/\(True)
def zlW (c:Cur)  : Bool:=wC (znX c)
def zlX (c:Cur)  : Cur:=wS (znX c)
def zss (c:Cur)  : Int:=wV (znX c)
theorem zTi {c:Cur}(h:zlW c=true):znX c (zlX c) (zss c):=wG h
theorem zTk (c:Cur)  : 0<=(zlX c).i:=wP λh=>h.2.1.2
theorem zTj (c:Cur)(h:∃N,Ends (wE (λa=>aI a) c.b λa=>True)<|ztu N c):zlW c=true:=wI (λ_ _ h=>h) h
def zvy:zeS:=rP0 λc=>(zlW c,zlX c,[aI<|zss c])
theorem zFl:zb8 Tryz.prog 257 [false,true,true] zvy:=hP0 zfe zbh zvv zo (zq []) (λ_ h=>(zTi h).1)
theorem z6V {c:Cur}(h:zbg c):zlW c=true:=by
 refine zTj c ⟨0,?_⟩;unfold ztu oN;conv=>zeta
 exact zG (zfM h (by simp)) (zbN aI (zca _ _) trivial)
def z9k:zdk:=[(257,[false,true,true],zvy)]++z1s
theorem zWg:zcn z9k:=zcY zvv (by
 intro x a;simp only[qG,qN,or_false]at a;rcases a with rfl
 .exact zFl)
def z8i:zba:=[(112,zmW),(312,zjS),(313,zkI),(314,zlS)]++zNL
theorem zfP:zT z8i:=zi zyr (zi ztW<|zi zvg<|zi zwB zfe)
def zxi (N:Nat)(c:Cur)(d:Int):OA:=
 let e:=({ (zW c 5) with b:=c.b}:Cur);let a:=({ (zf e d) with b:=c.b}:Cur); (oN (zdD c 5)<|cond (zdS c 5) (oN zbV<|some [.agg [.s .u8 c.b,.i .i64 (zW c 5).i,.i .i64 (zW c 5).h],.agg [.i .i64 zbk.Page,.i .i64 zbk.Rights]])<|oN (zD e d)<|oN (zbA a [3,3,3,1,2])<|some [.agg [.s .u8 c.b,.i .i64 (zbb a [3,3,3,1,2]).i,.i .i64 (zbb a [3,3,3,1,2]).h],.agg [.i .i64<|zu e d,.i .i64<|zbr a [3,3,3,1,2]]])
def zqT (c:Cur)(a:Int)(s:Cur)(d:Slot):Prop:=(∃N,zxi N c a=some (AV.agg (zcj s)::[aT .slot d]))/\(s.b=c.b/\0<=s.i)/\(0<a->a<=1000->I64 d.Page)
def zke (c:Cur)(a:Int):Bool:=wC (zqT c a)
def zhH (c:Cur)(a:Int):Cur:=wS (zqT c a)
def zg9 (c:Cur)(a:Int):Slot:=wV (zqT c a)
theorem zxJ {c:Cur}{a:Int}(h:zke c a=true):zqT c a (zhH c a) (zg9 c a):=wG h
theorem zG7 (c:Cur)(a:Int):0<=(zhH c a).i:=wP λh=>h.2.1.2
theorem zYD (c:Cur)(a:Int)(h:∃N,Ends (wE (λd=>aT .slot d) c.b λd=>0<a->a<=1000->I64 d.Page)<|zxi N c a):zke c a=true:=wI (λ_ _ h=>h) h
def zyL:zeS:=rP1 dI λc b=>(zke c b,zhH c b,[aT .slot<|zg9 c b])
theorem zLJ:zb8 Tryz.prog 256 [false,true,true] zyL:=hP1 zfP zbh zWg zo (zq []) (λ_ _ h=>(zxJ h).1)
theorem zM7 {c:Cur}(h:zbg c)(a:Int):zke c a=true:=by
 refine zYD c a ⟨0,?_⟩;unfold zxi oN;conv=>zeta
 have d:zbg {zW c 5 with b:=c.b}:=zbT h (zcR _ _);have g:zbg {zf {zW c 5 with b:=c.b} a with b:=c.b}:=zbT h (zI _ _);refine zG (zkF h 5) (zbG (λ_=>zG rfl (zbN (aT .slot) (v:=⟨_,_⟩) (zcR _ _) λ_ _=>?_)) λ_=>zG (zbE d a) (zG (zfM g (by simp))<|zbN (aT .slot) (v:=⟨_,_⟩) (zca _ _) λe f=>?_));{exact⟨by decide,by decide⟩};{have:=zhf d e;exact⟨Int.le_trans (by decide) this.1,Int.le_trans (vO this.2) (by omega)⟩}
def z9l:zdk:=[(256,[false,true,true],zyL)]++z9k
theorem zJc:zcn z9l:=zcY zWg (by
 intro x a;simp only[qG,qN,or_false]at a;rcases a with rfl
 .exact zLJ)
def zzh (N:Nat)(c:Cur)(a:Int):OA:=
 let e:=({ (zhH c a) with b:=c.b}:Cur);let d:=({ (zf e 12) with b:=c.b}:Cur);let f:=zbb d [-1,-2,a,9223372036854775807,-9223372036854775808]; (oN (zke c a)<|oN (zD e 12)<|cond (ieq (zu e 12) 0) (oN (zbA d [-1,-2,a,9223372036854775807,-9223372036854775808])<|some [.agg [.s .u8 c.b,.i .i64 f.i,.i .i64 f.h],.agg [.i .i64<|zbr d [-1,-2,a,9223372036854775807,-9223372036854775808],.i .i64 (zg9 c a).Rights]])<|cond (ieq (zu e 12) 1) (oN (zlW d)<|some [.agg [.s .u8 c.b,.i .i64 (zlX d).i,.i .i64 (zlX d).h],.agg [.i .i64 (zg9 c a).Page,.i .i64<|zss d]])<|some [.agg [.s .u8 c.b,.i .i64 (zf e 12).i,.i .i64 (zf e 12).h],.agg [.i .i64 (zg9 c a).Page,.i .i64 (zg9 c a).Rights]])
def zst (c:Cur)(a:Int)(s:Cur)(d:Slot):Prop:=(∃N,zzh N c a=some (AV.agg (zcj s)::[aT .slot d]))/\(s.b=c.b/\0<=s.i)/\(0<a->a<=1000->I64 d.Page)
def zqR (c:Cur)(a:Int):Bool:=wC (zst c a)
def zqS (c:Cur)(a:Int):Cur:=wS (zst c a)
def zJm (c:Cur)(a:Int):Slot:=wV (zst c a)
theorem zMV {c:Cur}{a:Int}(h:zqR c a=true):zst c a (zqS c a) (zJm c a):=wG h
theorem z1y (c:Cur)(a:Int):0<=(zqS c a).i:=wP λh=>h.2.1.2
theorem z1x (c:Cur)(a:Int)(h:∃N,Ends (wE (λd=>aT .slot d) c.b λd=>0<a->a<=1000->I64 d.Page)<|zzh N c a):zqR c a=true:=wI (λ_ _ h=>h) h
def zA6:zeS:=rP1 dI λc b=>(zqR c b,zqS c b,[aT .slot<|zJm c b])
theorem zOP:zb8 Tryz.prog 177 [false,true,true] zA6:=hP1 zfP zbh zJc zo (zq []) (λ_ _ h=>(zMV h).1)
theorem zQ0 {c:Cur}(h:zbg c)(a:Int):zqR c a=true:=by
 refine z1x c a ⟨0,?_⟩;unfold zzh oN;conv=>zeta
 have d:zbg {zhH c a with b:=c.b}:=zbT h (zG7 _ _);have f:zbg {zf {zhH c a with b:=c.b} 12 with b:=c.b}:=zbT h (zI _ _);have g:=(zxJ<|zM7 h a).2.2;refine zG (zM7 h a) (zG (zbE d 12)<|zbG (λ_=>zG (zfM f (by simp)) (zbN (aT .slot) (v:=⟨zbr _ _,(zg9 c a).Rights⟩) (zca _ _) λe i=>?_)) λ_=>zbG (λ_=>zG (z6V f) (zbN (aT .slot) (v:=⟨(zg9 c a).Page,zss _⟩) (zTk _) λe d=>g e d)) λ_=>zbN (aT .slot) (v:=⟨(zg9 c a).Page,(zg9 c a).Rights⟩) (zI _ _) λe d=>g e d);have j:=zZJ f (l:=[-1,-2,a,9223372036854775807,-9223372036854775808]) (by simp);simp only[qG,qN,or_false]at j;unfold I64;dsimp only;omega
def zuR (N:Nat)(c:Cur)(g j:Int):OA:=
 (iter (σ:=(Int×Int×Int×Int×Int×lS×(List Int)×Unit)) N (λk a=>let e:=a.2.2.2.2.2.2.1;let d:=(⟨e,a.2.2.2.1,a.2.2.2.2.1⟩:Cur);let f:=ap a.2.2.2.2.2.1 [zg9 d a.2.1]; (cond (ilt a.2.2.1 a.1) (oN (zke d a.2.1)<|oN (few<|ln f)<|k (a.1,a.2.1,zQ .i64 a.2.2.1 1,(zhH d a.2.1).i,(zhH d a.2.1).h,f,e,()))<|some [.agg [.s .u8 e,.i .i64 a.2.2.2.1,.i .i64 a.2.2.2.2.1],aS .slot a.2.2.2.2.2.1])) (g,j,0,c.i,c.h,[],c.b,()))
def zQp:=zq [(176,0,{n:=22,tm:=[(0,.lp 0 0),(1,ti),(2,ti),(7,.sl 0 []),(8,ti)],lo:=[(0,[.sl 1 [],ti,ti])],ro:=[(0,.slot,true),(1,.u8,false)]})]
def zo1 (c:Cur)(a:Int)(d:Int)(s:Cur)(e:List Slot):Prop:=(∃N,zuR N c a d=some (AV.agg (zcj s)::[aS .slot e]))/\(s.b=c.b/\0<=s.i)/\(0<=a->a<=1000->ln e=a/\(0<d->d<=1000->∀s∈e,I64 s.Page))
def zjj (c:Cur)(a:Int)(b:Int):Bool:=wC (zo1 c a b)
def zL (c:Cur)(a:Int)(b:Int):Cur:=wS (zo1 c a b)
def zei (c:Cur)(a:Int)(b:Int):List Slot:=wV (zo1 c a b)
theorem zvM {c:Cur}{a:Int}{b:Int}(h:zjj c a b=true):zo1 c a b (zL c a b) (zei c a b):=wG h
theorem zjk (c:Cur)(a:Int)(b:Int):0<=(zL c a b).i:=wP λh=>h.2.1.2
theorem zWy (c:Cur)(a:Int)(d:Int)(h:∃N,Ends (wE (λe=>aS .slot e) c.b λe=>0<=a->a<=1000->ln e=a/\(0<d->d<=1000->∀s∈e,I64 s.Page))<|zuR N c a d):zjj c a d=true:=wI (λ_ _ h=>h) h
def zwK:zeS:=rP2 dI dI λc b d=>(zjj c b d,zL c b d,[aS .slot<|zei c b d])
theorem zIA:zb8 Tryz.prog 176 [false,true,true] zwK:=hP2 zfP zbh zJc zo zQp (λ_ _ _ h=>(zvM h).1)
theorem zzb {c:Cur}(h:zbg c){d:Int}(g:0<=d)(j:d<=1000)(a:Int):zjj c d a=true:=by
 refine zWy c d a ⟨1002,?_⟩;unfold zuR oN;conv=>zeta
 exact zVZ h (P:=λs=>0<a->a<=1000->I64 s.Page) g j (fc:=λc=>zke c a) (fs:=λc=>zhH c a) (fv:=λc=>zg9 c a) (R:=λs l=>AV.agg (zcj s)::[aS .slot l]) (λh=>zM7 h a) (λc=>zG7 c a) (λh=>(zxJ<|zM7 h a).2.2) (λs l m n p q=>⟨s,l,rfl,⟨m,n⟩,λ_ _=>⟨p,λe f s r=>q s r e f⟩⟩) ((λi t=>(d,a,(i:Int),t.1,t.2.1,t.2.2,c.b,())):Int->Int×Int×List Slot->_) (λrec t i k l=>rfl)
theorem zba2 {c:Cur}(h:zbg c){n m:Int}(a:0<=n)(b:n<=1000)(d:0<m)(e:m<=1000):ln (zei c n m)=n/\∀s∈zei c n m,I64 s.Page:=by have g:=(zvM<|zzb h a b m).2.2 a b;exact⟨g.1,g.2 d e⟩
def z9m:zdk:=[(177,[false,true,true],zA6),(176,[false,true,true],zwK)]++z9l
theorem zJd:zcn z9m:=zcY zJc (by
 intro x a;simp only[qG,qN,or_false]at a;rcases a with rfl|rfl
 .exact zOP
 .exact zIA)
def zpJ (N:Nat)(c:Cur)(a d:Int):OA:=
 let g:=zei c a d;let f:=({ (zL c a d) with b:=c.b}:Cur);let e:=({ (zf f 8) with b:=c.b}:Cur);let k:=zu e a;let j:=({ (zf e a) with b:=c.b}:Cur); (oN (zjj c a d)<|oN (zD f 8)<|cond (ieq (zu f 8) 0) (oN (zD e a)<|oN (zqR j d)<|oN (inb k<|ln g)<|share (up g k<|zJm j d) λl=>some [.agg [.s .u8 c.b,.i .i64 (zqS j d).i,.i .i64 (zqS j d).h],aS .slot l])<|cond (ieq (zu f 8) 1) (oN (zD e a)<|oN (inr 0 k<|ln g)<|some [.agg [.s .u8 c.b,.i .i64 (zf e a).i,.i .i64 (zf e a).h],aS .slot<|tk g k])<|some [.agg [.s .u8 c.b,.i .i64 (zf f 8).i,.i .i64 (zf f 8).h],aS .slot g])
def zlD (c:Cur)(a:Int)(d:Int)(s:Cur)(e:List Slot):Prop:=(∃N,zpJ N c a d=some (AV.agg (zcj s)::[aS .slot e]))/\(s.b=c.b/\0<=s.i)/\(0<a->a<=1000->ln e<=a/\(0<d->d<=1000->∀s∈e,I64 s.Page))
def zgV (c:Cur)(a:Int)(b:Int):Bool:=wC (zlD c a b)
def zic (c:Cur)(a:Int)(b:Int):Cur:=wS (zlD c a b)
def zge (c:Cur)(a:Int)(b:Int):List Slot:=wV (zlD c a b)
theorem zqP {c:Cur}{a:Int}{b:Int}(h:zgV c a b=true):zlD c a b (zic c a b) (zge c a b):=wG h
theorem zqQ (c:Cur)(a:Int)(b:Int):0<=(zic c a b).i:=wP λh=>h.2.1.2
theorem zMU (c:Cur)(a:Int)(d:Int)(h:∃N,Ends (wE (λe=>aS .slot e) c.b λe=>0<a->a<=1000->ln e<=a/\(0<d->d<=1000->∀s∈e,I64 s.Page))<|zpJ N c a d):zgV c a d=true:=wI (λ_ _ h=>h) h
def ztc:zeS:=rP2 dI dI λc b d=>(zgV c b d,zic c b d,[aS .slot<|zge c b d])
theorem zBT:zb8 Tryz.prog 97 [false,true,true] ztc:=hP2 zfP zbh zJd zo (zq []) (λ_ _ _ h=>(zqP h).1)
theorem zpN {c:Cur}(h:zbg c){n:Int}(a:0<n)(j:n<=1000)(m:Int):zgV c n m=true:=by
 refine zMU c n m ⟨0,?_⟩;unfold zpJ oN;conv=>zeta
 have l:zbg {zL c n m with b:=c.b}:=zbT h (zjk _ _ _);have i:zbg {zf {zL c n m with b:=c.b} 8 with b:=c.b}:=zbT h (zI _ _);have k:zbg {zf {zf {zL c n m with b:=c.b} 8 with b:=c.b} n with b:=c.b}:=zbT h (zI _ _);have g:=(zvM<|zzb h (vO a) j m).2.2 (vO a) j;generalize zei c n m=T at g;refine zG (zzb h (vO a) j m) (zG (zbE l 8)<|zbG (λ_=>zG (zbE i n) (zG (zQ0 k m)<|zG (zwd i a (by omega))<|znq<|zbN (aS .slot) (z1y _ _) λ_ _=>⟨by rw[z6v];omega,λe f s d=>?_⟩)) λ_=>zbG (λ_=>zG (zbE i n) (zG (zCK i a (by omega))<|zbN (aS .slot) (zI _ _) λ_ _=>⟨?_,λe f s d=>g.2 e f s (jY d)⟩)) λ_=>zbN (aS .slot) (zI _ _) λ_ _=>⟨by omega,g.2⟩);{rcases qZ d with d|rfl;{exact g.2 e f s d};{exact(zMV<|zQ0 k m).2.2 e f}};{have:=z6u T;exact Int.le_trans (this _) (by omega)}
def zxj (N:Nat)(c:Cur)  : OA :=
 (iter (σ:=(Int×Int×Int×(List Int)×(List Int)×Unit)) N (λf a=>let d:=(⟨a.2.2.2.2.1,a.2.1,a.2.2.1⟩:Cur);let e:=ap a.2.2.2.1 [zu d 100]; (cond (ilt a.1 4) (oN (zD d 100)<|oN (few<|ln e)<|f (zQ .i64 a.1 1,(zf d 100).i,(zf d 100).h,e,a.2.2.2.2.1,()))<|some [.agg [.s .u8 a.2.2.2.2.1,.i .i64 a.2.1,.i .i64 a.2.2.1],aS .int a.2.2.2.1])) (0,c.i,c.h,[],c.b,()))
def zTz:=zq [(178,0,{n:=16,tm:=[(0,.lp 0 0),(3,.sl 0 []),(4,ti)],lo:=[(0,[.sl 1 [],ti,ti])],ro:=[(0,.int,true),(1,.u8,false)]})]
def zqV (c:Cur)(s:Cur)(a:List Int):Prop:=(∃N,zxj N c=some (AV.agg (zcj s)::[aS .int a]))/\(s.b=c.b/\0<=s.i)/\(a.length=4)
def zkf (c:Cur)  : Bool:=wC (zqV c)
def zgD (c:Cur)  : Cur:=wS (zqV c)
def zpB (c:Cur)  : List Int:=wV (zqV c)
theorem zxK {c:Cur}(h:zkf c=true):zqV c (zgD c) (zpB c):=wG h
theorem zG8 (c:Cur)  : 0<=(zgD c).i:=wP λh=>h.2.1.2
theorem zYE (c:Cur)(h:∃N,Ends (wE (λa=>aS .int a) c.b λa=>a.length=4)<|zxj N c):zkf c=true:=wI (λ_ _ h=>h) h
def zyM:zeS:=rP0 λc=>(zkf c,zgD c,[aS .int<|zpB c])
theorem zLL:zb8 Tryz.prog 178 [false,true,true] zyM:=hP0 zfP zbh zJd zo zTz (λ_ h=>(zxK h).1)
theorem zMJ {c:Cur}(h:zbg c):zkf c=true:=by
 refine zYE c ⟨1002,?_⟩;unfold zxj oN;conv=>zeta
 exact zVZ h (P:=λ_=>True) (m:=4) (by omega) (by omega) (fc:=λc=>zD c 100) (fs:=λc=>zf c 100) (fv:=λc=>zu c 100) (R:=λs l=>AV.agg (zcj s)::[aS .int l]) (λh=>zbE h _) (λc=>zI c _) (λ_=>trivial) (λs l a d e f=>⟨s,l,rfl,⟨a,d⟩,by unfold ln at e;omega⟩) ((λi t=>((i:Int),t.1,t.2.1,t.2.2,c.b,())):Int->Int×Int×List Int->_) (λrec t i k l=>rfl)
def z9n:zdk:=[(97,[false,true,true],ztc),(178,[false,true,true],zyM)]++z9m
theorem zJe:zcn z9n:=zcY zJd (by
 intro x a;simp only[qG,qN,or_false]at a;rcases a with rfl|rfl
 .exact zBT
 .exact zLL)
def zzi (N:Nat)(c:Cur)(f:Int):OA:=
 (iter (σ:=(Int×Int×Int×Int×lM×(List Int)×Unit)) N (λg a=>let d:=(⟨a.2.2.2.2.2.1,a.2.2.1,a.2.2.2.1⟩:Cur);let e:=ap a.2.2.2.2.1 [zpB d]; (cond (ilt a.2.1 a.1) (oN (zkf d)<|oN (few<|ln e)<|g (a.1,zQ .i64 a.2.1 1,(zgD d).i,(zgD d).h,e,a.2.2.2.2.2.1,()))<|some [.agg [.s .u8 a.2.2.2.2.2.1,.i .i64 a.2.2.1,.i .i64 a.2.2.2.1],aS (.sl .int) a.2.2.2.2.1])) (f,0,c.i,c.h,[],c.b,()))
def zXp:=zq [(184,0,{n:=19,tm:=[(0,.lp 0 0),(1,ti),(5,.sl 0 []),(6,ti)],lo:=[(0,[.sl 1 [],ti,ti])],ro:=[(0,.sl .int,true),(1,.u8,false)]})]
def zsv (c:Cur)(a:Int)(s:Cur)(d:List (List Int)):Prop:=(∃N,zzi N c a=some (AV.agg (zcj s)::[aS (.sl .int) d]))/\(s.b=c.b/\0<=s.i)/\(0<=a->a<=1000->ln d=a/\∀r∈d,r.length=4)
def zjX (c:Cur)(a:Int):Bool:=wC (zsv c a)
def znY (c:Cur)(a:Int):Cur:=wS (zsv c a)
def zvN (c:Cur)(a:Int):List (List Int):=wV (zsv c a)
theorem zAf {c:Cur}{a0:Int}(h:zjX c a0=true):zsv c a0 (znY c a0) (zvN c a0):=wG h
theorem z1C (c:Cur)(a0:Int):0<=(znY c a0).i:=wP λh=>h.2.1.2
theorem z1B (c:Cur)(a:Int)(h:∃N,Ends (wE (λd=>aS (.sl .int) d) c.b λd=>(0<=a->a<=1000->ln d=a/\∀r∈d,r.length=4))<|zzi N c a):zjX c a=true:=wI (λ_ _ h=>h) h
def zA7:zeS:=rP1 dI λc b=>(zjX c b,znY c b,[aS (.sl .int)<|zvN c b])
theorem zyt:zb8 Tryz.prog 184 [false,true,true] zA7:=hP1 zfP zbh zJe zo zXp (λ_ _ h=>(zAf h).1)
theorem zbcF {c:Cur}(h:zbg c){a0:Int}(a:0<=a0)(d:a0<=1000):zjX c a0=true:=by
 refine z1B c a0 ⟨1002,?_⟩;unfold zzi oN;conv=>zeta
 exact zVZ h (P:=λr=>r.length=4) a d (fc:=zkf) (fs:=zgD) (fv:=zpB) (R:=λs l=>AV.agg (zcj s)::[aS (.sl .int) l]) zMJ zG8 (λh=>(zxK<|zMJ h).2.2) (λs l e f g j=>⟨s,l,rfl,⟨e,f⟩,λ_ _=>⟨g,j⟩⟩) ((λi t=>(a0,(i:Int),t.1,t.2.1,t.2.2,c.b,())):Int->Int×Int×List (List Int)->_) (λrec t i k l=>rfl)
def zuS (N:Nat)(c:Cur)  : OA :=
 let d:=zpB c;let e:=({ (zgD c) with b:=c.b}:Cur);let f:=zf e 6;let a:=({f with b:=c.b}:Cur);let g:=({ (zf a 4) with b:=c.b}:Cur); (oN (zkf c)<|oN (zD e 6)<|cond (ieq (zu e 6) 0) (oN (zD a 4)<|oN (inr 0 (zu a 4)<|ln d)<|some [.agg [.s .u8 c.b,.i .i64 (zf a 4).i,.i .i64 (zf a 4).h],aS .int<|tk d<|zu a 4])<|cond (ieq (zu e 6) 1) (oN (zD a 4)<|oN (zbA g [-1,99,100])<|oN (inb (zu a 4)<|ln d)<|share (up d (zu a 4)<|zbr g [-1,99,100]) λj=>some [.agg [.s .u8 c.b,.i .i64 (zbb g [-1,99,100]).i,.i .i64 (zbb g [-1,99,100]).h],aS .int j])<|cond (ieq (zu e 6) 2) (oN (few<|ln<|ap d [1])<|some [.agg [.s .u8 c.b,.i .i64 f.i,.i .i64 f.h],aS .int<|ap d [1]])<|some [.agg [.s .u8 c.b,.i .i64 f.i,.i .i64 f.h],aS .int d])
def zo2 (c:Cur)(s:Cur)(a:List Int):Prop:=(∃N,zuS N c=some (AV.agg (zcj s)::[aS .int a]))/\(s.b=c.b/\0<=s.i)/\(a.length<=5)
def zm4 (c:Cur)  : Bool:=wC (zo2 c)
def zm5 (c:Cur)  : Cur:=wS (zo2 c)
def zuv (c:Cur)  : List Int:=wV (zo2 c)
theorem zD0 {c:Cur}(h:zm4 c=true):zo2 c (zm5 c) (zuv c):=wG h
theorem zWA (c:Cur)  : 0<=(zm5 c).i:=wP λh=>h.2.1.2
theorem zWz (c:Cur)(h:∃N,Ends (wE (λa=>aS .int a) c.b λa=>a.length<=5)<|zuS N c):zm4 c=true:=wI (λ_ _ h=>h) h
def zwL:zeS:=rP0 λc=>(zm4 c,zm5 c,[aS .int<|zuv c])
theorem zIB:zb8 Tryz.prog 98 [false,true,true] zwL:=hP0 zfP zbh zJe zo (zq []) (λ_ h=>(zD0 h).1)
theorem zZh {c:Cur}(h:zbg c):zm4 c=true:=by
 refine zWz c ⟨0,?_⟩;unfold zuS oN;conv=>zeta
 have e:zbg {zgD c with b:=c.b}:=zbT h (zG8 _);have a:zbg {zf {zgD c with b:=c.b} 6 with b:=c.b}:=zbT h (zI _ _);have f:zbg {zf {zf {zgD c with b:=c.b} 6 with b:=c.b} 4 with b:=c.b}:=zbT h (zI _ _);have g:=(zxK<|zMJ h).2.2;generalize zpB c=T at g;have d:ln T=4:=(by unfold ln;omega);refine zG (zMJ h) (zG (zbE e 6)<|zbG (λ_=>zG (zbE a 4) (zG (zCK a (by omega) (by omega))<|zbN (aS .int) (zI _ _)<|qU (zDC T _) (by omega))) λ_=>zbG (λ_=>zG (zbE a 4) (zG (zfM f (by simp))<|zG (zwd a (by omega) (by omega))<|znq<|zbN (aS .int) (zca _ _) (by rw[zjO];omega))) λ_=>zbG (λ_=>zG (zmC (by rw[zjo];omega)) (zbN (aS .int) (zI _ _) ?_)) λ_=>zbN (aS .int) (zI _ _) (by omega));simp[ap];omega
def z9o:zdk:=[(184,[false,true,true],zA7),(98,[false,true,true],zwL)]++z9n
theorem zWh:zcn z9o:=zcY zJe (by
 intro x a;simp only[qG,qN,or_false]at a;rcases a with rfl|rfl
 .exact zyt
 .exact zIB)
def ztw (N:Nat)(c:Cur)  : OA :=
 let d:=({ (zhK c) with b:=c.b}:Cur);let a:=({ (zf d 10) with b:=c.b}:Cur);let e:=zbb a [-1,0,12,15,16,99,100,9223372036854775807]; (oN (zlE c)<|oN (zD d 10)<|cond (ieq (zu d 10) 0) (oN (zD a 11)<|some [.agg [.s .u8 c.b,.i .i64 (zf a 11).i,.i .i64 (zf a 11).h],.agg [.i .i64<|wsub .i64 (zu a 11) 1,.i .i64 (zhs c).X]])<|cond (ieq (zu d 10) 1) (oN (zbA a [-1,0,12,15,16,99,100,9223372036854775807])<|some [.agg [.s .u8 c.b,.i .i64 e.i,.i .i64 e.h],.agg [.i .i64 (zhs c).Op,.i .i64<|zbr a [-1,0,12,15,16,99,100,9223372036854775807]]])<|some [.agg [.s .u8 c.b,.i .i64 (zf d 10).i,.i .i64 (zf d 10).h],.agg [.i .i64 (zhs c).Op,.i .i64 (zhs c).X]])
def zn1 (c:Cur)(s:Cur)(a:Ins):Prop:=(∃N,ztw N c=some (AV.agg (zcj s)::[aT .ins a]))/\(s.b=c.b/\0<=s.i)/\(True)
def zl0 (c:Cur)  : Bool:=wC (zn1 c)
def zl1 (c:Cur)  : Cur:=wS (zn1 c)
def zxL (c:Cur)  : Ins:=wV (zn1 c)
theorem zTn {c:Cur}(h:zl0 c=true):zn1 c (zl1 c) (zxL c):=wG h
theorem zTp (c:Cur)  : 0<=(zl1 c).i:=wP λh=>h.2.1.2
theorem zTo (c:Cur)(h:∃N,Ends (wE (λa=>aT .ins a) c.b λa=>True)<|ztw N c):zl0 c=true:=wI (λ_ _ h=>h) h
def zvA:zeS:=rP0 λc=>(zl0 c,zl1 c,[aT .ins<|zxL c])
theorem zFn:zb8 Tryz.prog 261 [false,true,true] zvA:=hP0 zfP zbh zWh zo (zq []) (λ_ h=>(zTn h).1)
theorem z5h {c:Cur}(h:zbg c):zl0 c=true:=by
 refine zTo c ⟨0,?_⟩;unfold ztw oN;conv=>zeta
 have d:zbg {zhK c with b:=c.b}:=zbT h (zAg _);have a:zbg {zf {zhK c with b:=c.b} 10 with b:=c.b}:=zbT h (zI _ _);exact zG (zTL h) (zG (zbE d 10)<|zbG (λ_=>zG (zbE a 11) (zbN (aT .ins) (v:=⟨wsub .i64 _ 1,(zhs c).X⟩) (zI _ _) trivial)) λ_=>zbG (λ_=>zG (zfM a (by simp)) (zbN (aT .ins) (v:=⟨(zhs c).Op,zbr _ _⟩) (zca _ _) trivial)) λ_=>zbN (aT .ins) (v:=zhs c) (zI _ _) trivial)
def z9p:zdk:=[(261,[false,true,true],zvA)]++z9o
theorem zAb:zcn z9p:=zcY zWh (by
 intro x a;simp only[qG,qN,or_false]at a;rcases a with rfl
 .exact zFn)
def zrm (N:Nat)(c:Cur)  : OA :=
 let e:=zct c;let g:=({ (zbc c) with b:=c.b}:Cur);let k:=zf g 8;let d:=({k with b:=c.b}:Cur); (oN (ziK c)<|oN (zD g 8)<|cond (ieq (zu g 8) 0) (oN (zl0 d)<|oN (inb 0<|ln e)<|share (up e 0<|zxL d) λm=>some [.agg [.s .u8 c.b,.i .i64 (zl1 d).i,.i .i64 (zl1 d).h],aS .ins m])<|cond (ieq (zu g 8) 1) (iter (σ:=(Int×Int×lI×(List Int)×Unit)) N (λl a=>let j:=(⟨a.2.2.2.1,a.1,a.2.1⟩:Cur);let f:=({ (zf j 2) with b:=a.2.2.2.1}:Cur); (oN (zD j 2)<|cond (ilt (ln a.2.2.1)<|zQ .i64 12<|zu j 2) (oN (zlE f)<|oN (few<|ln<|ap a.2.2.1 [zhs f])<|l ((zhK f).i,(zhK f).h,ap a.2.2.1 [zhs f],a.2.2.2.1,()))<|some [.agg [.s .u8 a.2.2.2.1,.i .i64 (zf j 2).i,.i .i64 (zf j 2).h],aS .ins a.2.2.1])) (k.i,k.h,e,c.b,()))<|cond (ieq (zu g 8) 2) (oN (zD d 2)<|oN (inr 0 (zu d 2)<|ln e)<|some [.agg [.s .u8 c.b,.i .i64 (zf d 2).i,.i .i64 (zf d 2).h],aS .ins<|tk e<|zu d 2])<|some [.agg [.s .u8 c.b,.i .i64 k.i,.i .i64 k.h],aS .ins e])
def zJx:=zq [(180,1,{n:=34,tm:=[(0,.lp 0 0),(3,.sl 0 [])],lo:=[(0,[.sl 1 [],ti,ti])],ro:=[(0,.ins,true),(1,.u8,false)]})]
def zmr (c:Cur)(s:Cur)(a:List Ins):Prop:=(∃N,zrm N c=some (AV.agg (zcj s)::[aS .ins a]))/\(s.b=c.b/\0<=s.i)/\(a.length<=13)
def zkT (c:Cur)  : Bool:=wC (zmr c)
def zkU (c:Cur)  : Cur:=wS (zmr c)
def zqW (c:Cur)  : List Ins:=wV (zmr c)
theorem zy8 {c:Cur}(h:zkT c=true):zmr c (zkU c) (zqW c):=wG h
theorem zP4 (c:Cur)  : 0<=(zkU c).i:=wP λh=>h.2.1.2
theorem zP3 (c:Cur)(h:∃N,Ends (wE (λa=>aS .ins a) c.b λa=>a.length<=13)<|zrm N c):zkT c=true:=wI (λ_ _ h=>h) h
def ztZ:zeS:=rP0 λc=>(zkT c,zkU c,[aS .ins<|zqW c])
theorem zDj:zb8 Tryz.prog 180 [false,true,true] ztZ:=hP0 zfP zbh zAb zo zJx (λ_ h=>(zy8 h).1)
theorem zQZ {c:Cur}(h:zbg c):zkT c=true:=by
 refine zP3 c ⟨1002,?_⟩;unfold zrm oN;conv=>zeta
 have B:zbg {zbc c with b:=c.b}:=zbT h (zkh _);have q:zbg {zf {zbc c with b:=c.b} 8 with b:=c.b}:=zbT h (zI _ _);have g:=(zsy<|zDK h).2.2;have p:=zJh g;have j:1<=(zct c).length:=(by unfold zd5 at g;cases d:(zct c).all zff with|false=>rw[d] at g;cases g|true=>rw[d,cT] at g;have:=(zfT.1 g).1;unfold ln at this;omega);generalize zct c=T at p j;have y:1<=ln T/\ln T<=12:=(by unfold ln;omega);have e:(2:Int)<=ln T+1:=(by omega);refine zG (zDK h) (zG (zbE B 8)<|zbG (λ_=>zG (z5h q) (zG (qJ (by omega))<|znq<|zbN (aS .ins) (zTp _) (by rw[zjO];omega))) λ_=>zbG (λ_=>?_) λ_=>zbG (λ_=>zG (zbE q 2) (zG (zCK q (n:=2) (by omega) e)<|zbN (aS .ins) (zI _ _)<|qU (zDC T _) (by omega))) λ_=>zbN (aS .ins) (zI _ _) (by omega));{refine zmB (λn s=>s.2.2.1.length+n=13/\0<=s.1/\s.2.2.2.1=c.b) ?_ 1002 (13-T.length) _ ⟨by dsimp only;omega,zI _ _,rfl⟩ (by omega);rintro n ⟨i,k,l,b,u⟩ rec ⟨v,r,t⟩ m;dsimp only at v r t ⊢;subst t;have a:zbg ⟨c.b,i,k⟩:=zbT h r;have A:=zhf a (n:=2) (by omega);have z:=ziZ (x:=12) (by omega) (by omega) A.1 (by omega);have w:zbg {zf ⟨c.b,i,k⟩ 2 with b:=c.b}:=zbT h (zI _ _);refine zG (zbE a 2) (zbG (λd=>?_) λd=>?_);{have f:ln l<zQ .i64 12 (zu ⟨c.b,i,k⟩ 2):=qD d;rw[z]at f;unfold ln at f;exact zG (zTL w) (zG (zmC (by rw[zjo];unfold ln;omega))<|m (n-1) _ (by omega) ⟨by simp[ap];omega,zAg _,rfl⟩)};{exact zbN (aS .ins) (zI _ _) (by omega)}}
def zzk (N:Nat)(c:Cur)  : OA :=
 let a:=zc9 c;let e:=({ (zcQ c) with b:=c.b}:Cur);let f:=zf e 8;let d:=({f with b:=c.b}:Cur);let g:=zbb d [-1,255,256,9223372036854775807]; (oN (zlF c)<|oN (zD e 8)<|cond (ieq (zu e 8) 0) (oN (zbA d [-1,2,3,4])<|some [.agg [.s .u8 c.b,.i .i64 (zbb d [-1,2,3,4]).i,.i .i64 (zbb d [-1,2,3,4]).h],.agg [.i .i64<|zbr d [-1,2,3,4],.i .i64 a.Post,.b a.Open]])<|cond (ieq (zu e 8) 1) (oN (zbA d [-1,255,256,9223372036854775807])<|some [.agg [.s .u8 c.b,.i .i64 g.i,.i .i64 g.h],.agg [.i .i64 a.Traps,.i .i64<|zbr d [-1,255,256,9223372036854775807],.b a.Open]])<|cond (ieq (zu e 8) 2) (some [.agg [.s .u8 c.b,.i .i64 f.i,.i .i64 f.h],.agg [.i .i64 a.Traps,.i .i64 a.Post,.b<|nB a.Open]])<|some [.agg [.s .u8 c.b,.i .i64 f.i,.i .i64 f.h],.agg [.i .i64 a.Traps,.i .i64 a.Post,.b a.Open]])
def zsz (c:Cur)(s:Cur)(a:Ctl):Prop:=(∃N,zzk N c=some (AV.agg (zcj s)::[.agg<|zob a]))/\(s.b=c.b/\0<=s.i)/\(True)
def zqY (c:Cur)  : Bool:=wC (zsz c)
def zqZ (c:Cur)  : Cur:=wS (zsz c)
def zAh (c:Cur)  : Ctl:=wV (zsz c)
theorem z1E {c:Cur}(h:zqY c=true):zsz c (zqZ c) (zAh c):=wG h
theorem z1G (c:Cur)  : 0<=(zqZ c).i:=wP λh=>h.2.1.2
theorem z1F (c:Cur)(h:∃N,Ends (wE (λa=>.agg (zob a)) c.b λa=>True)<|zzk N c):zqY c=true:=wI (λ_ _ h=>h) h
def zA9:zeS:=rP0 λc=>(zqY c,zqZ c,[.agg<|zob<|zAh c])
theorem zOU:zb8 Tryz.prog 181 [false,true,true] zA9:=hP0 zfP zbh zAb zo (zq []) (λ_ h=>(z1E h).1)
theorem z5g {c:Cur}(h:zbg c):zqY c=true:=by
 refine z1F c ⟨0,?_⟩;unfold zzk oN nB;conv=>zeta
 have d:zbg {zcQ c with b:=c.b}:=zbT h (zAi _);have a:zbg {zf {zcQ c with b:=c.b} 8 with b:=c.b}:=zbT h (zI _ _);exact zG (z0n h) (zG (zbE d 8)<|zbG (λ_=>zG (zfM a (by simp)) (zbN (λx=>AV.agg (zob x)) (v:=⟨zbr _ _,(zc9 c).Post,(zc9 c).Open⟩) (zca _ _) trivial)) λ_=>zbG (λ_=>zG (zfM a (by simp)) (zbN (λx=>AV.agg (zob x)) (v:=⟨(zc9 c).Traps,zbr _ _,(zc9 c).Open⟩) (zca _ _) trivial)) λ_=>zbG (λ_=>zbN (λx=>AV.agg (zob x)) (v:=⟨(zc9 c).Traps,(zc9 c).Post,bif (zc9 c).Open then false else true⟩) (zI _ _) trivial) λ_=>zbN (λx=>AV.agg (zob x)) (v:=(zc9 c)) (zI _ _) trivial)
def zxl (N:Nat)(c:Cur)  : OA :=
 let f:=zf c 5;let d:=({f with b:=c.b}:Cur);let j:=zf d 100;let a:=zu d 100;let e:=({ (zf d 4) with b:=c.b}:Cur);let g:=ze5 (zu d 4)<|zdS e 2; (oN (zD c 5)<|cond (ieq (zu c 5) 0) (oN (zD d 4)<|oN (zdD e 2)<|oN (zg6 (zu d 4)<|zdS e 2)<|some [.agg [.s .u8 c.b,.i .i64 (zW e 2).i,.i .i64 (zW e 2).h],.agg [.i .i64 g.Kind,.i .i64 g.Page,.b g.Write,.i .i64 g.N]])<|cond (ieq (zu c 5) 1) (oN (zD d 100)<|oN (zfl a)<|some [.agg [.s .u8 c.b,.i .i64 j.i,.i .i64 j.h],.agg [.i .i64 (zfd a).Kind,.i .i64 (zfd a).Page,.b (zfd a).Write,.i .i64 (zfd a).N]])<|cond (ieq (zu c 5) 2) (oN (zD d 100)<|oN (zfl a)<|some [.agg [.s .u8 c.b,.i .i64 j.i,.i .i64 j.h],.agg [.i .i64 (zgq a).Kind,.i .i64 (zgq a).Page,.b (zgq a).Write,.i .i64 (zgq a).N]])<|cond (ieq (zu c 5) 3) (some [.agg [.s .u8 c.b,.i .i64 f.i,.i .i64 f.h],.agg [.i .i64 4,.i .i64 0,.b false,.i .i64 0]])<|some [.agg [.s .u8 c.b,.i .i64 f.i,.i .i64 f.h],.agg [.i .i64 0,.i .i64 0,.b false,.i .i64 0]])
def zq2 (c:Cur)(s:Cur)(a:GExit):Prop:=(∃N,zxl N c=some (AV.agg (zcj s)::[.agg<|zgw a]))/\(s.b=c.b/\0<=s.i)/\(True)
def zki (c:Cur)  : Bool:=wC (zq2 c)
def zgE (c:Cur)  : Cur:=wS (zq2 c)
def zcG (c:Cur)  : GExit:=wV (zq2 c)
theorem zYG {c:Cur}(h:zki c=true):zq2 c (zgE c) (zcG c):=wG h
theorem zxM (c:Cur)  : 0<=(zgE c).i:=wP λh=>h.2.1.2
theorem zYH (c:Cur)(h:∃N,Ends (wE (λa=>.agg (zgw a)) c.b λa=>True)<|zxl N c):zki c=true:=wI (λ_ _ h=>h) h
def zyO:zeS:=rP0 λc=>(zki c,zgE c,[.agg<|zgw<|zcG c])
theorem zLO:zb8 Tryz.prog 260 [false,true,true] zyO:=hP0 zfP zbh zAb zo (zq []) (λ_ h=>(zYG h).1)
theorem zUE {c:Cur}(h:zbg c):zki c=true:=by
 refine zYH c ⟨0,?_⟩;unfold zxl oN;conv=>zeta
 have a:zbg {zf c 5 with b:=c.b}:=zbT h (zI _ _);have d:zbg {zf {zf c 5 with b:=c.b} 4 with b:=c.b}:=zbT h (zI _ _);exact zG (zbE h 5) (zbG (λ_=>zG (zbE a 4) (zG (zkF d 2) (zG rfl (zbN (λx=>AV.agg (zgw x)) (v:=ze5 _ _) (zcR _ _) trivial)))) λ_=>zbG (λ_=>zG (zbE a 100) (zG rfl (zbN (λx=>AV.agg (zgw x)) (v:=zfd _) (zI _ _) trivial))) λ_=>zbG (λ_=>zG (zbE a 100) (zG rfl (zbN (λx=>AV.agg (zgw x)) (v:=zgq _) (zI _ _) trivial))) λ_=>zbG (λ_=>zbN (λx=>AV.agg (zgw x)) (v:=⟨4,0,false,0⟩) (zI _ _) trivial) λ_=>zbN (λx=>AV.agg (zgw x)) (v:=⟨0,0,false,0⟩) (zI _ _) trivial)
def z9q:zdk:=[(180,[false,true,true],ztZ),(181,[false,true,true],zA9),(260,[false,true,true],zyO)]++z9p
theorem zvw:zcn z9q:=zcY zAb (by
 intro x a;simp only[qG,qN,or_false]at a;rcases a with rfl|rfl|rfl
 .exact zDj
 .exact zOU
 .exact zLO)
def zzm (N:Nat)(c:Cur)  : OA :=
 let a:=zcG c;let e:=({ (zgE c) with b:=c.b}:Cur);let d:=({ (zf e 8) with b:=c.b}:Cur); (oN (zki c)<|oN (zD e 8)<|cond (ieq (zu e 8) 0) (oN (zD d 7)<|some [.agg [.s .u8 c.b,.i .i64 (zf d 7).i,.i .i64 (zf d 7).h],.agg [.i .i64<|wsub .i64 (zu d 7) 1,.i .i64 a.Page,.b a.Write,.i .i64 a.N]])<|cond (ieq (zu e 8) 1) (oN (zbA d [-1,3,4])<|some [.agg [.s .u8 c.b,.i .i64 (zbb d [-1,3,4]).i,.i .i64 (zbb d [-1,3,4]).h],.agg [.i .i64 a.Kind,.i .i64<|zbr d [-1,3,4],.b a.Write,.i .i64 a.N]])<|cond (ieq (zu e 8) 2) (oN (zbA d [-1,99,100])<|some [.agg [.s .u8 c.b,.i .i64 (zbb d [-1,99,100]).i,.i .i64 (zbb d [-1,99,100]).h],.agg [.i .i64 a.Kind,.i .i64 a.Page,.b a.Write,.i .i64<|zbr d [-1,99,100]]])<|some [.agg [.s .u8 c.b,.i .i64 (zf e 8).i,.i .i64 (zf e 8).h],.agg [.i .i64 a.Kind,.i .i64 a.Page,.b a.Write,.i .i64 a.N]])
def zsB (c:Cur)(s:Cur)(a:GExit):Prop:=(∃N,zzm N c=some (AV.agg (zcj s)::[.agg<|zgw a]))/\(s.b=c.b/\0<=s.i)/\(True)
def zq0 (c:Cur)  : Bool:=wC (zsB c)
def zq1 (c:Cur)  : Cur:=wS (zsB c)
def zAj (c:Cur)  : GExit:=wV (zsB c)
theorem z1J {c:Cur}(h:zq0 c=true):zsB c (zq1 c) (zAj c):=wG h
theorem z1L (c:Cur)  : 0<=(zq1 c).i:=wP λh=>h.2.1.2
theorem z1K (c:Cur)(h:∃N,Ends (wE (λa=>.agg (zgw a)) c.b λa=>True)<|zzm N c):zq0 c=true:=wI (λ_ _ h=>h) h
def zBb:zeS:=rP0 λc=>(zq0 c,zq1 c,[.agg<|zgw<|zAj c])
theorem zOW:zb8 Tryz.prog 183 [false,true,true] zBb:=hP0 zfP zbh zvw zo (zq []) (λ_ h=>(z1J h).1)
theorem z2s {c:Cur}(h:zbg c):zq0 c=true:=by
 refine z1K c ⟨0,?_⟩;unfold zzm oN;conv=>zeta
 have d:zbg {zgE c with b:=c.b}:=zbT h (zxM _);have a:zbg {zf {zgE c with b:=c.b} 8 with b:=c.b}:=zbT h (zI _ _);exact zG (zUE h) (zG (zbE d 8)<|zbG (λ_=>zG (zbE a 7) (zbN (λx=>AV.agg (zgw x)) (v:=⟨wsub .i64 _ 1,(zcG c).Page,(zcG c).Write,(zcG c).N⟩) (zI _ _) trivial)) λ_=>zbG (λ_=>zG (zfM a (by simp)) (zbN (λx=>AV.agg (zgw x)) (v:=⟨(zcG c).Kind,zbr _ _,(zcG c).Write,(zcG c).N⟩) (zca _ _) trivial)) λ_=>zbG (λ_=>zG (zfM a (by simp)) (zbN (λx=>AV.agg (zgw x)) (v:=⟨(zcG c).Kind,(zcG c).Page,(zcG c).Write,zbr _ _⟩) (zca _ _) trivial)) λ_=>zbN (λx=>AV.agg (zgw x)) (v:=(zcG c)) (zI _ _) trivial)
def zxm (N:Nat)(c:Cur)  : OA :=
 let a:=({ (zf c 256) with b:=c.b}:Cur);let d:=({ (zf a 256) with b:=c.b}:Cur);let e:=zbb d [0,1,128,255,zu c 256,zu a 256,-1,256,9223372036854775807]; (oN (zD c 256)<|oN (zD a 256)<|oN (zbA d [0,1,128,255,zu c 256,zu a 256,-1,256,9223372036854775807])<|some [.agg [.s .u8 c.b,.i .i64 e.i,.i .i64 e.h],aI<|zbr d [0,1,128,255,zu c 256,zu a 256,-1,256,9223372036854775807]])
def zq3 (c:Cur)(s:Cur)(a:Int):Prop:=(∃N,zxm N c=some (AV.agg (zcj s)::[aI a]))/\(s.b=c.b/\0<=s.i)/\(True)
def zoB (c:Cur)  : Bool:=wC (zq3 c)
def zoC (c:Cur)  : Cur:=wS (zq3 c)
def zxb (c:Cur)  : Int:=wV (zq3 c)
theorem zYI {c:Cur}(h:zoB c=true):zq3 c (zoC c) (zxb c):=wG h
theorem zYK (c:Cur)  : 0<=(zoC c).i:=wP λh=>h.2.1.2
theorem zYJ (c:Cur)(h:∃N,Ends (wE (λa=>aI a) c.b λa=>True)<|zxm N c):zoB c=true:=wI (λ_ _ h=>h) h
def zyP:zeS:=rP0 λc=>(zoB c,zoC c,[aI<|zxb c])
theorem zLP:zb8 Tryz.prog 182 [false,true,true] zyP:=hP0 zfP zbh zvw zo (zq []) (λ_ h=>(zYI h).1)
theorem zbb3 {c:Cur}(h:zbg c):zoB c=true:=by
 refine zYJ c ⟨0,?_⟩;unfold zxm oN;conv=>zeta
 have a:zbg {zf c 256 with b:=c.b}:=zbT h (zI _ _);have d:zbg {zf {zf c 256 with b:=c.b} 256 with b:=c.b}:=zbT h (zI _ _);exact zG (zbE h 256) (zG (zbE a 256)<|zG (zfM d (by simp))<|zbN aI (zca _ _) trivial)
def zuU (N:Nat)(c:Cur)  : OA :=
 let a:=zbb c [0,1,2,3,0,1,-1,4,9223372036854775807]; (oN (zbA c [0,1,2,3,0,1,-1,4,9223372036854775807])<|some [.agg [.s .u8 c.b,.i .i64 a.i,.i .i64 a.h],aI<|zbr c [0,1,2,3,0,1,-1,4,9223372036854775807]])
def zo4 (c:Cur)(s:Cur)(a:Int):Prop:=(∃N,zuU N c=some (AV.agg (zcj s)::[aI a]))/\(s.b=c.b/\0<=s.i)/\(True)
def zm6 (c:Cur)  : Bool:=wC (zo4 c)
def zm7 (c:Cur)  : Cur:=wS (zo4 c)
def zuw (c:Cur)  : Int:=wV (zo4 c)
theorem zWD {c:Cur}(h:zm6 c=true):zo4 c (zm7 c) (zuw c):=wG h
theorem zWF (c:Cur)  : 0<=(zm7 c).i:=wP λh=>h.2.1.2
theorem zWE (c:Cur)(h:∃N,Ends (wE (λa=>aI a) c.b λa=>True)<|zuU N c):zm6 c=true:=wI (λ_ _ h=>h) h
def zwN:zeS:=rP0 λc=>(zm6 c,zm7 c,[aI<|zuw c])
theorem zID:zb8 Tryz.prog 100 [false,true,true] zwN:=hP0 zfP zbh zvw zo (zq []) (λ_ h=>(zWD h).1)
theorem zba4 {c:Cur}(h:zbg c):zm6 c=true:=by
 refine zWE c ⟨0,?_⟩;unfold zuU oN;conv=>zeta
 exact zG (zfM h (by simp)) (zbN aI (zca _ _) trivial)
def zuT (N:Nat)(c:Cur)  : OA :=
 let e:=({ (zf c 3) with b:=c.b}:Cur);let d:=({ (zf e 4) with b:=c.b}:Cur);let a:=({ (zf d 6) with b:=c.b}:Cur); (oN (zD c 3)<|oN (zD e 4)<|oN (zD d 6)<|oN (zD a 3)<|some [.agg [.s .u8 c.b,.i .i64 (zf a 3).i,.i .i64 (zf a 3).h],.agg [.i .i64<|zQ .i64 1<|zu c 3,.i .i64<|zu e 4,.i .i64<|zu d 6,.i .i64<|zQ .i64 1<|zu a 3]])
def zo3 (c:Cur)(s:Cur)(a:Entry):Prop:=(∃N,zuT N c=some (AV.agg (zcj s)::[aT .entry a]))/\(s.b=c.b/\0<=s.i)/\(True)
def zjl (c:Cur)  : Bool:=wC (zo3 c)
def zh4 (c:Cur)  : Cur:=wS (zo3 c)
def zn0 (c:Cur)  : Entry:=wV (zo3 c)
theorem zWB {c:Cur}(h:zjl c=true):zo3 c (zh4 c) (zn0 c):=wG h
theorem zvO (c:Cur)  : 0<=(zh4 c).i:=wP λh=>h.2.1.2
theorem zWC (c:Cur)(h:∃N,Ends (wE (λa=>aT .entry a) c.b λa=>True)<|zuT N c):zjl c=true:=wI (λ_ _ h=>h) h
def zwM:zeS:=rP0 λc=>(zjl c,zh4 c,[aT .entry<|zn0 c])
theorem zIC:zb8 Tryz.prog 104 [false,true,true] zwM:=hP0 zfP zbh zvw zo (zq []) (λ_ h=>(zWB h).1)
theorem zNP {c:Cur}(h:zbg c):zjl c=true:=by
 refine zWC c ⟨0,?_⟩;unfold zuT oN;conv=>zeta
 have a:zbg {zf c 3 with b:=c.b}:=zbT h (zI _ _);have d:zbg {zf {zf c 3 with b:=c.b} 4 with b:=c.b}:=zbT h (zI _ _);have e:zbg {zf {zf {zf c 3 with b:=c.b} 4 with b:=c.b} 6 with b:=c.b}:=zbT h (zI _ _);exact zG (zbE h 3) (zG (zbE a 4)<|zG (zbE d 6)<|zG (zbE e 3)<|zbN (aT .entry) (v:=⟨_,_,_,_⟩) (zI _ _) trivial)
def z9r:zdk:=[(183,[false,true,true],zBb),(182,[false,true,true],zyP),(100,[false,true,true],zwN),(104,[false,true,true],zwM)]++z9q
theorem z6P:zcn z9r:=zcY zvw (by
 intro x a;simp only[qG,qN,or_false]at a;rcases a with rfl|rfl|rfl|rfl
 .exact zOW
 .exact zLP
 .exact zID
 .exact zIC)
section
open Go Go.RowKit
structure Cw (w0:World) (blk:Nat) (u:Value) (c:Cur) (w:World):Prop where
 os:w.os=w0.os
 tape:w.tape=w0.tape
 output:w.output=w0.output
 size:w0.heap.size<=w.heap.size
 keep:∀b,b<w0.heap.size->b≠blk->w.heap[b]?=w0.heap[b]?
 cur:∃e,w.heap[blk]?=some (.cells #[u,.int .i64 c.i,.int .i64 c.h] e (0,0))
theorem Cw.trans {g w1 h:World}{blk:Nat}{u:Value}{i d:Cur}(a:Cw g blk u i w1)(c:Cw w1 blk u d h):Cw g blk u d h :=
 ⟨c.os.trans a.os,c.tape.trans a.tape,c.output.trans a.output,qU a.size c.size,λb e f=>(c.keep b (jO e a.size) f).trans (a.keep b e f),c.cur⟩
theorem Cw.drew {a w:World}{blk:Nat}{u:Value}{c:Cur}(h:Cw a blk u c w):Cw a blk u c w.drew:=⟨h.os,h.tape,h.output,h.size,h.keep,h.cur⟩
theorem Cw.at (w:World)(blk:Nat)(u:Value)(c:Cur)(h:∃e,w.heap[blk]?=some (.cells #[u,.int .i64 c.i,.int .i64 c.h] e (0,0))):Cw w blk u c w:=⟨rfl,rfl,rfl,qX _,λ_ _ _=>rfl,h⟩
theorem Cw.alloc {d w:World}{blk:Nat}{u:Value}{c:Cur}(h:Cw d blk u c w)(a:blk<w.heap.size)(o:Obj):Cw d blk u c (w.alloc o):=
 ⟨h.os,h.tape,h.output,qU h.size (by simp),λb a g=>(heap_alloc_old w o<|jO a h.size).trans (h.keep b a g),by obtain⟨e,f⟩:=h.cur;exact⟨e,(heap_alloc_old w o a).trans f⟩⟩
theorem Cw.lt {b w:World}{blk:Nat}{u:Value}{c:Cur}(h:Cw b blk u c w):blk<w.heap.size:=by obtain⟨e,a⟩:=h.cur;exact(qQ.1 a).1
theorem zHJ {P:Program}{f:FuncId}{y:List CV->List AV->Option (Bool×List CV×List AV)}(V:zb8 P f [false,true,true] y){w:World}{blk:Nat}{u:Value}{c c2:Cur}{z:zZ}(q:∃e,w.heap[blk]?=some (.cells #[u,.int .i64 c.i,.int .i64 c.h] e (0,0)))(hu:Rep false w u (.s .u8 c.b) z)(W:∀x,z x->x<w.heap.size/\x≠blk){avs rs:List AV}{xs:List Value}{Ka:zZ}(l:zeb false w (zF avs) xs λ_=>Ka)(p:∀x,Ka x->x<w.heap.size/\x≠blk)(hr:y (zcj c) avs=some (true,zcj c2,rs)) :
 Calls P f (#[.pointer<|some ⟨blk,0,none⟩]++(zcc avs xs).toArray) w λe B=>∃C A,e = .returned (zlr<|zcc rs C)/\Cw w blk u c2 B/\zuA (zp6 f) B (zF rs) C A/\(∀i x,i<(zF rs).length->A i x->w.heap.size<=x/\x<B.heap.size):=by
 obtain⟨e,Y⟩:=q;refine(V.2 w blk _ e (zcj c) (λj x=>j=0/\z x) avs xs Ka (zcj c2) rs Y rfl rfl ?_ ?_ ?_ l ?_ hr).mono ?_
 .intro j cv v m k
  match j,m,k with
  | 0,m,k=>cases m;cases k;exact hu.weak (λx l=>⟨rfl,l⟩)
  | 1,m,k=>cases m;cases k;exact .i _ _ _
  | 2,m,k=>cases m;cases k;exact .i _ _ _
  |j+3,m,k=>simp[zcj]at m
 .intro j x _ l;exact W x l.2
 .intro i j x r t n hne l hx2;have:i=0:=l.1;subst this;simp[zbe]at n
 .intro x l;refine⟨(p x l).1,(p x l).2,λj t n d=>?_⟩;have:j=0:=d.1;subst this;simp[zbe]at n
 .intro E B hp;cases E with
  |panicked _=>exact hp.elim
  |outgrown=>exact hp.elim
  |returned v=>
   obtain⟨Q,R,S,T,U,a,G,K',C,A,I,L,g3,F,M,N,g7,O,g9,J,K⟩:=hp;have g:∀i x,i<(zcj c).length->zbe [false,true,true] i->¬ ((λ(j:Nat) x=>j=0/\z x) i x):=by intro i x r n d;have:i=0:=d.1;subst this;simp[zbe]at n
   have k:a = #[u,.int .i64 c2.i,.int .i64 c2.h]:=by
    have hs:a.size=3:=L;have D:=(F 0 _ (a[0]'(by omega)) rfl (jL _)).2 (by simp[zbe]);have H:=F 1 _ (a[1]'(by omega)) rfl (jL _);have E:=F 2 _ (a[2]'(by omega)) rfl (jL _);have D:u=a[0]'(by omega):=(by simpa using D);apply Array.ext;{exact hs}
    .intro i r hi2
     match i,r with
     | 0,_=>exact D.symm
     | 1,_=>exact H
     | 2,_=>exact E
     |i+3,h=>omega
   subst k;refine⟨C,A,by rw[N],⟨Q,R,S,T,λb X Z=>U b X Z λj t n d=>g j b t n d,G,I⟩,M,λi x r d=>?_⟩;obtain⟨k1,k2,k3⟩:=O i x r d;rcases k3 with⟨j,t,n,d⟩|d;{exact absurd d (g j x t n)};{exact⟨d,k1⟩}
def zfS (c:Cur):List (List Int):=zvN c 3
def zz0 (c:Cur):Cur:={znY c 3 with b:=c.b}
def z06 (c:Cur):Int:=zu (zz0 c) 8
def zjn (c:Cur):Cur:={zf (zz0 c) 8 with b:=c.b}
def z05 (c:Cur):Int:=zu (zjn c) 3
def zug (c:Cur):Cur:={zf (zjn c) 3 with b:=c.b}
def l04n (c:Cur):Int:=zu (zug c) 4
def z03 (c:Cur):Cur:={zf (zug c) 4 with b:=c.b}
def zvo (c:Cur):Int:=zbr (zjn c) [-1,100]
def z04 (c:Cur):Cur:={zbb (zjn c) [-1,100] with b:=c.b}
def zpK (_:Nat)(c:Cur):OA:=
 bif zjX c 3 then (bif zD (zz0 c) 8 then (bif ieq (z06 c) 0 then (cond (zD (zjn c) 3) (cond (zD (zug c) 4) (some (AV.agg (zcj<|z03 c)::[aS (.sl .int)<|up (zfS c) (z05 c)<|tk (ix (zfS c) 0 [])<|l04n c])) none) none)
  else (bif ieq (z06 c) 1 then (cond (zbA (zjn c) [-1,100]) (some (AV.agg (zcj<|z04 c)::[aS (.sl .int)<|up (zfS c) 1<|up (ix (zfS c) 1 []) 2<|zvo c])) none)
  else (cond (ieq (z06 c) 2) (cond (zD (zjn c) 3) (some (AV.agg (zcj<|zug c)::[aS (.sl .int)<|tk (zfS c)<|z05 c])) none)<|some (AV.agg (zcj<|zjn c)::[aS (.sl .int)<|zfS c])))) else none) else none
def zsu (c:Cur)(s:Cur)(a:List (List Int)):Prop:=(∃N,zpK N c=some (AV.agg (zcj s)::[aS (.sl .int) a]))/\(s.b=c.b/\0<=s.i)/\(a.length<=3/\∀r∈a,r.length<=4)
def zqU (c:Cur)  : Bool:=wC (zsu c)
def zjW (c:Cur)  : Cur:=wS (zsu c)
def zrP (c:Cur)  : List (List Int):=wV (zsu c)
theorem zMW {c:Cur}(h:zqU c=true):zsu c (zjW c) (zrP c):=wG h
theorem z1A (c:Cur)  : 0<=(zjW c).i:=wP λh=>h.2.1.2
theorem z1z (c:Cur)(h:∃N,Ends (wE (λa=>aS (.sl .int) a) c.b λa=>a.length<=3/\∀r∈a,r.length<=4)<|zpK N c):zqU c=true:=wI (λ_ _ h=>h) h
def ztF:zeS:=rP0 λc=>(zqU c,zjW c,[aS (.sl .int)<|zrP c])
theorem z6C {w:World}{blk:Nat}{u:Value}{c:Cur}{l:zZ}{n:Int}(g:∃e,w.heap[blk]?=some (.cells #[u,.int .i64 c.i,.int .i64 c.h] e (0,0)))(t:Rep false w u (.s .u8 c.b) l)(q:∀x,l x->x<w.heap.size/\x≠blk)(r:zjX c n=true) :
 Calls Tryz.prog 184 #[.pointer<|some ⟨blk,0,none⟩,.int .i64 n] w λe k=>∃v j,e = .returned v/\Cw w blk u {znY c n with b:=c.b} k/\Rep true k v (.s (.sl .int)<|zvN c n) j/\(∀x,j x->w.heap.size<=x/\x<k.heap.size):=by
 have:=zHJ (c:=c) (c2:=znY c n) zyt g t q (avs:=[.one<|.i .i64 n]) (rs:=[aS (.sl .int)<|zvN c n]) (xs:=[.int .i64 n]) (Ka:=λ_=>False) ⟨rfl,λi A x a d=>by
  match i,a,d with
  | 0,a,d=>cases a;cases d;exact .i _ _ _
  |i+1,a,d=>simp at d⟩ (λx d=>d.elim) (by show some (zjX ⟨c.b,c.i,c.h⟩ n,_,_)=_;rw[show (⟨c.b,c.i,c.h⟩:Cur)=c from rfl,r])
 refine Calls.mono this ?_
 rintro e k ⟨z,j,rfl,f,m,p⟩
 match z,m.1 with
 |[y],_=>exact⟨y,j 0,rfl,⟨f.os,f.tape,f.output,f.size,f.keep,f.cur⟩,m.2 0 _ y rfl rfl,λx d=>p 0 x (by simp[zF,AV.cvs]) d⟩
theorem zt3 {w:World}{blk:Nat}{u:Value}{c:Cur}{j:zZ}{n:Int}(g:∃e,w.heap[blk]?=some (.cells #[u,.int .i64 c.i,.int .i64 c.h] e (0,0)))(r:Rep false w u (.s .u8 c.b) j)(p:∀x,j x->x<w.heap.size/\x≠blk)(q:zD c n=true) :
 Calls Tryz.prog 65 #[.pointer<|some ⟨blk,0,none⟩,.int .i64 n] w λe l=>e = .returned (.int .i64<|zu c n)/\Cw w blk u {zf c n with b:=c.b} l:=by
 have:=zHJ (c:=c) (c2:=zf c n) zvj g r p (avs:=[.one<|.i .i64 n]) (rs:=[aI<|zu c n]) (xs:=[.int .i64 n]) (Ka:=λ_=>False) ⟨rfl,λi z x a d=>by
  match i,a,d with
  | 0,a,d=>cases a;cases d;exact .i _ _ _
  |i+1,a,d=>simp at d⟩ (λx d=>d.elim) (by show some (zD ⟨c.b,c.i,c.h⟩ n,_,_)=_;rw[show (⟨c.b,c.i,c.h⟩:Cur)=c from rfl,q])
 refine Calls.mono this ?_
 rintro e l ⟨t,v,rfl,f,k,A⟩
 match t,k.1,k.2 with
 |[y],_,m=>have:=(m 0 _ y rfl rfl).int_inv;subst this;exact⟨rfl,f.os,f.tape,f.output,f.size,f.keep,f.cur⟩
theorem z4l {w:World}{blk:Nat}{u:Value}{c:Cur}{k:zZ}{l:List Int}{v:Value}{Ka:zZ}(f:∃e,w.heap[blk]?=some (.cells #[u,.int .i64 c.i,.int .i64 c.h] e (0,0)))(t:Rep false w u (.s .u8 c.b) k)(q:∀x,k x->x<w.heap.size/\x≠blk)(r:zbA c l=true)(z:Rep false w v (.s .int l) Ka)(j:∀x,Ka x->x<w.heap.size/\x≠blk) :
 Calls Tryz.prog 101 #[.pointer<|some ⟨blk,0,none⟩,v] w λe n=>e = .returned (.int .i64<|zbr c l)/\Cw w blk u {zbb c l with b:=c.b} n:=by
 have:=zHJ (c:=c) (c2:=zbb c l) zs6 f t q (avs:=[.one<|.s .int l]) (rs:=[aI<|zbr c l]) (xs:=[v]) (Ka:=Ka) ⟨rfl,λi C x a g=>by
  match i,a,g with
  | 0,a,g=>cases a;cases g;exact z
  |i+1,a,g=>simp at g⟩ j (by show some (zbA ⟨c.b,c.i,c.h⟩ l,_,_)=_;rw[show (⟨c.b,c.i,c.h⟩:Cur)=c from rfl,r])
 refine Calls.mono this ?_
 rintro e n ⟨A,B,rfl,d,m,D⟩
 match A,m.1,m.2 with
 |[y],_,p=>have:=(p 0 _ y rfl rfl).int_inv;subst this;exact⟨rfl,d.os,d.tape,d.output,d.size,d.keep,d.cur⟩
theorem z4t {w:World}{v:Value}{l:List (List Int)}{K:zZ}(h:Rep true w v (.s (.sl .int) l) K)(n:l.length=3):∃(b off cap:Nat) (arr:Array Value) (e:TypeId) (V:Nat->Value) (c:Nat->zZ),v = .slice (some ⟨b,off,none⟩) 3 cap/\w.heap[b]?=some (.cells arr e (0,0))/\3<=cap/\off+cap<=arr.size/\K b/\
 (∀i x,i<3->c i x->K x/\x≠b)/\(∀i g x,i<3->g<3->c i x->c g x->i=g)/\(∀i,i<3->arr[off+i]?=some (V i))/\∀i x,l[i]?=some x->Rep true w (V i) (.s .int x) (c i):=by
 cases h with
 |nil=>simp at n
 |void _ _ _ B=>cases B
 |sl _ _ b off cap arr e E V c _ y k r p f u a d C z=>have:=k rfl;subst this;have t:Ty.width (.sl .int)=1:=rfl;rw[t,u1]at f;refine⟨b,off,cap,arr,e,λi=>V i 0,λi=>c i 0,by rw[n],y,by omega,f,u,λi x q j=>⟨(a i 0 x (by omega) (by decide) j).1,(a i 0 x (by omega) (by decide) j).2 rfl⟩,λi g x q A j m=>(d rfl i 0 g 0 x (by omega) (by decide) (by omega) (by decide) j m).1,λi q=>?_,λi x D=>z i x D 0 _ rfl⟩;have:=C i 0 (by omega) (by decide);rwa [t,u1,jZ] at this
theorem zWt {w:World}{v:Value}{l:List Int}{K:zZ}(h:Rep true w v (.s .int l) K)(d:l.length=4):∃(b off cap:Nat) (arr:Array Value) (e:TypeId),v = .slice (some ⟨b,off,none⟩) 4 cap/\w.heap[b]?=some (.cells arr e (0,0))/\4<=cap/\off+cap<=arr.size/\K b/\
 ∀i x,l[i]?=some x->arr[off+i]?=some (.int .i64 x):=by
 cases h with
 |nil=>simp at d
 |void _ _ _ u=>cases u
 |sl _ _ b off cap arr e A V z _ q c j f a p k g y r=>have:=c rfl;subst this;have m:Ty.width .int=1:=rfl;rw[m,u1]at a;refine⟨b,off,cap,arr,e,by rw[d],q,by omega,a,p,λi x n=>?_⟩;have t:i<l.length:=(qA.1 n).1;have:=y i 0 t (by decide);rw[m,u1,jZ] at this;rw[this,(r i x n 0 (.i .i64 x) rfl).int_inv]
theorem zJj {o:Bool}{w:World}{b off cap:Nat}{arr:Array Value}{e:TypeId}(g:w.heap[b]?=some (.cells arr e (0,0))){l:List Int}(r:l.length<=1000)(c:l.length<=cap)(m:off+cap<=arr.size)(n:∀i x,l[i]?=some x->arr[off+i]?=some (.int .i64 x)):Rep o w (.slice (some ⟨b,off,none⟩) l.length cap) (.s .int l) (λx=>x=b):=by
 refine .sl .int l b off cap arr e (0,0) (λi j=>.int .i64 (l.getD i 0)) (λ_ _ _=>False) _ g (λ_=>rfl) (by rw[zrq];omega) c (by show off+cap*1<=arr.size;omega) rfl (λi j x _ _ h=>h.elim) (λ_ i j t u x _ _ _ _ h=>h.elim) (λi j f k=>?_) (λi x p j q a=>?_);{have d:j=0:=(by have:j<1:=k;omega);subst d;have:=n i _ (qB f);show arr[off+i*1+0]?=_;rw[u1,jZ,this];simp[List.getD,qB f]}
 .match j,a with
  | 0,a=>cases a;have:l.getD i 0=x:=(by simp[List.getD,p]);show Rep o w (.int .i64<|l.getD i 0) _ _;rw[this];exact .i _ _ _
  |j+1,a=>simp[Ty.cells]at a
theorem zJk {w:World}{b off cap:Nat}{arr:Array Value}{e:TypeId}(n:w.heap[b]?=some (.cells arr e (0,0))){l:List (List Int)}(A:l.length<=1000)(c:l.length<=cap)(t:off+cap<=arr.size)(V:Nat->Value){K:zZ}(f:K b)(u:∀i,i<l.length->arr[off+i]?=some (V i))(r:∀i x,l[i]?=some x->∃d,Rep false w (V i) (.s .int x) d/\∀y,d y->K y):Rep false w (.slice (some ⟨b,off,none⟩) l.length cap) (.s (.sl .int) l) K:=by
 refine .sl (.sl .int) l b off cap arr e (0,0) (λi _=>V i) (λ_ _=>K) _ n (λ_=>rfl) (by rw[zrq];omega) c (by show off+cap*1<=arr.size;omega) f (λi j x _ _ h=>⟨h,λh=>by cases h⟩) (λh=>by cases h) (λi j p q=>?_) (λi x v j z a=>?_);{have g:j=0:=(by have:j<1:=q;omega);subst g;show arr[off+i*1+0]?=_;rw[u1,jZ];exact u i p}
 .match j,a with
  | 0,a=>cases a;obtain⟨d,k,m⟩:=r i x v;exact k.weak m
  |j+1,a=>simp[Ty.cells]at a
theorem zwp {w:World}{b o:Nat}{arr:Array Value}{e:TypeId}(a:w.heap[b]?=some (.cells arr e (0,0))):w.frozen? ⟨b,o,none⟩=false:=by simp[World.frozen?,a]
set_option maxHeartbeats 3000000 in
theorem zX3 {w:World}{blk:Nat}{u:Value}{c:Cur}{K0:zZ}{r:Ans}(N:Nat)(b5:∃e,w.heap[blk]?=some (.cells #[u,.int .i64 c.i,.int .i64 c.h] e (0,0)))(hu:Rep false w u (.s .u8 c.b) K0)(hK:∀x,K0 x->x<w.heap.size/\x≠blk)(hE:zpK N c=some r) :
 Calls Tryz.prog 102 #[.pointer<|some ⟨blk,0,none⟩] w λe p=>∃c2 l v Kr,r=AV.agg (zcj c2)::[aS (.sl .int) l]/\e = .returned v/\Cw w blk u c2 p/\Rep false p v (.s (.sl .int) l) Kr/\(∀x,Kr x->w.heap.size<=x/\x<p.heap.size):=by
 unfold zpK at hE;cases hm:zjX c 3 with
 |false=>rw[hm]at hE;cases hE
 |true=>
 cases K:zD (zz0 c) 8 with
 |false=>rw[hm,K]at hE;cases hE
 |true=>
 rw[hm,K,cT,cT]at hE;have a7:∀{p:World} {O:Cur},Cw w blk u O p->O.b=c.b->Rep false p u (.s .u8 O.b) K0/\∀x,K0 x->x<p.heap.size/\x≠blk:=by intro p O h e;rw[e];exact⟨hu.frame λx d=>h.keep x (hK x d).1 (hK x d).2,λx d=>⟨jO (hK x d).1 h.size,(hK x d).2⟩⟩
 have hM:=(zAf hm).2.2 (by omega) (by omega)
 have a8:(zfS c).length=3:=by have:=hM.1;unfold ln at this;unfold zfS;omega
 have h5:=(zji K).2.2 (by omega)
 obtain⟨k,hk⟩:∃k,zu (zz0 c) 8=k:=⟨_,rfl⟩;have f1:z06 c=k:=hk;rw[f1]at hE
 go_enter Tryz.func102,Tryz.ntmps102
 go_wp2_with fail
 refine(z6C b5 hu hK hm).mono ?_
 rintro e L ⟨v,K1,rfl,F,b3,m⟩
 have b3:Rep true L v (.s (.sl .int)<|zfS c) K1:=b3;have F:Cw w blk u (zz0 c) L:=F;obtain⟨E,t,a3,d7,e0,V,Kc,rfl,c3,g9,d1,Z,G,e9,hV,c1⟩:=z4t b3 a8;have h3:blk<w.heap.size:=by obtain⟨e,he⟩:=b5;exact(qQ.1 he).1
 have e5:E≠blk:=by have:=(m E Z).1;omega
 have cellAt:∀{p:World} {O:Cur},Cw L blk u O p->p.heap[E]?=some (.cells d7 e0 (0,0)):=λh=>(h.keep E (m E Z).2 e5).trans c3
 go_wp2_with fail
 obtain⟨g1,f2⟩:=a7 F rfl;refine(zt3 F.cur g1 f2 K).mono ?_;rw[hk]
 rintro e X ⟨rfl,B⟩
 have B:Cw L blk u (zjn c) X:=B;obtain⟨g2,f3⟩:=a7 (F.trans B) rfl;have g0:=B.size;have g8:w.heap.size<=E/\E<L.heap.size:=m E Z
 have b2:∀{p:World} (i:Nat) (x:List Int),(∀b,Kc i b->b<L.heap.size->b≠blk->b≠E->p.heap[b]?=L.heap[b]?)->i<3->(zfS c)[i]?=some x->Rep false p (V i) (.s .int x) (Kc i)/\∀y,Kc i y->w.heap.size<=y/\y<L.heap.size:=by intro p i x hf P d;refine⟨((c1 i x d).frame λy S=>?_).ro,λy S=>m y (G i y P S).1⟩;have:=m y (G i y P S).1;exact hf y S this.2 (by omega) (G i y P S).2
 go_wp2_with fail
 .have h0:ieq k 0=true:=by assumption
  rw[h0,cT]at hE;cases J:zD (zjn c) 3 with
  |false=>rw[J]at hE;cases hE
  |true=>
  cases b4:zD (zug c) 4 with
  |false=>rw[J,b4]at hE;cases hE
  |true=>
   rw[J,b4,cT,cT]at hE;have hj:=(zji J).2.2 (by omega);obtain⟨j,a0⟩:=uX hj.1;have c8:z05 c=(j:Int):=a0;have hn:=(zji b4).2.2 (by omega);obtain⟨n,c9⟩:=uX hn.1;have f8:l04n c=(n:Int):=c9;rw[c8,f8]at hE;rw[a0]at hj;rw[c9]at hn;have e6:j<3:=(by omega);have h6:n<4:=(by omega);obtain⟨R0,c0⟩:∃R0,(zfS c)[0]?=some R0:=⟨_,qB (by omega)⟩;have e2:R0.length=4:=hM.2 R0 (qK c0);obtain⟨f,a,g,T,e1,f0,c4,c6,a9,D,W⟩:=zWt (c1 0 R0 c0) e2;have Q:∀{p:World} {O:Cur},Cw L blk u O p->p.cell? ⟨E,t,none⟩=some (.slice (some ⟨f,a,none⟩) 4 g):=λh=>(by have:=hV 0 (by omega);rw[jZ,f0] at this;rw[cell_of_block<|cellAt h];exact this);have b7:∀{p:World} {O:Cur},Cw L blk u O p->p.cell? ⟨E,t+j,none⟩=some (V j)/\p.frozen? ⟨E,t+j,none⟩=false:=λh=>by rw[cell_of_block<|cellAt h];exact⟨hV j e6,zwp<|cellAt h⟩
   have d8:∀{I:World},Cw L blk u (z03 c) I->∃c2 l v Kr,r=AV.agg (zcj c2)::[aS (.sl .int) l]/\Ending.returned (.slice (some ⟨E,t,none⟩) 3 a3) = .returned v/\Cw w blk u c2 (I.setCell ⟨E,t+j,none⟩<|.slice (some ⟨f,a,none⟩) n g)/\Rep false (I.setCell ⟨E,t+j,none⟩<|.slice (some ⟨f,a,none⟩) n g) v (.s (.sl .int) l) Kr/\
    (∀x,Kr x->w.heap.size<=x/\x<(I.setCell ⟨E,t+j,none⟩<|.slice (some ⟨f,a,none⟩) n g).heap.size):=by
    intro I h4;have hz:=h4.size;have a6:=m f (G 0 f (by omega) D).1
    have U:f≠blk:=by omega
    have a5:f≠E:=(G 0 f (by omega) D).2
    have ho:∀b,b≠E->(I.setCell ⟨E,t+j,none⟩<|.slice (some ⟨f,a,none⟩) n g).heap[b]?=I.heap[b]?:=λb K=>heap_setCell_other I _ b _ K;have d0:=heap_setCell_same I E (t+j) d7 e0 (.slice (some ⟨f,a,none⟩) n g) (cellAt h4);have A:=F.trans h4;refine⟨_,_,_,K1,(Option.some.inj hE).symm,rfl,⟨A.os,A.tape,A.output,by rw[World.size_setCell];exact A.size,λb K hn=>(ho b (by omega)).trans (A.keep b K hn),by obtain⟨e,he⟩:=A.cur;exact⟨e,(ho blk λh=>e5 h.symm).trans he⟩⟩,?_,λx d=>⟨(m x d).1,by rw[World.size_setCell];have:=m x d;omega⟩⟩
    have c7:ix (zfS c) 0 []=R0:=by unfold ix;simp[List.getD,c0]
    have a1:(up (zfS c) (j:Int)<|tk (ix (zfS c) 0 []) (n:Int)).length=3:=by rw[zjO];exact a8
    have:=zJk d0 (l:=up (zfS c) (j:Int) (tk (ix (zfS c) 0 []) (n:Int))) (by omega) (cap:=a3) (off:=t) (by omega) (by simpa using d1) (λi=>if i=j then .slice (some ⟨f,a,none⟩) n g else V i) Z (λi P=>by
     rw[a1]at P;rw[kF]
     by_cases M:i=j
     .subst M;rw[if_pos rfl,if_pos (by omega),if_pos rfl]
     .rw [if_neg (by omega),if_neg M]
      exact hV i P) (λi x d=>by
     have P:i<3:=by rw[<- a1];exact(qA.1 d).1
     unfold up at d;rw[jC]at d
     by_cases M:i=j
     .subst M;rw[kH,if_pos rfl,if_pos (by omega),c7]at d
      cases d;refine⟨λx=>x=f,?_,λy S=>by rw[S];exact(G 0 f (by omega) D).1⟩
      have hl:(tk R0 (n:Int)).length=n:=by simp[tk];omega
      have:=zJj (o:=false) (w:=I.setCell ⟨E,t+i,none⟩ (.slice (some ⟨f,a,none⟩) n g)) (b:=f) (off:=a) (cap:=g) (arr:=T) (e:=e1) ((ho f a5).trans ((h4.keep f a6.2 U).trans c4)) (l:=tk R0 (n:Int)) (by omega) (by omega) a9 (λq z hq=>by
       unfold tk at hq;rw[jM]at hq;split at hq
       .exact W q z hq
       .cases hq)
      rw[hl] at this;rw[if_pos rfl];exact this
     .rw [kH,if_neg (by omega)]at d
      rw[if_neg M];exact⟨Kc i,(b2 i x (λb _ K hn c3=>(ho b c3).trans (h4.keep b K hn)) P d).1,λy S=>(G i y P S).1⟩)
    rw[a1] at this;exact this
   have Y:Cw L blk u (zjn c) X.drew:=B.drew;obtain⟨e8,e7⟩:=a7 (F.trans Y) rfl;have d2:=Q Y
   go_region_with (first
    |(go_at_call_of 65 (Value.int IntKind.i64 3);refine(zt3 (c:=zjn c) (n:=3) Y.cur e8 e7 J).mono ?_;rw[a0];rintro e w3 ⟨rfl,H⟩;have H:Cw X.drew blk u (zug c) w3:=H;have C:=Y.trans H;have d3:=Q C;obtain⟨g3,f4⟩:=a7 (F.trans C) rfl)
    |(go_at_call_of 65 (Value.int IntKind.i64 4);refine(zt3 (c:=zug c) (n:=4) C.cur g3 f4 b4).mono ?_;rw[c9];rintro e I ⟨rfl,b8⟩;have b8:Cw w3 blk u (z03 c) I:=b8;have b9:=C.trans b8;have d4:=Q b9;obtain⟨d5,d6⟩:=b7 b9))
   (all_goals go_wp2);(all_goals go_ret);all_goals exact d8 b9
 .have h0:ieq k 0=false:=by assumption
  have h1:ieq k 1=true:=by assumption
  rw[h0,h1,cF,cT]at hE;cases c5:zbA (zjn c) [-1,100] with
  |false=>rw[c5]at hE;cases hE
  |true=>
   rw[c5,cT]at hE;obtain⟨R1,a4⟩:∃R1,(zfS c)[1]?=some R1:=⟨_,qB (by omega)⟩;have e3:R1.length=4:=hM.2 R1 (qK a4);obtain⟨f,a,g,T,e1,e4,c4,c6,a9,D,W⟩:=zWt (c1 1 R1 a4) e3;have a6:=m f (G 1 f (by omega) D).1;have U:f≠blk:=(by omega);have a5:f≠E:=(G 1 f (by omega) D).2;have R:∀{p:World} {O:Cur},Cw L blk u O p->p.cell? ⟨E,t+1,none⟩=some (.slice (some ⟨f,a,none⟩) 4 g):=λh=>(by have:=hV 1 (by omega);rw[e4] at this;rw[cell_of_block<|cellAt h];exact this);have a2:∀{p:World} {O:Cur},Cw L blk u O p->p.heap[f]?=some (.cells T e1 (0,0)):=λh=>(h.keep f a6.2 U).trans c4;have b6:∀{p:World} {O:Cur},Cw L blk u O p->p.cell? ⟨f,a+2,none⟩=some (.int .i64 R1[2])/\p.frozen? ⟨f,a+2,none⟩=false:=λh=>by rw[cell_of_block<|a2 h];exact⟨W 2 _<|qB (by omega),zwp<|a2 h⟩
   have Y:Cw L blk u (zjn c) X.drew:=B.drew;have d2:=R Y;have d9:∀{I:World},Cw L blk u (z04 c) I->∃c2 l v Kr,r=AV.agg (zcj c2)::[aS (.sl .int) l]/\Ending.returned (.slice (some ⟨E,t,none⟩) 3 a3) = .returned v/\Cw w blk u c2 (I.setCell ⟨f,a+2,none⟩<|.int .i64<|zvo c)/\Rep false (I.setCell ⟨f,a+2,none⟩<|.int .i64<|zvo c) v (.s (.sl .int) l) Kr/\
    (∀x,Kr x->w.heap.size<=x/\x<(I.setCell ⟨f,a+2,none⟩<|.int .i64<|zvo c).heap.size):=by
    intro I h4;have hz:=h4.size;have ho:∀b,b≠f->(I.setCell ⟨f,a+2,none⟩<|.int .i64<|zvo c).heap[b]?=I.heap[b]?:=λb K=>heap_setCell_other I _ b _ K;have d0:=heap_setCell_same I f (a+2) T e1 (.int .i64<|zvo c) (a2 h4);have A:=F.trans h4;refine⟨_,_,_,K1,(Option.some.inj hE).symm,rfl,⟨A.os,A.tape,A.output,by rw[World.size_setCell];exact A.size,λb K hn=>(ho b (by omega)).trans (A.keep b K hn),by obtain⟨e,he⟩:=A.cur;exact⟨e,(ho blk λh=>U h.symm).trans he⟩⟩,?_,λx d=>⟨(m x d).1,by rw[World.size_setCell];have:=m x d;omega⟩⟩
    have c7:ix (zfS c) 1 []=R1:=by unfold ix;show (zfS c).getD 1 []=R1;simp[List.getD,a4]
    have a1:(up (zfS c) 1<|up (ix (zfS c) 1 []) 2<|zvo c).length=3:=by rw[zjO];exact a8
    have:=zJk ((ho E λh=>a5 h.symm).trans (cellAt h4)) (l:=up (zfS c) 1 (up (ix (zfS c) 1 []) 2<|zvo c)) (by omega) (cap:=a3) (off:=t) (by omega) d1 V Z (λi P=>hV i (by omega)) (λi x d=>by
     have P:i<3:=by rw[<- a1];exact(qA.1 d).1
     unfold up at d;rw[jC]at d
     by_cases M:i=1
     .subst M;rw[show (1:Int).toNat=1 from rfl,if_pos rfl,if_pos (by omega),c7]at d
      cases d;refine⟨λx=>x=f,?_,λy S=>by rw[S];exact(G 1 f (by omega) D).1⟩
      have hl:(List.set R1 (2:Int).toNat<|zvo c).length=4:=by simp;omega
      have:=zJj (o:=false) (w:=I.setCell ⟨f,a+2,none⟩ (.int .i64<|zvo c)) (b:=f) (off:=a) (cap:=g) d0 (l:=List.set R1 (2:Int).toNat (zvo c)) (by omega) (by omega) (by simpa using a9) (λq z hq=>by
       rw[jC]at hq;rw[kF]
       by_cases f9:q=2
       .subst f9;rw[show (2:Int).toNat=2 from rfl,if_pos rfl,if_pos (by omega)]at hq
        cases hq;rw[if_pos rfl,if_pos (by omega)]
       .rw [show (2:Int).toNat=2 from rfl,if_neg (by omega)]at hq
        rw[if_neg (by omega)]
        exact W q z hq)
      rw[hl] at this;rw[e4];exact this
     .rw [show (1:Int).toNat=1 from rfl,if_neg (by omega)]at d
      refine⟨Kc i,(b2 i x (λb f6 K hn g7=>?_) P d).1,λy S=>(G i y P S).1⟩;exact(ho b λe=>M (e9 i 1 b P (by omega) f6 (by rw[e];exact D))).trans (h4.keep b K hn))
    rw[a1] at this;exact this
   have hA:Cw L blk u (zjn c) (X.alloc<|Obj.cells #[Value.int .i64<|-1,Value.int .i64 100] 3).drew:=(B.alloc B.lt _).drew;obtain⟨g4,f5⟩:=a7 (F.trans hA) rfl;have dA:=R hA;have g5:Rep false (X.alloc<|Obj.cells #[Value.int .i64<|-1,Value.int .i64 100] 3).drew (.slice (some ⟨X.heap.size,0,none⟩) 2 2) (.s .int [-1,100]) (λx=>x=X.heap.size):=by
    have hh:(X.alloc<|Obj.cells #[Value.int .i64<|-1,Value.int .i64 100] 3).drew.heap[X.heap.size]?=some (.cells #[Value.int .i64<|-1,Value.int .i64 100] 3 (0,0)):=heap_alloc_new X _;exact zJj (o:=false) hh (l:=[-1,100]) (cap:=2) (off:=0) (by decide) (by decide) (by decide) (λi x d=>by
     match i,d with
     | 0,d=>cases d;rfl
     | 1,d=>cases d;rfl
     |i+2,d=>simp at d)
   go_region_with (first
    |(go_at_call_of 101 (Value.slice (some ⟨X.heap.size,0,none⟩) 2 2);refine(z4l (c:=zjn c) (l:=[-1,100]) hA.cur g4 f5 c5 g5 (λx d=>by rw[d];exact⟨by simp,Nat.ne_of_gt B.lt⟩)).mono ?_;rintro e w3 ⟨rfl,H⟩;have H:Cw (X.alloc<|Obj.cells #[Value.int .i64<|-1,Value.int .i64 100] 3).drew blk u (z04 c) w3:=H;have C:=hA.trans H;have d3:=R C;obtain⟨d4,d5⟩:=b6 C))
   (all_goals go_wp2);(all_goals go_ret);all_goals exact d9 C
 .have h0:ieq k 0=false:=by assumption
  have h1:ieq k 1=false:=by assumption
  have h2:ieq k 2=true:=by assumption
  rw[h0,h1,h2,cF,cF,cT]at hE;cases J:zD (zjn c) 3 with
  |false=>rw[J]at hE;cases hE
  |true=>
   rw[J,cT]at hE;have hj:=(zji J).2.2 (by omega);obtain⟨j,a0⟩:=uX hj.1;have c8:z05 c=(j:Int):=a0;rw[c8]at hE;refine(zt3 B.cur g2 f3 J).mono ?_;rw[a0];rintro e w3 ⟨rfl,H⟩;have H:Cw X blk u (zug c) w3:=H;go_wp2;go_ret;have e6:j<3:=(by omega);have f7:(tk (zfS c) (j:Int)).length=j:=(by simp[tk];omega);have C:=B.trans H;refine⟨_,_,_,K1,(Option.some.inj hE).symm,rfl,F.trans C,?_,λx d=>⟨(m x d).1,by have:=m x d;have:=C.size;omega⟩⟩
   have:=zJk (cellAt C) (l:=tk (zfS c) (j:Int)) (by omega) (cap:=a3) (off:=t) (by omega) d1 V Z (λi P=>hV i (by omega)) (λi x d=>by
    have P:i<(tk (zfS c) (j:Int)).length:=(qA.1 d).1;have g6:(zfS c)[i]?=some x:=by unfold tk at d;rw[jM]at d;split at d;{exact d};{cases d}
    exact⟨Kc i,(b2 i x (λb _ K hn _=>C.keep b K hn) (by omega) g6).1,λy S=>(G i y (by omega) S).1⟩)
   rw[f7] at this;exact this
 .have h0:ieq k 0=false:=by assumption
  have h1:ieq k 1=false:=by assumption
  have h2:ieq k 2=false:=by assumption
  rw[h0,h1,h2,cF,cF,cF]at hE
  go_ret
  exact⟨_,_,_,K1,(Option.some.inj hE).symm,rfl,F.trans B,(b3.frame λx d=>B.keep x (m x d).2 (by have:=m x d;omega)).ro,λx d=>⟨(m x d).1,by have:=m x d;omega⟩⟩
theorem zU6 {c:Cur}(h:zbg c):zqU c=true:=by
 refine z1z c ⟨0,?_⟩;unfold zpK;have t:=zbcF h (a0:=3) (by omega) (by omega);have y:zbg (zz0 c):=zbT h (z1C _ _);have k:zbg (zjn c):=zbT h (zI _ _);have z:zbg (zug c):=zbT h (zI _ _);have p:=(zAf t).2.2 (by omega) (by omega);have A:(zfS c).length=3:=(by have:=p.1;unfold ln at this;unfold zfS;omega);have f:∀r∈zfS c,r.length<=4:=λr f=>k7 (p.2 r f);have u:∀n,(ix (zfS c) n []).length<=4:=(by intro n;unfold ix List.getD;cases e:(zfS c)[n.toNat]? with|none=>simp|some r=>exact f r (qK e));have g:∀(n:Int) (r:List Int),r.length<=4->∀q∈up (zfS c) n r,q.length<=4:=by intro n r j q e;rcases qZ e with e|rfl;{exact f q e};{exact j}
 have d:∀(s:Cur) (l:List (List Int)),s.b=c.b->0<=s.i->l.length<=3->(∀r∈l,r.length<=4)->Ends (λa=>∃s m,a=(AV.agg (zcj s)::[aS (.sl .int) m])/\(s.b=c.b/\0<=s.i)/\(m.length<=3/\∀r∈m,r.length<=4)) (some (AV.agg (zcj s)::[aS (.sl .int) l])):=
  λs l v w x j=>⟨_,rfl,s,l,rfl,⟨v,w⟩,x,j⟩
 exact zG t (zG (zbE y 8) (zbG (λ_=>zG (zbE k 3) (zG (zbE z 4) (d _ _ rfl (zI _ _) (by rw[zjO];omega) (g _ _<|qU (zDC _ _)<|u _))))
  (λ_=>zbG (λ_=>zG (zfM k (by simp)) (d _ _ rfl (zca _ _) (by rw[zjO];omega) (g _ _ (by rw[zjO];exact u _)))) λ_=>zbG (λ_=>zG (zbE k 3) (d _ _ rfl (zI _ _) (qU (zDC _ _) (by omega)) λr e=>f r (jY e))) λ_=>d _ _ rfl (zI _ _) (by omega) f)))
theorem zOQ:zb8 Tryz.prog 102 [false,true,true] ztF:=by
 refine⟨zkq (by kernel_rfl),?_⟩;intro w blk d e cs K T xs Ka U rs D P a4 k A X n W g;unfold ztF rP0 at g;obtain⟨⟨p,q,r⟩,rfl,g⟩:=z4g g;obtain⟨rfl,R,rfl,rfl⟩:=zwH g;dsimp only at R ⊢;have hs:d.size=3:=P;have M:xs=[]:=List.eq_nil_of_length_eq_zero n.1;subst M;obtain⟨N,hE⟩:=(zMW R).1;have v1:=(k 1 _ (d[1]'(by omega)) rfl (jL _)).int_inv;have v2:=(k 2 _ (d[2]'(by omega)) rfl (jL _)).int_inv
 have m:d = #[d[0]'(by omega),.int .i64 q,.int .i64 r]:=by
  apply Array.ext;{exact hs}
  .intro i E hi2
   match i,E with
   | 0,_=>rfl
   | 1,_=>exact v1
   | 2,_=>exact v2
   |i+3,h=>omega
 have hu:=k 0 _ (d[0]'(by omega)) rfl (jL _);have f:Rep false w (d[0]'(by omega)) (.s .u8 p) (K 0):=hu;generalize d[0]'(by omega)=u at m f;subst m;refine(zX3 (c:=⟨p,q,r⟩) (u:=u) (K0:=K 0) N ⟨e,D⟩ f (λx n=>A 0 x (show 0<3 by decide) n) hE).mono ?_;rintro e2 w' ⟨z,l,v,S,hr,rfl,y,Y,t⟩;have B:AV.agg (zcj<|zjW ⟨p,q,r⟩)::[aS (.sl .int)<|zrP ⟨p,q,r⟩]=AV.agg (zcj z)::[aS (.sl .int) l]:=hr;simp only[List.cons.injEq,AV.agg.injEq,AV.one.injEq,and_true]at B;obtain⟨C,I⟩:=B;have I:zrP ⟨p,q,r⟩=l:=(by cases I;rfl);subst I;have O:zjW ⟨p,q,r⟩=z:=(by have C:=C;simp only[zcj,List.cons.injEq,CV.s.injEq,CV.i.injEq,true_and,and_true,heq_eq_eq]at C;obtain⟨F,G,H⟩:=C;generalize zjW ⟨p,q,r⟩=s at F G H;obtain⟨a1,a2,a3⟩:=s;obtain⟨b1,b2,b3⟩:=z;simp only at F G H;rw[F,G,H]);rw[O];obtain⟨V,J⟩:=y.cur;refine⟨y.os,y.tape,y.output,y.size,λb D hn _=>y.keep b D hn,#[u,.int .i64 z.i,.int .i64 z.h],V,λ_ _=>False,[v],λ_=>S,J,rfl,rfl,?_,⟨rfl,λi Q x a n=>?_⟩,rfl,λj x _ h=>h.elim,λi x E L=>⟨(t x L).2,?_,.inr (t x L).1⟩,λi j x _ _ _ h=>h.elim,?_,λi j x _ _ h=>h.elim⟩
 .intro j Q u' a f
  match j,a,f with
  | 0,a,f=>cases a;exact⟨λh=>by simp[zbe]at h,λ_=>f⟩
  | 1,a,f=>cases a;cases f;rfl
  | 2,a,f=>cases a;cases f;rfl
  |j+3,a,f=>simp[zcj]at a
 .match i,a,n with
  | 0,a,n=>cases a;cases n;exact Y
  |i+1,a,n=>simp at n
 {have:=(qQ.1 D).1;have:=(t x L).1;omega};{intro i j Q x E ho Z a0 _;have h1:i<1:=(qA.1 E).1;have h2:j<1:=Z;omega}
def z9s:zdk:=[(102,[false,true,true],ztF)]++z9r
theorem zWi:zcn z9s:=zcY z6P (by
 intro x a;simp only[qG,qN,or_false]at a;rcases a with rfl
 .exact zOQ)
end
end
end Go.Proofs.YtdlfljbgoopanaaGreat.E
