/- What is proved here: a part of the proof that the statement of this claim holds (several texts of wip/, laid together). -/
import Derived.Test.YtnnmbkjhakbicaaGreatX4
import Derived.Shelf.Bits.Mul64
import Derived.Ground.NamesProg
import Derived.Laws.CopyOwn
import Derived.Deep.RegionLaw
import Derived.WalkKit
import Derived.Tactics2
namespace Go.Proofs.YtnnmbkjhakbicaaGreat.E
open Go
set_option linter.constructorNameAsVariable false
set_option linter.unusedVariables false
set_option maxRecDepth 100000
set_option linter.unusedSimpArgs false
set_option linter.unusedSectionVars false
noncomputable section
def z5q:zY:=[(174,zkS),(94,zkS),(193,zjH),(143,zjH)]++zYS
theorem zlq:zK z5q:=zf zuv (zf zHB<|zf zvR<|zf zvW zke)
theorem zTt {a b:Bool}(h:(a=true)↔(b=true)):a=b:=by cases a<;>cases b<;>simp_all
@[simp] theorem z8T (x:Int):zk x 0 3=hasB x 4:=zTt (by rw[ze4];unfold hasB;rw[decide_eq_true_iff];omega)
@[simp] theorem zMO (x:Int):zk x 0 7=hasB x 8:=zTt (by rw[ze4];unfold hasB;rw[decide_eq_true_iff];omega)
def zlJ (t:List Slot)(p:Int)(s:Slot):List Slot:=bif hasB p (ln t) then up t p s else t
@[simp] theorem z8U (t:List Slot)(p:Int)(s:Slot):(zlJ t p s).length=t.length:=by unfold zlJ;cases hasB p (ln t)<;>simp
@[simp] abbrev zju (t:List Slot)(p:Int)(s:Slot):Bool:=pc (t.length<=1048576)
@[simp] abbrev zgs (t:List Slot)(p:Int)(s:Slot):List Slot:=zlJ t p s
def znM:Run:=rF3 (dS .slot) dI (dT .slot) λb c d=>(zju b c d,[aS .slot<|zgs b c d])
def zBD (N:Nat)(a:lS)(b:Int)(c:Slot):OA:=
 (oN (few<|ln<|ap [] a)<|oN (zD b 0<|wsub .i64 (ln a) 1)<|cond (zk b 0<|wsub .i64 (ln a) 1) (oN (inb b<|ln<|ap [] a)<|share (up (ap [] a) b c) λd=>some [aS .slot d])<|some [aS .slot<|ap [] a])
theorem zO8 (a:List Slot)(b:Int)(c:Slot)(d:zju a b c=true):∃N,zBD N a b c=some [aS .slot<|zgs a b c]:=by have e:=zB.1 d;refine⟨0,?_⟩;unfold zBD oN;refine mu (must rfl (br (λ_=>mu (shr ?_)) λ_=>?_));all_goals first|rfl|(simp only [*,zgs,zlJ,cT,cF]<;>rfl)|simp_all[Ty.cells,zgs,zlJ]
theorem zHP:vF 225 znM:=kF3 zlq zl zn zo (zq []) zO8
def zA5 (N:Nat)(a:lS)(b:Int)(c:Slot):OA:=
 (oN (zgA a)<|oN (zZ b<|ln a)<|cond (zbH b<|ln a) (oN (inb b<|ln<|zeB a)<|share (up (zeB a) b c) λd=>some [aS .slot d])<|some [aS .slot<|zeB a])
theorem zOE (a:List Slot)(b:Int)(c:Slot)(d:zju a b c=true):∃N,zA5 N a b c=some [aS .slot<|zgs a b c]:=by have e:=zB.1 d;refine⟨0,?_⟩;unfold zA5 oN;refine mu (must rfl (br (λ_=>mu (shr ?_)) λ_=>?_));all_goals first|rfl|(simp only [*,zgs,zlJ,cT,cF]<;>rfl)|simp_all[Ty.cells,zgs,zlJ]
theorem zHm:vF 151 znM:=kF3 zlq zl zn zo (zq []) zOE
def zjY (p n:Int):Bool:=bif zhG p then zk n 0 7 else false
def ztE (p n:Int):Int:=bif zjY p n then wor .i64 p (zn1 .i64 1 n) else p
theorem cv7 {n:Int}(h:hasB n 8=true):wcv .u64 n=n/\ile 0 n=true:=by have:=qD h;exact⟨zPS (by omega) (by omega),qL (by omega)⟩
@[simp] abbrev zfG (p n:Int):Bool:=true
@[simp] abbrev zdV (p n:Int):Int:=ztE p n
@[simp] abbrev zhp (p n:Int):Bool:=zjY p n
def zoN:Run:=rF2 dI dI λb c=>(zfG b c,[aI<|zdV b c,aB<|zhp b c])
def zFC (N:Nat)(a b:Int):OA:=
 (oN (zbY a)<|cond (nB<|zes a) (some [aI a,aB false])<|oN (zD b 0 7)<|cond (nB<|zk b 0 7) (some [aI a,aB false])<|oN (ile 0<|wcv .u64 b)<|some [aI<|wor .i64 a<|zn1 .i64 1<|wcv .u64 b,aB true])
theorem zSn (b a:Int)(c:zfG b a=true):∃N,zFC N b a=some [aI<|zdV b a,aB<|zhp b a]:=by have d:=@cv7 a;refine⟨0,?_⟩;unfold zFC oN nB;refine must rfl (brN (λ_=>?_) λ_=>must rfl (brN (λ_=>?_) λ_=>mu ?_));all_goals first|rfl|(simp only [*,zdV,zhp,ztE,zjY,cT,cF]<;>rfl)|simp_all[Ty.cells,zdV,zhp,ztE,zjY]
theorem zKM:vF 228 zoN:=kF2 zlq zl zn zo (zq []) zSn
def zE6 (N:Nat)(a b:Int):OA:=
 (oN (zbY a)<|cond (nB<|zes a) (some [aI a,aB false])<|oN (zD b 0 7)<|cond (nB<|zk b 0 7) (some [aI a,aB false])<|oN (ile 0 b)<|some [aI<|wor .i64 a<|zn1 .i64 1 b,aB true])
theorem zRV (b a:Int)(c:zfG b a=true):∃N,zE6 N b a=some [aI<|zdV b a,aB<|zhp b a]:=by have d:=@cv7 a;refine⟨0,?_⟩;unfold zE6 oN nB;refine must rfl (brN (λ_=>?_) λ_=>must rfl (brN (λ_=>?_) λ_=>mu ?_));all_goals first|rfl|(simp only [*,zdV,zhp,ztE,zjY,cT,cF]<;>rfl)|simp_all[Ty.cells,zdV,zhp,ztE,zjY]
theorem zKk:vF 303 zoN:=kF2 zlq zl zn zo (zq []) zRV
def posts (c:Ctl)(n:Int):Bool:=bif zrI c then (cond (zk n 0 7) (ieq (wand .i64 (zk9 .i64 c.Post n) 1) 1) false) else false
@[simp] abbrev zsD (c:Ctl)(n:Int):Bool:=true
@[simp] abbrev znO (c:Ctl)(n:Int):Bool:=posts c n
def zr2:Run:=rF2 dC dI λb c=>(zsD b c,[aB<|znO b c])
def zQc (N:Nat)(b:Ctl)(a:Int):OA:=
 (oN (ze5 b)<|cond (znN b) (oN (zD a 0 7)<|cond (zk a 0 7) (oN (ile 0<|wcv .u64 a)<|some [aB<|ieq (wand .i64 (zk9 .i64 b.Post<|wcv .u64 a) 1) 1]) oF) oF)
theorem zW5 (b:Ctl)(a:Int)(c:zsD b a=true):∃N,zQc N b a=some [aB<|znO b a]:=by have d:=@cv7 a;refine⟨0,?_⟩;unfold zQc oN;refine must rfl (br (λ_=>must rfl (br (λ_=>mu ?_) λ_=>?_)) λ_=>?_);all_goals first|rfl|(simp only [*,znO,posts,cT,cF]<;>rfl)|simp_all[Ty.cells,znO,posts]
theorem zRu:vF 321 zr2:=kF2 zlq zl zn zo (zq []) zW5
def zP0 (N:Nat)(b:Ctl)(a:Int):OA:=
 (oN (ze5 b)<|cond (znN b) (oN (zD a 0 7)<|cond (zk a 0 7) (oN (ile 0 a)<|some [aB<|ieq (wand .i64 (zk9 .i64 b.Post a) 1) 1]) oF) oF)
theorem zWW (b:Ctl)(a:Int)(c:zsD b a=true):∃N,zP0 N b a=some [aB<|znO b a]:=by have d:=@cv7 a;refine⟨0,?_⟩;unfold zP0 oN;refine must rfl (br (λ_=>must rfl (br (λ_=>mu ?_) λ_=>?_)) λ_=>?_);all_goals first|rfl|(simp only [*,znO,posts,cT,cF]<;>rfl)|simp_all[Ty.cells,znO,posts]
theorem zRj:vF 354 zr2:=kF2 zlq zl zn zo (zq []) zWW
def zbK (b:Bare)(g:Int):Bool:=bif zb7 b then hasB g (ln b.Guests) else false
theorem zdv {b:Bare}{g:Int}:(zbK b g=true)↔zb7 b=true/\hasB g (ln b.Guests)=true:=by unfold zbK;cases zb7 b<;>simp
@[simp] abbrev zk4 (b:Bare)(g:Int):Bool:=zbK b g
def zGi:Run:=rF2 (dT .bare) dI λb c=>(zbF b c,[aB<|zk4 b c])
def zQf (N:Nat)(a:Bare)(b:Int):OA:=
 (oN (zcv a)<|cond (zbD a) (oN (zD b 0<|wsub .i64 (ln a.Guests) 1)<|some [aB<|zk b 0<|wsub .i64 (ln a.Guests) 1]) oF)
theorem zW7 (a:Bare)(b:Int)(c:zbF a b=true):∃N,zQf N a b=some [aB<|zk4 a b]:=by have d:=zB.1 c;have e:a.Guests.length<=1048576:=d.2.1.1;refine⟨0,?_⟩;unfold zQf oN;refine must rfl (br (λ_=>must rfl ?_) λ_=>?_);all_goals first|rfl|(simp only [*,zk4,zbK,cT,cF]<;>rfl)|simp_all[Ty.cells,zk4,zbK]
theorem zRx:vF 223 zGi:=kF2 zlq zl zn zo (zq []) zW7
@[simp] abbrev zmI (b:Bare)(g:Int):GExit:=(gAt b g).Exit
def zCW:Run:=rF2 (dT .bare) dI λb c=>(zbF b c,[.agg<|zto<|zmI b c])
def zIK (N:Nat)(c:Bare)(d:Int):OA:=
 let a:=zcG c d; (oN (zc6 c d)<|some [.agg [.i .i64 a.Exit.Kind,.i .i64 a.Exit.Page,.b a.Exit.Write,.i .i64 a.Exit.N]])
theorem zUj (a:Bare)(b:Int)(c:zbF a b=true):∃N,zIK N a b=some [.agg<|zto<|zmI a b]:=by
 have d:=zB.1 c;refine⟨0,?_⟩;unfold zIK oN;conv=>zeta
 refine mu ?_;first|rfl|(simp only [*,zmI,cT,cF]<;>rfl)|simp_all[Ty.cells,zmI]
theorem zNf:vF 188 zCW:=kF2 zlq zl zn zo (zq []) zUj
def z5r:zY:=[(225,znM),(151,znM),(228,zoN),(303,zoN),(321,zr2),(354,zr2),(223,zGi),(188,zCW)]++z5q
theorem zeq:zK z5r:=zf zHP (zf zHm<|zf zKM<|zf zKk<|zf zRu<|zf zRj<|zf zRx<|zf zNf zlq)
theorem zWo {b:Type}{l:List b}{i:Int}{d:b}(h:hasB i (ln l)=true):up l i (ix l i d)=l:=by obtain⟨k,rfl,a⟩:=zd8 (n:=l.length) h;unfold up;rw[zX a,kC];exact uT a
theorem zsn {b:Bare}{g:Int}(h:hasB g (ln b.Guests)=true):gAt b g=ix b.Guests g zu:=by unfold gAt;rw[h];rfl
theorem z2e {b:Bare}{g:Int}(h:hasB g (ln b.Guests)=true):zfr b g (gAt b g)=b:=by unfold zfr;rw[zsn h,zWo h]
def chg (b:Bare)(g:Int)(c:Bool)(x:Guest):Bare:=bif (cond (zbK b g) c false) then zfr b g x else b
def zce (b:Bare)(g:Int)(c:Bool):Bool:=bif zbK b g then c else false
def zC8 (p:Int)(s:Slot):Bool:=bif hasB p 4 then zgv s 8 else false
def zy5 (x:Guest)(p:Int)(s:Slot):Guest:={x with Written:=zlJ x.Written p s}
def zjT (x:Guest)(p:Int):Guest:={x with Live:=zlJ x.Live p (ze3 x.Written p)}
def zlM:GExit:=⟨0,0,false,0⟩
def zBL (x:Guest)(v:Int):Bool:=bif zk v 0 99 then (cond (ieq x.Exit.Kind 2) true<|ieq x.Exit.Kind 3) else false
def zBM (x:Guest)(v:Int):Guest:=zb3 (stopped (cond (ieq x.Exit.Kind 2) {x with A:=v} x) zlM)
def zCT (x:Guest):Bool:=bif ieq x.Exit.Kind 1 then true else ieq x.Exit.Kind 4
def zCV (x:Guest):Guest:=bif ieq x.Exit.Kind 1 then stopped x zlM else held (stopped x zlM)
def zo6 (x:Guest)(n:Int):Guest:={x with Pending:=ztE x.Pending n}
def zMW (x:Guest)(c:Ctl):Guest:={x with Ctl:=c}
theorem z6Y {x:Guest}{n:Int}(h:zjY x.Pending n=false):zo6 x n=x:=by unfold zo6 ztE;rw[h];rfl
theorem zIy {x:Guest}(p:Int)(s:Slot)(h:SmG x):SmG (zy5 x p s):=⟨h.1,by simpa [zy5] using h.2.1,h.2.2.1,h.2.2.2⟩
theorem zqU {x:Guest}(p:Int)(h:SmG x):SmG (zjT x p):=⟨h.1,h.2.1,by simpa [zjT] using h.2.2.1,h.2.2.2⟩
theorem zVK {x:Guest}(v:Int)(h:SmG x):SmG (zBM x v):=by unfold zBM;cases ieq x.Exit.Kind 2<;>exact zlm h
theorem zVM {x:Guest}(h:SmG x):SmG (zCV x):=by unfold zCV;cases ieq x.Exit.Kind 1;{exact zVL (g:=stopped x zlM) h};{exact h}
theorem zh1 {b:Bare}{g:Int}{c:Bool}{x:Guest}(h:SmB b)(a:SmG x):SmB (chg b g c x):=by unfold chg;cases (cond (zbK b g) c false);{exact h};{exact zph h a}
@[simp] abbrev zhk (b:Bare)(g p:Int)(s:Slot):Bool:=pc (SmB b)
@[simp] abbrev zcF (b:Bare)(g p:Int)(s:Slot):Bare:=chg b g (zC8 p s) (zy5 (gAt b g) p s)
@[simp] abbrev zcQ (b:Bare)(g p:Int)(s:Slot):Bool:=zce b g (zC8 p s)
def zjL:Run:=rF4 (dT .bare) dI dI (dT .slot) λb c d e=>(zhk b c d e,[aT .bare<|zcF b c d e,aB<|zcQ b c d e])
def zFm (N:Nat)(f:Bare)(b c:Int)(d:Slot):OA:=
 let a:=zI f;let e:=ix a.Guests b zu; (oN (zQ f)<|oN (zbF a b)<|cond (nB<|zk4 a b) (some [aT .bare a,aB false])<|oN (zD c 0 3)<|cond (nB<|zk c 0 3) (some [aT .bare a,aB false])<|oN (zlE d 8)<|cond (nB<|zjt d 8) (some [aT .bare a,aB false])<|oN (inb b<|ln a.Guests)<|oN (zju e.Written c d)<|oN (inb b<|ln a.Guests)<|share (up a.Guests b ({e with Written:=(zgs e.Written c d)}:Guest)) λg=>some [aT .bare ({a with Guests:=g}:Bare),aB true])
theorem zSa (b:Bare)(a c:Int)(d:Slot)(e:zhk b a c d=true):∃N,zFm N b a c d=some [aT .bare<|zcF b a c d,aB<|zcQ b a c d]:=by
 have f:=zB.1 e;have g:=zfn a f;have k:zbK b a=true->hasB a (ln b.Guests)=true:=λh=>(zdv.1 h).2;have i:zbK b a=true->gAt b a=ix b.Guests a zu:=λh=>zsn (zdv.1 h).2;have j:=g.2.1;refine⟨0,?_⟩;unfold zFm oN nB;conv=>zeta
 refine mu (mu<|brN (λ_=>?_) λ_=>must rfl (brN (λ_=>?_) λ_=>must rfl (brN (λ_=>?_) λ_=>mu (mu<|mu<|shr ?_))));all_goals first|rfl|(simp only [*,zcF,zcQ,chg,zce,zC8,zy5,zfr,cT,cF]<;>rfl)|simp_all[Ty.cells,zcF,zcQ,chg,zce,zC8,zy5,zfr]
theorem zvV:vF 95 zjL:=kF4 zeq zl zn zo (zq []) zSa
def zEU (N:Nat)(a:Bare)(b e:Int)(f:Slot):OA:=
 let d:=zQ a;let g:=({ (zcG a b) with Written:=(zgs (zcG a b).Written e f)}:Guest);let c:=aT .bare<|zI a; (oN (zZ e 4)<|cond (zbH e 4) (oN (zlE f 8)<|oN (zc6 a b)<|oN (zcv a)<|cond (nB<|zbD a) (oN d<|some [c,aB false])<|cond (nB<|zcH a b) (oN d<|some [c,aB false])<|cond (nB<|zjt f 8) (oN d<|some [c,aB false])<|oN (zju (zcG a b).Written e f)<|oN (cond (ieq a.Pending a.Pending) true false)<|oN (ieq b b)<|oN (zbx a b g)<|some [aT .bare<|zcg a b g,aB true])<|oN (zc6 a b)<|oN (zcv a)<|cond (nB<|zbD a) (oN d<|some [c,aB false])<|cond (nB<|zcH a b) (oN d<|some [c,aB false])<|oN d<|some [c,aB false])
theorem zRI (b:Bare)(a c:Int)(d:Slot)(f:zhk b a c d=true):∃N,zEU N b a c d=some [aT .bare<|zcF b a c d,aB<|zcQ b a c d]:=by
 have g:=zB.1 f;have e:=zfn a g;have i:_/\_/\_/\_:=e;have h:=λp s=>zIy (x:=gAt b a) p s e;unfold zy5 at h;refine⟨0,?_⟩;unfold zEU oN nB;conv=>zeta
 refine must rfl (br (λ_=>must rfl (mu (must rfl (brN (λ_=>mu ?_) λ_=>brN (λ_=>mu ?_) λ_=>brN (λ_=>mu ?_) λ_=>mu (mu<|mu<|mu ?_))))) λ_=>mu (must rfl (brN (λ_=>mu ?_) λ_=>brN (λ_=>mu ?_) λ_=>mu ?_)));all_goals first|rfl|(simp only [*,zcF,zcQ,chg,zce,zC8,zy5,zbK,zdQ,cT,cF]<;>rfl)|simp_all[Ty.cells,zcF,zcQ,chg,zce,zC8,zy5,zbK,zdQ]
theorem zvQ:vF 62 zjL:=kF4 zeq zl zn zo (zq []) zRI
@[simp] abbrev zh9 (b:Bare)(g p:Int):Bool:=pc (SmB b)
@[simp] abbrev zcp (b:Bare)(g p:Int):Bare:=chg b g (hasB p 4) (zjT (gAt b g) p)
@[simp] abbrev zdH (b:Bare)(g p:Int):Bool:=zce b g (hasB p 4)
def zhY:Run:=rF3 (dT .bare) dI dI λb c d=>(zh9 b c d,[aT .bare<|zcp b c d,aB<|zdH b c d])
def zzC (N:Nat)(f:Bare)(d b:Int):OA:=
 let a:=zI f;let e:=inb d<|ln a.Guests;let c:=ix a.Guests d zu; (oN (zQ f)<|oN (zbF a d)<|cond (nB<|zk4 a d) (some [aT .bare a,aB false])<|oN (zD b 0 3)<|cond (nB<|zk b 0 3) (some [aT .bare a,aB false])<|oN e<|oN e<|oN (zhr c.Written b)<|oN (zju c.Live b<|ze1 c.Written b)<|oN e<|share (up a.Guests d ({c with Live:=(zgs c.Live b<|ze1 c.Written b)}:Guest)) λg=>some [aT .bare ({a with Guests:=g}:Bare),aB true])
theorem zLw (b:Bare)(a c:Int)(d:zh9 b a c=true):∃N,zzC N b a c=some [aT .bare<|zcp b a c,aB<|zdH b a c]:=by
 have e:=zB.1 d;have f:=zfn a e;have j:zbK b a=true->hasB a (ln b.Guests)=true:=λh=>(zdv.1 h).2;have g:zbK b a=true->gAt b a=ix b.Guests a zu:=λh=>zsn (zdv.1 h).2;have i:=f.2.2.1;refine⟨0,?_⟩;unfold zzC oN nB;conv=>zeta
 refine mu (mu<|brN (λ_=>?_) λ_=>must rfl (brN (λ_=>?_) λ_=>mu (mu (must rfl (mu<|mu<|shr ?_)))));all_goals first|rfl|(simp only [*,zcp,zdH,chg,zce,zjT,zfr,cT,cF]<;>rfl)|simp_all[Ty.cells,zcp,zdH,chg,zce,zjT,zfr]
theorem ztf:vF 96 zhY:=kF3 zeq zl zn zo (zq []) zLw
def zzj (N:Nat)(a:Bare)(b c:Int):OA:=
 let e:=aT .bare<|zI a;let d:=zcG a b;let f:=({d with Live:=(zgs d.Live c<|ze1 d.Written c)}:Guest); (oN (zZ c 4)<|oN (zc6 a b)<|oN (zcv a)<|cond (nB<|zbD a) (oN (zQ a)<|some [e,aB false])<|cond (nB<|zcH a b) (oN (zQ a)<|some [e,aB false])<|cond (nB<|zbH c 4) (oN (zQ a)<|some [e,aB false])<|oN (zhr d.Written c)<|oN (zju d.Live c<|ze1 d.Written c)<|oN (cond (ieq a.Pending a.Pending) true false)<|oN (ieq b b)<|oN (zbx a b f)<|some [aT .bare<|zcg a b f,aB true])
theorem zLd (b:Bare)(a c:Int)(e:zh9 b a c=true):∃N,zzj N b a c=some [aT .bare<|zcp b a c,aB<|zdH b a c]:=by
 have f:=zB.1 e;have d:=zfn a f;have h:_/\_/\_/\_:=d;have g:=λp=>zqU (x:=gAt b a) p d;unfold zjT at g;refine⟨0,?_⟩;unfold zzj oN nB;conv=>zeta
 refine must rfl (mu (must rfl (brN (λ_=>mu ?_) λ_=>brN (λ_=>mu ?_) λ_=>brN (λ_=>mu ?_) λ_=>must rfl (mu<|mu<|mu<|mu ?_))));all_goals first|rfl|(simp only [*,zcp,zdH,chg,zce,zjT,zbK,zdQ,cT,cF]<;>rfl)|simp_all[Ty.cells,zcp,zdH,chg,zce,zjT,zbK,zdQ]
theorem ztc:vF 64 zhY:=kF3 zeq zl zn zo (zq []) zLd
@[simp] abbrev zfg (b:Bare)(g v:Int):Bool:=pc (SmB b)
@[simp] abbrev zbL (b:Bare)(g v:Int):Bare:=chg b g (zBL (gAt b g) v) (zBM (gAt b g) v)
@[simp] abbrev zbS (b:Bare)(g v:Int):Bool:=zce b g (zBL (gAt b g) v)
def zgW:Run:=rF3 (dT .bare) dI dI λb c d=>(zfg b c d,[aT .bare<|zbL b c d,aB<|zbS b c d])
def zw8 (N:Nat)(i:Bare)(b e:Int):OA:=
 let a:=zI i;let h:=inb b<|ln a.Guests;let d:=(⟨0,0,false,0⟩:GExit);let c:=ix a.Guests b zu;let g:=({c with A:=e}:Guest); (oN (zQ i)<|oN (zbF a b)<|cond (nB<|zk4 a b) (some [aT .bare a,aB false])<|oN (zD e 0 99)<|cond (nB<|zk e 0 99) (some [aT .bare a,aB false])<|oN h<|cond (ieq c.Exit.Kind 2) (oN (zbZ g d)<|oN (zF<|zca g d)<|oN h<|share (up a.Guests b<|zbO<|zca g d) λf=>some [aT .bare ({a with Guests:=f}:Bare),aB true])<|cond (ieq c.Exit.Kind 3) (oN (zbZ c d)<|oN (zF<|zca c d)<|oN h<|share (up a.Guests b<|zbO<|zca c d) λf=>some [aT .bare ({a with Guests:=f}:Bare),aB true])<|some [aT .bare a,aB false])
theorem zH9 (b:Bare)(a c:Int)(d:zfg b a c=true):∃N,zw8 N b a c=some [aT .bare<|zbL b a c,aB<|zbS b a c]:=by
 have e:=zB.1 d;have f:=zfn a e;have j:zbK b a=true->hasB a (ln b.Guests)=true:=λh=>(zdv.1 h).2;have g:zbK b a=true->gAt b a=ix b.Guests a zu:=λh=>zsn (zdv.1 h).2;have i:_/\_/\_/\_:=f;refine⟨0,?_⟩;unfold zw8 oN nB;conv=>zeta
 refine mu (mu<|brN (λ_=>?_) λ_=>must rfl (brN (λ_=>?_) λ_=>mu (br (λ_=>mu (mu<|mu<|shr ?_)) λ_=>br (λ_=>mu (mu<|mu<|shr ?_)) λ_=>?_)));all_goals first|rfl|(simp only [*,zbL,zbS,chg,zce,zBL,zBM,zlM,zfr,SmG,stopped,cT,cF]<;>rfl)|simp_all[Ty.cells,zbL,zbS,chg,zce,zBL,zBM,zlM,zfr,SmG,stopped]
theorem zst:vF 97 zgW:=kF3 zeq zl zn zo (zq []) zH9
def zwY (N:Nat)(a:Bare)(b g:Int):OA:=
 let c:=zcG a b;let l:=ieq (zmI a b).Kind 2;let e:=zQ a;let j:=ieq a.Pending a.Pending;let d:=aT .bare<|zI a;let k:=({c with A:=g}:Guest);let f:=(⟨0,0,false,0⟩:GExit);let i:=zca k f;let m:=aT .bare<|zcg a b<|zbO i;let h:=zca c f;let n:=aT .bare<|zcg a b<|zbO h; (oN (zbF a b)<|cond l (oN (zD g 0 99)<|oN (zc6 a b)<|oN (zcv a)<|cond (nB<|zbD a) (oN e<|some [d,aB false])<|cond (nB<|zcH a b) (oN e<|some [d,aB false])<|cond (nB<|zk g 0 99) (oN e<|some [d,aB false])<|cond l (oN (zbZ k f)<|oN (zF i)<|oN (cond j true false)<|oN (ieq b b)<|oN (zbx a b<|zbO i)<|some [m,aB true])<|oN (zbZ c f)<|oN (zF h)<|oN (cond j true false)<|oN (ieq b b)<|oN (zbx a b<|zbO h)<|some [n,aB true])<|cond (ieq (zmI a b).Kind 3) (oN (zD g 0 99)<|oN (zc6 a b)<|oN (zcv a)<|cond (nB<|zbD a) (oN e<|some [d,aB false])<|cond (nB<|zcH a b) (oN e<|some [d,aB false])<|cond (nB<|zk g 0 99) (oN e<|some [d,aB false])<|cond l (oN (zbZ k f)<|oN (zF i)<|oN (cond j true false)<|oN (ieq b b)<|oN (zbx a b<|zbO i)<|some [m,aB true])<|oN (zbZ c f)<|oN (zF h)<|oN (cond j true false)<|oN (ieq b b)<|oN (zbx a b<|zbO h)<|some [n,aB true])<|oN (zc6 a b)<|oN (zcv a)<|cond (nB<|zbD a) (oN e<|some [d,aB false])<|cond (nB<|zcH a b) (oN e<|some [d,aB false])<|oN e<|some [d,aB false])
theorem zHY (b:Bare)(a c:Int)(f:zfg b a c=true):∃N,zwY N b a c=some [aT .bare<|zbL b a c,aB<|zbS b a c]:=by
 have g:=zB.1 f;have d:=zfn a g;have j:_/\_/\_/\_:=d;have h:SmG ({gAt b a with A:=c}:Guest):=d;have i:∀e,SmG (zb3<|stopped (gAt b a) e):=λe=>zlm (zXH e d);refine⟨0,?_⟩;unfold zwY oN nB;conv=>zeta
 refine mu (br (λ_=>must rfl (mu (must rfl (brN (λ_=>mu ?_) λ_=>brN (λ_=>mu ?_) λ_=>brN (λ_=>mu ?_) λ_=>br (λ_=>mu (mu<|mu<|mu<|mu ?_)) λ_=>mu (mu<|mu<|mu<|mu ?_))))) λ_=>br (λ_=>must rfl (mu (must rfl (brN (λ_=>mu ?_) λ_=>brN (λ_=>mu ?_) λ_=>brN (λ_=>mu ?_) λ_=>br (λ_=>mu (mu<|mu<|mu<|mu ?_)) λ_=>mu (mu<|mu<|mu<|mu ?_))))) λ_=>mu (must rfl (brN (λ_=>mu ?_) λ_=>brN (λ_=>mu ?_) λ_=>mu ?_)));all_goals first|rfl|(simp only [*,zbL,zbS,chg,zce,zBL,zBM,zlM,zbK,zdQ,cT,cF]<;>rfl)|simp_all[Ty.cells,zbL,zbS,chg,zce,zBL,zBM,zlM,zbK,zdQ]
theorem zsq:vF 79 zgW:=kF3 zeq zl zn zo (zq []) zHY
@[simp] abbrev zbN (b:Bare)(g:Int):Bare:=chg b g (zCT<|gAt b g) (zCV<|gAt b g)
@[simp] abbrev zbU (b:Bare)(g:Int):Bool:=zce b g (zCT<|gAt b g)
def zgZ:Run:=rF2 (dT .bare) dI λb c=>(zbF b c,[aT .bare<|zbN b c,aB<|zbU b c])
def zxa (N:Nat)(g:Bare)(c:Int):OA:=
 let a:=zI g;let f:=inb c<|ln a.Guests;let d:=(⟨0,0,false,0⟩:GExit);let b:=ix a.Guests c zu; (oN (zQ g)<|oN (zbF a c)<|cond (nB<|zk4 a c) (some [aT .bare a,aB false])<|oN f<|cond (ieq b.Exit.Kind 1) (oN (zbZ b d)<|oN f<|share (up a.Guests c<|zca b d) λe=>some [aT .bare ({a with Guests:=e}:Bare),aB true])<|cond (ieq b.Exit.Kind 4) (oN (zbZ b d)<|oN (zF<|zca b d)<|oN f<|share (up a.Guests c<|zji<|zca b d) λe=>some [aT .bare ({a with Guests:=e}:Bare),aB true])<|some [aT .bare a,aB false])
theorem zIb (b:Bare)(a:Int)(c:zbF b a=true):∃N,zxa N b a=some [aT .bare<|zbN b a,aB<|zbU b a]:=by
 have d:=zB.1 c;have e:=zfn a d;have i:zbK b a=true->hasB a (ln b.Guests)=true:=λh=>(zdv.1 h).2;have f:zbK b a=true->gAt b a=ix b.Guests a zu:=λh=>zsn (zdv.1 h).2;have g:_/\_/\_/\_:=e;refine⟨0,?_⟩;unfold zxa oN nB;conv=>zeta
 refine mu (mu<|brN (λ_=>?_) λ_=>mu (br (λ_=>mu (mu<|shr ?_)) λ_=>br (λ_=>mu (mu<|mu<|shr ?_)) λ_=>?_));all_goals first|rfl|(simp only [*,zbN,zbU,chg,zce,zCT,zCV,zlM,zfr,SmG,stopped,cT,cF]<;>rfl)|simp_all[Ty.cells,zbN,zbU,chg,zce,zCT,zCV,zlM,zfr,SmG,stopped]
theorem zsv:vF 98 zgZ:=kF2 zeq zl zn zo (zq []) zIb
def zw0 (N:Nat)(a:Bare)(b:Int):OA:=
 let f:=ieq (zmI a b).Kind 4;let e:=ieq a.Pending a.Pending;let d:=aT .bare<|zI a;let c:=({ (zcG a b) with Exit:=(⟨0,0,false,0⟩:GExit)}:Guest);let g:=aT .bare<|zcg a b<|zji c; (oN (zbF a b)<|cond (ieq (zmI a b).Kind 1) (oN (zc6 a b)<|oN (zcv a)<|cond (nB<|zbD a) (oN (zQ a)<|some [d,aB false])<|cond (nB<|zcH a b) (oN (zQ a)<|some [d,aB false])<|cond f (oN (zF c)<|oN (cond e true false)<|oN (ieq b b)<|oN (zbx a b<|zji c)<|some [g,aB true])<|oN (cond e true false)<|oN (ieq b b)<|oN (zbx a b c)<|some [aT .bare<|zcg a b c,aB true])<|oN (zc6 a b)<|oN (zcv a)<|cond (nB<|zbD a) (oN (zQ a)<|some [d,aB false])<|cond (nB<|zcH a b) (oN (zQ a)<|some [d,aB false])<|cond (nB f) (oN (zQ a)<|some [d,aB false])<|cond f (oN (zF c)<|oN (cond e true false)<|oN (ieq b b)<|oN (zbx a b<|zji c)<|some [g,aB true])<|oN (cond e true false)<|oN (ieq b b)<|oN (zbx a b c)<|some [aT .bare<|zcg a b c,aB true])
theorem zH0 (b:Bare)(a:Int)(d:zbF b a=true):∃N,zw0 N b a=some [aT .bare<|zbN b a,aB<|zbU b a]:=by
 have e:=zB.1 d;have f:=zfn a e;have g:_/\_/\_/\_:=f;have c:ieq (gAt b a).Exit.Kind 1=true->ieq (gAt b a).Exit.Kind 4=false:=λh=>zDz h (by decide);refine⟨0,?_⟩;unfold zw0 oN nB;conv=>zeta
 refine mu (br (λ_=>mu (must rfl (brN (λ_=>mu ?_) λ_=>brN (λ_=>mu ?_) λ_=>br (λ_=>mu (mu<|mu<|mu ?_)) λ_=>mu (mu<|mu ?_)))) λ_=>mu (must rfl (brN (λ_=>mu ?_) λ_=>brN (λ_=>mu ?_) λ_=>brN (λ_=>mu ?_) λ_=>br (λ_=>mu (mu<|mu<|mu ?_)) λ_=>mu (mu<|mu ?_))));all_goals first|rfl|(simp only [*,zbN,zbU,chg,zce,zCT,zCV,zlM,zbK,zdQ,SmG,stopped,cT,cF]<;>rfl)|simp_all[Ty.cells,zbN,zbU,chg,zce,zCT,zCV,zlM,zbK,zdQ,SmG,stopped]
theorem zss:vF 196 zgZ:=kF2 zeq zl zn zo (zq []) zH0
theorem z7T {b:Bare}{g:Int}{c:Bool}{x:Guest}(h:zbK b g=false):chg b g c x=b:=by unfold chg;rw[h];rfl
theorem z6p {b:Bare}{g n:Int}(h:zbK b g=true):chg b g (zjY (gAt b g).Pending n) (zo6 (gAt b g) n)=zfr b g (zo6 (gAt b g) n):=by unfold chg;rw[h];cases a:zjY (gAt b g).Pending n;{rw [z6Y a,z2e (zdv.1 h).2];rfl};{rfl}
@[simp] abbrev zfh (b:Bare)(g n:Int):Bool:=pc (SmB b)
@[simp] abbrev zbM (b:Bare)(g n:Int):Bare:=chg b g (zjY (gAt b g).Pending n) (zo6 (gAt b g) n)
@[simp] abbrev zbT (b:Bare)(g n:Int):Bool:=zce b g (zjY (gAt b g).Pending n)
def zgX:Run:=rF3 (dT .bare) dI dI λb c d=>(zfh b c d,[aT .bare<|zbM b c d,aB<|zbT b c d])
def zw9 (N:Nat)(e:Bare)(b d:Int):OA:=
 let a:=zI e;let c:=ix a.Guests b zu; (oN (zQ e)<|oN (zbF a b)<|cond (nB<|zk4 a b) (some [aT .bare a,aB false])<|oN (inb b<|ln a.Guests)<|oN (zfG c.Pending d)<|oN (inb b<|ln a.Guests)<|share (up a.Guests b ({c with Pending:=(zdV c.Pending d)}:Guest)) λf=>some [aT .bare ({a with Guests:=f}:Bare),aB<|zhp c.Pending d])
theorem zIa (a:Bare)(b c:Int)(d:zfh a b c=true):∃N,zw9 N a b c=some [aT .bare<|zbM a b c,aB<|zbT a b c]:=by
 have i:=zB.1 d;have j:zbK a b=true->hasB b (ln a.Guests)=true:=λh=>(zdv.1 h).2;have f:zbK a b=true->gAt a b=ix a.Guests b zu:=λh=>zsn (zdv.1 h).2;have g:=@z6p a b c;have e:=@z7T a b (zjY (gAt a b).Pending c) (zo6 (gAt a b) c);refine⟨0,?_⟩;unfold zw9 oN nB;conv=>zeta
 refine mu (mu<|brN (λ_=>?_) λ_=>mu (must rfl (mu<|shr ?_)));all_goals first|rfl|(simp only [*,zbM,zbT,zce,zfr,zo6,cT,cF]<;>rfl)|simp_all[Ty.cells,zbM,zbT,zce,zfr,zo6]
theorem zsu:vF 99 zgX:=kF3 zeq zl zn zo (zq []) zIa
def zwZ (N:Nat)(a:Bare)(b c:Int):OA:=
 let e:=(zcG a b).Pending;let d:=aT .bare<|zI a;let f:=({ (zcG a b) with Pending:=(zdV e c)}:Guest); (oN (zc6 a b)<|oN (zfG e c)<|oN (zc6 a b)<|oN (zcv a)<|cond (nB<|zbD a) (oN (zQ a)<|some [d,aB false])<|cond (nB<|zcH a b) (oN (zQ a)<|some [d,aB false])<|cond (nB<|zhp e c) (oN (zQ a)<|some [d,aB false])<|oN (cond (ieq a.Pending a.Pending) true false)<|oN (ieq b b)<|oN (zbx a b f)<|some [aT .bare<|zcg a b f,aB true])
theorem zHZ (b:Bare)(a c:Int)(d:zfh b a c=true):∃N,zwZ N b a c=some [aT .bare<|zbM b a c,aB<|zbT b a c]:=by
 have e:=zB.1 d;have f:=zfn a e;have g:_/\_/\_/\_:=f;refine⟨0,?_⟩;unfold zwZ oN nB;conv=>zeta
 refine mu (must rfl (mu (must rfl (brN (λ_=>mu ?_) λ_=>brN (λ_=>mu ?_) λ_=>brN (λ_=>mu ?_) λ_=>mu (mu<|mu ?_)))));all_goals first|rfl|(simp only [*,zbM,zbT,chg,zce,zo6,zbK,zdQ,cT,cF]<;>rfl)|simp_all[Ty.cells,zbM,zbT,chg,zce,zo6,zbK,zdQ]
theorem zsr:vF 197 zgX:=kF3 zeq zl zn zo (zq []) zHZ
@[simp] abbrev zhh (b:Bare)(g:Int)(c:Ctl):Bool:=pc (SmB b)
@[simp] abbrev zcl (b:Bare)(g:Int)(c:Ctl):Bare:=chg b g (zrI c) (zMW (gAt b g) c)
@[simp] abbrev zct (b:Bare)(g:Int)(c:Ctl):Bool:=zce b g (zrI c)
def zjJ:Run:=rF3 (dT .bare) dI dC λb c d=>(zhh b c d,[aT .bare<|zcl b c d,aB<|zct b c d])
def zFj (N:Nat)(d:Bare)(b:Int)(c:Ctl):OA:=
 let a:=zI d; (oN (zQ d)<|oN (zbF a b)<|cond (nB<|zk4 a b) (some [aT .bare a,aB false])<|oN (ze5 c)<|cond (nB<|znN c) (some [aT .bare a,aB false])<|oN (inb b<|ln a.Guests)<|share (up a.Guests b ({ (ix a.Guests b zu) with Ctl:=c}:Guest)) λe=>some [aT .bare ({a with Guests:=e}:Bare),aB true])
theorem zR7 (a:Bare)(b:Int)(c:Ctl)(d:zhh a b c=true):∃N,zFj N a b c=some [aT .bare<|zcl a b c,aB<|zct a b c]:=by
 have f:=zB.1 d;have g:zbK a b=true->hasB b (ln a.Guests)=true:=λh=>(zdv.1 h).2;have e:zbK a b=true->gAt a b=ix a.Guests b zu:=λh=>zsn (zdv.1 h).2;refine⟨0,?_⟩;unfold zFj oN nB;conv=>zeta
 refine mu (mu<|brN (λ_=>?_) λ_=>must rfl (brN (λ_=>?_) λ_=>mu (shr ?_)));all_goals first|rfl|(simp only [*,zcl,zct,chg,zce,zMW,zfr,cT,cF]<;>rfl)|simp_all[Ty.cells,zcl,zct,chg,zce,zMW,zfr]
theorem zvT:vF 100 zjJ:=kF3 zeq zl zn zo (zq []) zR7
def zER (N:Nat)(a:Bare)(b:Int)(c:Ctl):OA:=
 let d:=aT .bare<|zI a;let e:=({ (zcG a b) with Ctl:=c}:Guest); (oN (ze5 c)<|oN (zc6 a b)<|oN (zcv a)<|cond (nB<|zbD a) (oN (zQ a)<|some [d,aB false])<|cond (nB<|zcH a b) (oN (zQ a)<|some [d,aB false])<|cond (nB<|znN c) (oN (zQ a)<|some [d,aB false])<|oN (cond (ieq a.Pending a.Pending) true false)<|oN (ieq b b)<|oN (zbx a b e)<|some [aT .bare<|zcg a b e,aB true])
theorem zRF (b:Bare)(a:Int)(c:Ctl)(d:zhh b a c=true):∃N,zER N b a c=some [aT .bare<|zcl b a c,aB<|zct b a c]:=by
 have e:=zB.1 d;have f:=zfn a e;have g:_/\_/\_/\_:=f;refine⟨0,?_⟩;unfold zER oN nB;conv=>zeta
 refine must rfl (mu (must rfl (brN (λ_=>mu ?_) λ_=>brN (λ_=>mu ?_) λ_=>brN (λ_=>mu ?_) λ_=>mu (mu<|mu ?_))));all_goals first|rfl|(simp only [*,zcl,zct,chg,zce,zMW,zbK,zdQ,cT,cF]<;>rfl)|simp_all[Ty.cells,zcl,zct,chg,zce,zMW,zbK,zdQ]
theorem zvO:vF 198 zjJ:=kF3 zeq zl zn zo (zq []) zRF
def zDF (p c v:Int):Bool:=bif hasB p 8 then (cond (hasB c 4) (zk v 0 99) false) else false
def zlP (b:Bare)(p c v:Int):Bool:=bif zb7 b then zDF p c v else false
def znr (b:Bare)(p c v:Int):Bare:=bif zlP b p c v then {b with Memory:=zfs b.Memory p c v} else b
def zoW (b:Bare):Bare:=bif zb7 b then {b with Pending:=ziS b.Pending} else b
def zye (b:Bare):Int:=bif zb7 b then zmL b.Pending else -1
def zpM (b:Bare):Bool:=bif zb7 b then !ilt (zd1 b.Pending) 0 else false
def zhV (b:Bare)(g a n:Int):Bool:=bif zbK b g then (cond (zk a 0 15) (zie (gAt b g).Live (zcj a) n) false) else false
def zvE (b:Bare)(g a n:Int):Int:=zde (gAt b g).Live (zcj a) n
def zvF (b:Bare)(g a v:Int):Bool:=bif zhV b g a 2 then zk v 0 99 else false
def zB7 (b:Bare)(g a v:Int):Bare:=bif zvF b g a v then {b with Memory:=zfs b.Memory (zvE b g a 2) (zgO a) v} else b
def zmi (b:Bare)(g a:Int):Int:=bif zhV b g a 1 then cellAt b.Memory (zvE b g a 1) (zgO a) else 0
@[simp] abbrev zkU (b:Bare)(p c v:Int):Bool:=pc (SmB b)
@[simp] abbrev zec (b:Bare)(p c v:Int):Bare:=znr b p c v
@[simp] abbrev zeW (b:Bare)(p c v:Int):Bool:=zlP b p c v
def ziX:Run:=rF4 (dT .bare) dI dI dI λb c d e=>(zkU b c d e,[aT .bare<|zec b c d e,aB<|zeW b c d e])
def zBm (N:Nat)(f:Bare)(b c d:Int):OA:=
 let a:=zI f;let e:=aT .bare a; (oN (zQ f)<|oN (zcv a)<|cond (nB<|zbD a) (some [e,aB false])<|oN (zD b 0 7)<|cond (nB<|zk b 0 7) (some [e,aB false])<|oN (zD c 0 3)<|cond (nB<|zk c 0 3) (some [e,aB false])<|oN (zD d 0 99)<|cond (nB<|zk d 0 99) (some [e,aB false])<|oN (zcL a.Memory b c d)<|some [aT .bare ({a with Memory:=(zcS a.Memory b c d)}:Bare),aB true])
theorem zOS (a:Bare)(b c d:Int)(e:zkU a b c d=true):∃N,zBm N a b c d=some [aT .bare<|zec a b c d,aB<|zeW a b c d]:=by
 have f:=zB.1 e;have g:_/\_/\_:=f;refine⟨0,?_⟩;unfold zBm oN nB;conv=>zeta
 refine mu (must rfl (brN (λ_=>?_) λ_=>must rfl (brN (λ_=>?_) λ_=>must rfl (brN (λ_=>?_) λ_=>must rfl (brN (λ_=>?_) λ_=>mu ?_)))));all_goals first|rfl|(simp only [*,zec,zeW,znr,zlP,zDF,cT,cF]<;>rfl)|simp_all[Ty.cells,zec,zeW,znr,zlP,zDF]
theorem zuA:vF 102 ziX:=kF4 zeq zl zn zo (zq []) zOS
@[simp] abbrev zcs (b:Bare):Bare:=zoW b
@[simp] abbrev zdh (b:Bare):Int:=zye b
@[simp] abbrev zcD (b:Bare):Bool:=zpM b
def zjI:Run:=rF1 (dT .bare) λb=>(zQ b,[aT .bare<|zcs b,aI<|zdh b,aB<|zcD b])
def zFh (N:Nat)(b:Bare):OA:=
 let a:=zI b; (oN (zQ b)<|oN (zcv a)<|cond (nB<|zbD a) (some [aT .bare a,aI<|-1,aB false])<|oN (zbY a.Pending)<|some [aT .bare ({a with Pending:=(zfH a.Pending)}:Bare),aI<|zfI a.Pending,aB<|zhs a.Pending])
theorem zR5 (a:Bare)(b:zQ a=true):∃N,zFh N a=some [aT .bare<|zcs a,aI<|zdh a,aB<|zcD a]:=by
 have c:=zB.1 b;refine⟨0,?_⟩;unfold zFh oN nB;conv=>zeta
 refine mu (must rfl (brN (λ_=>?_) λ_=>must rfl ?_));all_goals first|rfl|(simp only [*,zcs,zdh,zcD,zoW,zye,zpM,ziS,zmL,cT,cF]<;>rfl)|simp_all[Ty.cells,zcs,zdh,zcD,zoW,zye,zpM,ziS,zmL]
theorem zvS:vF 104 zjI:=kF1 zeq zl zn zo (zq []) zR5
def zAN (N:Nat)(a:Bare)(b c d:Int):OA:=
 let e:=aT .bare<|zI a; (oN (zQ a)<|oN (zcv a)<|cond (nB<|zbD a) (some [e,aB false])<|oN (zZ b 8)<|cond (nB<|zbH b 8) (some [e,aB false])<|oN (zZ c 4)<|cond (nB<|zbH c 4) (some [e,aB false])<|oN (zD d 0 99)<|cond (nB<|zk d 0 99) (some [e,aB false])<|oN (zcL a.Memory b c d)<|some [aT .bare ({ (zI a) with Memory:=(zcS a.Memory b c d)}:Bare),aB true])
theorem zOm (a:Bare)(b c d:Int)(e:zkU a b c d=true):∃N,zAN N a b c d=some [aT .bare<|zec a b c d,aB<|zeW a b c d]:=by
 have f:=zB.1 e;have g:_/\_/\_:=f;refine⟨0,?_⟩;unfold zAN oN nB;conv=>zeta
 refine mu (must rfl (brN (λ_=>?_) λ_=>must rfl (brN (λ_=>?_) λ_=>must rfl (brN (λ_=>?_) λ_=>must rfl (brN (λ_=>?_) λ_=>mu ?_)))));all_goals first|rfl|(simp only [*,zec,zeW,znr,zlP,zDF,cT,cF]<;>rfl)|simp_all[Ty.cells,zec,zeW,znr,zlP,zDF]
theorem zut:vF 199 ziX:=kF4 zeq zl zn zo (zq []) zOm
def zEQ (N:Nat)(a:Bare):OA:=
 (oN (zQ a)<|oN (zbY a.Pending)<|oN (zcv a)<|cond (nB<|zbD a) (some [aT .bare<|zI a,aI<|-1,aB false])<|cond (nB<|zhs a.Pending) (some [aT .bare<|zI a,aI<|-1,aB false])<|some [aT .bare ({ (zI a) with Pending:=(zfH a.Pending)}:Bare),aI<|zfI a.Pending,aB true])
theorem zRE (a:Bare)(b:zQ a=true):∃N,zEQ N a=some [aT .bare<|zcs a,aI<|zdh a,aB<|zcD a]:=by have c:=zB.1 b;refine⟨0,?_⟩;unfold zEQ oN nB;refine mu (must rfl (must rfl (brN (λ_=>?_) λ_=>brN (λ_=>?_) λ_=>?_)));all_goals first|rfl|(simp only [*,zcs,zdh,zcD,zoW,zye,zpM,ziS,zmL,cT,cF]<;>rfl)|simp_all[Ty.cells,zcs,zdh,zcD,zoW,zye,zpM,ziS,zmL]
theorem zvN:vF 201 zjI:=kF1 zeq zl zn zo (zq []) zRE
theorem z4n {a:Type}(c:Bool)(x y:a):(cond c (cond c x y) y)=(cond c x y):=by cases c<;>rfl
@[simp] abbrev zlj (b:Bare)(g a n:Int):Bool:=pc (SmB b)
@[simp] abbrev zli (b:Bare)(g a n:Int):Int:=bif zhV b g a n then zvE b g a n else -1
@[simp] abbrev zgL (b:Bare)(g a n:Int):Bool:=zhV b g a n
def zGj:Run:=rF4 (dT .bare) dI dI dI λb c d e=>(zlj b c d e,[aI<|zli b c d e,aB<|zgL b c d e])
def zQg (N:Nat)(b:Bare)(c a d:Int):OA:=
 let e:=(ix b.Guests c zu).Live; (oN (zbF b c)<|cond (nB<|zk4 b c) (some [aI<|-1,aB false])<|oN (zD a 0 15)<|cond (nB<|zk a 0 15) (some [aI<|-1,aB false])<|oN (inb c<|ln b.Guests)<|oN (zbi a)<|oN (zew e (zbm a) d)<|some [aI<|zdG e (zbm a) d,aB<|zc7 e (zbm a) d])
theorem zW8 (a:Bare)(b c d:Int)(e:zlj a b c d=true):∃N,zQg N a b c d=some [aI<|zli a b c d,aB<|zgL a b c d]:=by
 have g:=zB.1 e;have i:zbK a b=true->hasB b (ln a.Guests)=true:=λh=>(zdv.1 h).2;have f:zbK a b=true->gAt a b=ix a.Guests b zu:=λh=>zsn (zdv.1 h).2;refine⟨0,?_⟩;unfold zQg oN nB;conv=>zeta
 refine mu (brN (λ_=>?_) λ_=>must rfl (brN (λ_=>?_) λ_=>mu (must rfl (must rfl ?_))));all_goals first|rfl|(simp only [*,zli,zgL,zhV,zvE,zde,z4n,cT,cF]<;>rfl)|simp_all[Ty.cells,zli,zgL,zhV,zvE,zde,z4n]
theorem zRy:vF 232 zGj:=kF4 zeq zl zn zo (zq []) zW8
def zt1 (b:Bare)(g a:Int):Bool:=bif zbK b g then zk a 0 15 else false
@[simp] abbrev zlc (b:Bare)(g a n:Int):Int:=bif zt1 b g a then zvE b g a n else 0
@[simp] abbrev zld (b:Bare)(g a n:Int):Int:=bif zt1 b g a then zgO a else 0
def zGg:Run:=rF4 (dT .bare) dI dI dI λb c d e=>(zlj b c d e,[aI<|zlc b c d e,aI<|zld b c d e,aB<|zgL b c d e])
def zP2 (N:Nat)(b:Bare)(c a d:Int):OA:=
 let e:=(zcG b c).Live; (oN (zc6 b c)<|oN (zcv b)<|cond (nB<|zbD b) (some [aI 0,aI 0,aB false])<|cond (nB<|zcH b c) (some [aI 0,aI 0,aB false])<|oN (zD a 0 15)<|cond (nB<|zk a 0 15) (some [aI 0,aI 0,aB false])<|oN (zbi a)<|oN (zew e (zbm a) d)<|oN (zbi a)<|some [aI<|zdG e (zbm a) d,aI<|zbX a,aB<|zc7 e (zbm a) d])
theorem zWZ (a:Bare)(b c d:Int)(e:zlj a b c d=true):∃N,zP2 N a b c d=some [aI<|zlc a b c d,aI<|zld a b c d,aB<|zgL a b c d]:=by
 have f:=zB.1 e;refine⟨0,?_⟩;unfold zP2 oN nB;conv=>zeta
 refine mu (must rfl (brN (λ_=>?_) λ_=>brN (λ_=>?_) λ_=>must rfl (brN (λ_=>?_) λ_=>must rfl (must rfl (must rfl ?_)))));all_goals first|rfl|(simp only [*,zlc,zld,zgL,zhV,zvE,zt1,zbK,cT,cF]<;>rfl)|simp_all[Ty.cells,zlc,zld,zgL,zhV,zvE,zt1,zbK]
theorem zRm:vF 309 zGg:=kF4 zeq zl zn zo (zq []) zWZ
def z5s:zY:=[(232,zGj),(309,zGg)]++z5r
theorem zoZ:zK z5s:=zf zRy (zf zRm zeq)
theorem ztH {b:Bare}{g a n:Int}(h:zhV b g a n=true):zt1 b g a=true:=by unfold zhV at h;unfold zt1;cases c:zbK b g;{rw [c]at h;exact h};{cases d:zk a 0 15;{rw [c,d]at h;exact h};{rfl}}
@[simp] abbrev zoc (b:Bare)(g a v:Int):Bool:=pc (SmB b)
@[simp] abbrev zhi (b:Bare)(g a v:Int):Bare:=zB7 b g a v
@[simp] abbrev zhj (b:Bare)(g a v:Int):Bool:=zvF b g a v
def zjK:Run:=rF4 (dT .bare) dI dI dI λb c d e=>(zoc b c d e,[aT .bare<|zhi b c d e,aB<|zhj b c d e])
def zFk (N:Nat)(e:Bare)(c b d:Int):OA:=
 let a:=zI e; (oN (zQ e)<|oN (zlj a c b 2)<|cond (nB<|zgL a c b 2) (some [aT .bare a,aB false])<|oN (zD d 0 99)<|cond (nB<|zk d 0 99) (some [aT .bare a,aB false])<|oN (zbi b)<|oN (zcL a.Memory (zli a c b 2) (zbX b) d)<|some [aT .bare ({a with Memory:=(zcS a.Memory (zli a c b 2) (zbX b) d)}:Bare),aB true])
theorem zR8 (a:Bare)(b c d:Int)(e:zoc a b c d=true):∃N,zFk N a b c d=some [aT .bare<|zhi a b c d,aB<|zhj a b c d]:=by
 have f:=zB.1 e;have h:_/\_/\_:=f;have g:=@ztH a b c 2;refine⟨0,?_⟩;unfold zFk oN nB;conv=>zeta
 refine mu (mu<|brN (λ_=>?_) λ_=>must rfl (brN (λ_=>?_) λ_=>must rfl (mu ?_)));all_goals first|rfl|(simp only [*,zhi,zhj,zB7,zvF,cT,cF]<;>rfl)|simp_all[Ty.cells,zhi,zhj,zB7,zvF]
theorem zvU:vF 105 zjK:=kF4 zoZ zl zn zo (zq []) zR8
@[simp] abbrev zjf (b:Bare)(g a:Int):Bool:=pc (SmB b)
@[simp] abbrev zhK (b:Bare)(g a:Int):Int:=zmi b g a
@[simp] abbrev zhL (b:Bare)(g a:Int):Bool:=zhV b g a 1
def zgY:Run:=rF3 (dT .bare) dI dI λb c d=>(zjf b c d,[aI<|zhK b c d,aB<|zhL b c d])
def zBo (N:Nat)(b:Bare)(c a:Int):OA:=
 (oN (zlj b c a 1)<|cond (nB<|zgL b c a 1) (some [aI 0,aB false])<|oN (zbi a)<|oN (zdO b.Memory (zli b c a 1)<|zbX a)<|some [aI<|zeV b.Memory (zli b c a 1)<|zbX a,aB true])
theorem zOU (a:Bare)(b c:Int)(d:zjf a b c=true):∃N,zBo N a b c=some [aI<|zhK a b c,aB<|zhL a b c]:=by have e:=zB.1 d;have g:_/\_/\_:=e;have f:=@ztH a b c 1;refine⟨0,?_⟩;unfold zBo oN nB;refine mu (brN (λ_=>?_) λ_=>must rfl (must rfl ?_));all_goals first|rfl|(simp only [*,zhK,zhL,zmi,cT,cF]<;>rfl)|simp_all[Ty.cells,zhK,zhL,zmi]
theorem zuC:vF 106 zgY:=kF3 zoZ zl zn zo (zq []) zOU
def zES (N:Nat)(a:Bare)(b c d:Int):OA:=
 (oN (zQ a)<|oN (zlj a b c 2)<|cond (nB<|zgL a b c 2) (some [aT .bare<|zI a,aB false])<|oN (zD d 0 99)<|cond (nB<|zk d 0 99) (some [aT .bare<|zI a,aB false])<|oN (zcL a.Memory (zlc a b c 2) (zld a b c 2) d)<|some [aT .bare ({ (zI a) with Memory:=(zcS a.Memory (zlc a b c 2) (zld a b c 2) d)}:Bare),aB true])
theorem zRG (a:Bare)(b c d:Int)(e:zoc a b c d=true):∃N,zES N a b c d=some [aT .bare<|zhi a b c d,aB<|zhj a b c d]:=by have f:=zB.1 e;have h:_/\_/\_:=f;have g:=@ztH a b c 2;refine⟨0,?_⟩;unfold zES oN nB;refine mu (mu<|brN (λ_=>?_) λ_=>must rfl (brN (λ_=>?_) λ_=>mu ?_));all_goals first|rfl|(simp only [*,zhi,zhj,zB7,zvF,cT,cF]<;>rfl)|simp_all[Ty.cells,zhi,zhj,zB7,zvF]
theorem zvP:vF 202 zjK:=kF4 zoZ zl zn zo (zq []) zRG
def zAP (N:Nat)(a:Bare)(b c:Int):OA:=
 (oN (zlj a b c 1)<|cond (nB<|zgL a b c 1) (some [aI 0,aB false])<|oN (zdO a.Memory (zlc a b c 1)<|zld a b c 1)<|some [aI<|zeV a.Memory (zlc a b c 1)<|zld a b c 1,aB true])
theorem zOo (a:Bare)(b c:Int)(d:zjf a b c=true):∃N,zAP N a b c=some [aI<|zhK a b c,aB<|zhL a b c]:=by have e:=zB.1 d;have g:_/\_/\_:=e;have f:=@ztH a b c 1;refine⟨0,?_⟩;unfold zAP oN nB;refine mu (brN (λ_=>?_) λ_=>must rfl ?_);all_goals first|rfl|(simp only [*,zhK,zhL,zmi,cT,cF]<;>rfl)|simp_all[Ty.cells,zhK,zhL,zmi]
theorem zo3:vF 203 zgY:=kF3 zoZ zl zn zo (zq []) zOo
def zfp (l:List Guest)(n:Int):List Int:=idxs (λ(x:Guest)=>posts x.Ctl n) l 0
theorem zUa {d:Type}(p:d->Bool):∀(l:List d) (i:Nat),∀k∈idxs p l i,(i:Int)<=k/\k<(i:Int)+l.length
 |[],_,k,a=>by cases a
 |x::l,i,k,a=>by have c:=zUa p l (i+1);simp only[qV];unfold idxs at a;cases b:p x;{rw [b]at a;have:=c k a;omega};{rw [b]at a;rcases qH.1 a with rfl|a;{omega};{have:=c k a;omega}}
@[simp] abbrev zfi (b:Bare)(n:Int):List Int:=zfp b.Guests n
def znF:Run:=rF2 (dT .bare) dI λb c=>(zcR b c,[aS .int<|zfi b c])
def zBx (N:Nat)(c:Bare)(f:Int):OA:=
 (iter (σ:=(Int×Int×Int×(List Int)×lM×lG×(List Int)×Unit)) N (λd a=>let b:=a.2.2.2.2.2.1;let e:=(ix b a.2.1 zu).Ctl; (cond (ilt a.2.1<|ln b) (oN (inb a.2.1<|ln b)<|oN (zsD e a.1)<|cond (znO e a.1) (oN (few<|ln<|ap a.2.2.2.1 [a.2.1])<|d (a.1,zG .i64 a.2.1 1,a.2.2.1,ap a.2.2.2.1 [a.2.1],a.2.2.2.2.1,b,a.2.2.2.2.2.2.1,()))<|d (a.1,zG .i64 a.2.1 1,a.2.2.1,a.2.2.2.1,a.2.2.2.2.1,b,a.2.2.2.2.2.2.1,()))<|some [aS .int a.2.2.2.1])) (f,0,c.Pending,[],c.Memory,c.Guests,c.Outs,()))
def zPM:=zq [(230,0,{n:=28,tm:=[(1,ti),(2,.lp 0 0),(5,.sl 0 []),(6,ti)],lo:=[(0,[.sl 1 [],.sl 2 [],.sl 3 [],ti])],ro:=[(0,.int,true),(1,.sl .int,false),(2,.guest,false),(3,.int,false)]})]
theorem zO2 (a:Bare)(b:Int)(g:zcR a b=true):∃N,zBx N a b=some [aS .int<|zfi a b]:=by
 have h:=zB.1 g;have e:=zbV h.2.1.1;refine zbG λN d=>?_;unfold zBx oN;conv=>zeta
 refine(zW a.Guests (λi (t:(List Int))=>(b,(i:Int),a.Pending,t,a.Memory,a.Guests,a.Outs,())) _ (λi (x:Guest) (t:List Int) f=>bif posts x.Ctl b then (cond (few<|ln<|ap t [(i:Int)]) (f<|ap t [(i:Int)]) none) else f t) (λ(t:(List Int))=>some [.one<|.s .int t]) (λi c t rec=>?_) (λt rec=>?_) _ ([])<|d e.1).trans ?_;{simp only [zbf c,zO c,zX c,zV c e.1,cT]};{simp only [zbc,cF]};exact zq8 (λ(x:Guest)=>posts x.Ctl b) _ a.Guests 0 [] (by simpa using e.2)
theorem zHI:vF 230 znF:=kF2 zoZ zl zn zo zPM zO2
def zAZ (N:Nat)(d:Bare)(g:Int):OA:=
 (iter (σ:=(Int×Int×Int×(List Int)×lG×Unit)) N (λe a=>let c:=a.2.2.2.2.1;let b:=a.2.2.1;let f:=(ix c b zu).Ctl; (cond (ilt b a.2.1) (oN (inb b<|ln c)<|oN (zsD f a.1)<|cond (znO f a.1) (oN (few<|ln<|ap a.2.2.2.1 [b])<|e (a.1,a.2.1,zG .i64 b 1,ap a.2.2.2.1 [b],c,()))<|e (a.1,a.2.1,zG .i64 b 1,a.2.2.2.1,c,()))<|some [aS .int a.2.2.2.1])) (g,ln d.Guests,0,[],d.Guests,()))
def zPC:=zq [(307,0,{n:=27,tm:=[(1,ti),(5,.sl 0 []),(10,.sl 1 []),(11,ti),(12,ti)],lo:=[],ro:=[(0,.int,true),(1,.guest,false)]})]
theorem zOy (a:Bare)(b:Int)(g:zcR a b=true):∃N,zAZ N a b=some [aS .int<|zfi a b]:=by
 have h:=zB.1 g;have e:=zbV h.2.1.1;refine zbG λN d=>?_;unfold zAZ oN;conv=>zeta
 refine(zW a.Guests (λi (t:(List Int))=>(b,ln a.Guests,(i:Int),t,a.Guests,())) _ (λi (x:Guest) (t:List Int) f=>bif posts x.Ctl b then (cond (few<|ln<|ap t [(i:Int)]) (f<|ap t [(i:Int)]) none) else f t) (λ(t:(List Int))=>some [.one<|.s .int t]) (λi c t rec=>?_) (λt rec=>?_) _ ([])<|d e.1).trans ?_;{simp only [zbf c,zO c,zX c,zV c e.1,cT]};{simp only [zbc,cF]};exact zq8 (λ(x:Guest)=>posts x.Ctl b) _ a.Guests 0 [] (by simpa using e.2)
theorem zHe:vF 307 znF:=kF2 zoZ zl zn zo zPC zOy
def z5t:zY:=[(230,znF),(307,znF)]++z5s
theorem zGT:zK z5t:=zf zHI (zf zHe zoZ)
def zLU (n:Int)(l:List Guest)(k:Int):List Guest:=up l k (zo6 (ix l k zu) n)
def zrj (n:Int)(a:List Int)(l:List Guest):List Guest:=a.foldl (zLU n) l
theorem zCR (n:Int)(l:List Guest)(k:Int):(zLU n l k).length=l.length:=zf4 _ _ _
theorem zZ7 {n:Int}{l:List Guest}{k:Int}(a:hasB k (ln l)=true)(h:zoV l):zoV (zLU n l k):=zDJ h (zMc h a _)
theorem zDb {n:Int}:∀(a:List Int) {l:List Guest},(∀k∈a,hasB k (ln l)=true)->zoV l->zoV (zrj n a l)/\(zrj n a l).length=l.length
 |[],_,_,h=>⟨h,rfl⟩
 |k::a,l,b,h=>by have e:=zZ7 (n:=n) (b k (by simp)) h;obtain⟨c,d⟩:=zDb (n:=n) a (l:=zLU n l k) (λj f=>by rw[ln,zCR];exact b j (by simp[f])) e;exact⟨c,d.trans<|zCR _ _ _⟩
theorem zG0 {e:Type}(n:Int)(K:List Guest->Option e):∀(a:List Int) (i:Nat) (l:List Guest),(∀k∈a,hasB k (ln l)=true)->
 goL (λ_ k (t:List Guest) d=>bif inb k (ln t) then (cond (inb k<|ln t) (d<|up t k<|zo6 (ix t k zu) n) none) else none) K a i l=K (zrj n a l)
 |[],_,_,_=>rfl
 |k::a,i,l,h=>by have c:inb k (ln l)=true:=h k (by simp);simp only[goL,c,cT];exact zG0 n K a (i+1) (zLU n l k) (λj b=>by rw[ln,zCR];exact h j (by simp[b]))
def zLV (b:Bare)(n:Int):Bare:=bif ieq (ln<|zfp b.Guests n) 0 then {b with Pending:=ztE b.Pending n} else {b with Guests:=zrj n (zfp b.Guests n) b.Guests}
def ziV (b:Bare)(n:Int):Bool:=bif zb7 b then hasB n 8 else false
def zns (b:Bare)(n:Int):Bare:=bif ziV b n then zLV b n else b
theorem zy1 {b:Bare}{n:Int}:∀k∈zfp b.Guests n,hasB k (ln b.Guests)=true:=λk a=>by have:=zUa _ _ _ k a;exact qL (by simp only[ln];omega)
theorem zZJ {b:Bare}{n:Int}(h:ieq (ln<|zfp b.Guests n) 0=true):zrj n (zfp b.Guests n) b.Guests=b.Guests:=by have a:((zfp b.Guests n).length:Int)=0:=qD h;have:zfp b.Guests n=[]:=List.length_eq_zero_iff.1 (by omega);rw[this];rfl
theorem zLW {b:Bare}{n:Int}:(cond (ieq (ln<|zfp b.Guests n) 0) (some [AV.agg<|Ty.cells .bare ⟨b.Memory,zrj n (zfp b.Guests n) b.Guests,b.Outs,ztE b.Pending n⟩,AV.one<|.b true])<|some [AV.agg<|Ty.cells .bare ⟨b.Memory,zrj n (zfp b.Guests n) b.Guests,b.Outs,b.Pending⟩,AV.one<|.b true])=some [AV.agg<|Ty.cells .bare<|zLV b n,AV.one<|.b true]:=by unfold zLV;cases h:ieq (ln<|zfp b.Guests n) 0;{rfl};{simp only [cT,zZJ h]}
@[simp] abbrev zcw (b:Bare)(n:Int):Bare:=zns b n
@[simp] abbrev zcK (b:Bare)(n:Int):Bool:=ziV b n
def ziY:Run:=rF2 (dT .bare) dI λb c=>(zcR b c,[aT .bare<|zcw b c,aB<|zcK b c])
def zBn (N:Nat)(i:Bare)(e:Int):OA:=
 let b:=zI i; (oN (zQ i)<|oN (zcv b)<|cond (nB<|zbD b) (some [aT .bare b,aB false])<|oN (zD e 0 7)<|cond (nB<|zk e 0 7) (some [aT .bare b,aB false])<|oN (zcR b e)<|iter (σ:=(Int×Int×Int×Int×(List Int)×lM×lG×(List Int)×lM×lG×(List Int)×Unit)) N (λj a=>let h:=a.2.2.2.2.2.2.2.1;let d:=a.2.2.2.2.1;let c:=a.2.2.2.2.2.2.1;let f:=ix d a.2.1 0;let g:=ix c f zu; (cond (ilt a.2.1<|ln d) (oN (inb a.2.1<|ln d)<|oN (inb a.2.1<|ln d)<|oN (inb f<|ln c)<|oN (zfG g.Pending a.1)<|oN (inb f<|ln c)<|j (a.1,zG .i64 a.2.1 1,a.2.2.1,a.2.2.2.1,d,a.2.2.2.2.2.1,up c f ({g with Pending:=(zdV g.Pending a.1)}:Guest),h,a.2.2.2.2.2.2.2.2.1,a.2.2.2.2.2.2.2.2.2.1,a.2.2.2.2.2.2.2.2.2.2.1,()))<|cond (ieq (ln d) 0) (oN (zfG a.2.2.1 a.1)<|some [aT .bare (⟨a.2.2.2.2.2.1,c,h,zdV a.2.2.1 a.1⟩:Bare),aB true])<|some [aT .bare (⟨a.2.2.2.2.2.1,c,h,a.2.2.1⟩:Bare),aB true])) (e,0,b.Pending,0,zfi b e,b.Memory,b.Guests,b.Outs,[],[],[],()))
def zPJ:=zq [(103,0,{n:=62,tm:=[(1,ti),(2,.lp 0 0),(4,.lp 1 0),(6,.sl 0 []),(7,ti)],lo:=[(0,[.sl 1 [],.sl 2 [],.sl 3 [],ti]),(1,[.sl 4 [],.sl 5 [],.sl 6 [],ti])],ro:=[(0,.int,true),(1,.sl .int,true),(2,.guest,true),(3,.int,true),(4,.sl .int,true),(5,.guest,true),(6,.int,true)]})]
theorem zOT (a:Bare)(c:Int)(l:zcR a c=true):∃N,zBn N a c=some [aT .bare<|zcw a c,aB<|zcK a c]:=by
 have h:=zB.1 l;have j:(zfp a.Guests c).length<=big:=qX (zuG _ _ _) (zbV h.2.1.1).1;refine zbG λN g=>?_;unfold zBn zcw zcK zns ziV oN nB;conv=>zeta
 refine must (zN h) (must rfl (brN (λe=>?_) λe=>must rfl (brN (λd=>?_) λd=>must (zN h) ?_)));{simp only [show zb7 a=false from e,cF]};{simp only [show zb7 a=true from e,show hasB c 8=false from by first|exact d|exact(zMO c).symm.trans d,cT,cF]};simp only[show zb7 a=true from e,show hasB c 8=true from by first|exact d|exact(zMO c).symm.trans d,cT];refine(zW (zfi (zI a) c) (λi (t:lG)=>(c,(i:Int),(zI a).Pending,0,zfi (zI a) c,(zI a).Memory,t,(zI a).Outs,[],[],[],())) _ (λ_ k (t:List Guest) m=>bif inb k (ln t) then (cond (inb k<|ln t) (m<|up t k<|zo6 (ix t k zu) c) none) else none) (λ(t:lG)=>cond (ieq (ln<|zfi (zI a) c) 0) (cond (zfG (zI a).Pending c) (some [.agg<|Ty.cells .bare (⟨(zI a).Memory,t,(zI a).Outs,zdV (zI a).Pending c⟩:Bare),.one<|.b true]) none)<|some [.agg<|Ty.cells .bare (⟨(zI a).Memory,t,(zI a).Outs,(zI a).Pending⟩:Bare),.one<|.b true]) (λi f t rec=>?_) (λt rec=>?_) _ ((zI a).Guests)<|g j).trans ?_;{simp only [zbf f,zO f,zX f,zV f j,cT];rfl};{simp only [zbc,cF];rfl};exact(zG0 c _ _ 0 _ zy1).trans zLW
theorem zuB:vF 103 ziY:=kF2 zGT zl zn zo zPJ zOT
def zAO (N:Nat)(b:Bare)(c:Int):OA:=
 let e:=zI b; (oN (zQ b)<|oN (zcv b)<|cond (nB<|zbD b) (some [aT .bare e,aB false])<|oN (zD c 0 7)<|cond (nB<|zk c 0 7) (some [aT .bare e,aB false])<|oN (zcR b c)<|iter (σ:=(Int×Int×Int×Int×Int×(List Int)×lM×lG×(List Int)×lM×lG×(List Int)×Unit)) N (λl a=>let h:=a.2.2.2.2.1;let g:=a.2.2.2.2.2.1;let k:=a.2.2.2.2.2.2.2.2.2.1;let i:=a.2.2.2.2.2.2.2.2.2.2.2.1;let f:=ix g a.2.2.1 0;let d:=a.2.2.2.2.2.2.2.2.2.2.1;let j:=ix d f zu; (cond (ilt a.2.2.1 a.2.1) (oN (inb a.2.2.1<|ln g)<|oN (inb f<|ln d)<|oN (zfG j.Pending a.1)<|oN (inb f<|ln d)<|l (a.1,a.2.1,zG .i64 a.2.2.1 1,a.2.2.2.1,h,g,a.2.2.2.2.2.2.1,a.2.2.2.2.2.2.2.1,a.2.2.2.2.2.2.2.2.1,k,up d f ({j with Pending:=(zdV j.Pending a.1)}:Guest),i,()))<|cond (ieq (ln g) 0) (oN (zfG h a.1)<|some [aT .bare (⟨k,d,i,zdV h a.1⟩:Bare),aB true])<|some [aT .bare (⟨k,d,i,h⟩:Bare),aB true])) (c,ln<|zfi b c,0,0,e.Pending,zfi b c,[],[],[],e.Memory,e.Guests,e.Outs,()))
def zPz:=zq [(200,0,{n:=59,tm:=[(1,ti),(4,.lp 0 0),(6,.lp 1 0),(7,.sl 0 []),(24,.sl 0 []),(25,ti),(26,ti)],lo:=[(0,[.sl 1 [],.sl 2 [],.sl 3 [],ti]),(1,[.sl 4 [],.sl 5 [],.sl 6 [],ti])],ro:=[(0,.int,true),(1,.sl .int,true),(2,.guest,true),(3,.int,true),(4,.sl .int,true),(5,.guest,true),(6,.int,true)]})]
theorem zOn (a:Bare)(c:Int)(l:zcR a c=true):∃N,zAO N a c=some [aT .bare<|zcw a c,aB<|zcK a c]:=by
 have h:=zB.1 l;have j:(zfp a.Guests c).length<=big:=qX (zuG _ _ _) (zbV h.2.1.1).1;refine zbG λN g=>?_;unfold zAO zcw zcK zns ziV oN nB;conv=>zeta
 refine must (zN h) (must rfl (brN (λe=>?_) λe=>must rfl (brN (λd=>?_) λd=>must (zN h) ?_)));{simp only [show zb7 a=false from e,cF]};{simp only [show zb7 a=true from e,show hasB c 8=false from by first|exact d|exact(zMO c).symm.trans d,cT,cF]};simp only[show zb7 a=true from e,show hasB c 8=true from by first|exact d|exact(zMO c).symm.trans d,cT];refine(zW (zfi a c) (λi (t:lG)=>(c,ln<|zfi a c,(i:Int),0,(zI a).Pending,zfi a c,[],[],[],(zI a).Memory,t,(zI a).Outs,())) _ (λ_ k (t:List Guest) m=>bif inb k (ln t) then (cond (inb k<|ln t) (m<|up t k<|zo6 (ix t k zu) c) none) else none) (λ(t:lG)=>cond (ieq (ln<|zfi a c) 0) (cond (zfG (zI a).Pending c) (some [.agg<|Ty.cells .bare (⟨(zI a).Memory,t,(zI a).Outs,zdV (zI a).Pending c⟩:Bare),.one<|.b true]) none)<|some [.agg<|Ty.cells .bare (⟨(zI a).Memory,t,(zI a).Outs,(zI a).Pending⟩:Bare),.one<|.b true]) (λi f t rec=>?_) (λt rec=>?_) _ ((zI a).Guests)<|g j).trans ?_;{simp only [zbf f,zO f,zX f,zV f j,cT];rfl};{simp only [zbc,cF];rfl};exact(zG0 c _ _ 0 _ zy1).trans zLW
theorem zuu:vF 200 ziY:=kF2 zGT zl zn zo zPz zOn
end
end Go.Proofs.YtnnmbkjhakbicaaGreat.E
namespace Go.Proofs
open Go Go.Shelf
def Tryz.laysMul_ren:Go.Shelf.Ren:=⟨fun|212=>352|263=>373|264=>374|n=>n,fun|46=>209|51=>266|146=>267|53=>269|148=>270|n=>n,fun|n=>n⟩
theorem Tryz.laysMul:Go.Proofs.Lays.n212 Tryz.prog Tryz.laysMul_ren:={
 mixed:=by kernel_rfl
 f212:=Tryz.func352.trans (congrArg some (by kernel_rfl))
 f263:=Tryz.func373.trans (congrArg some (by kernel_rfl))
 f264:=Tryz.func374.trans (congrArg some (by kernel_rfl))
 t46:=Tryz.underlying209
 a46:=Tryz.isAgg209
 z46:=Tryz.sizeOf209
 v46:=Tryz.zeroValue209
 t51:=Tryz.underlying266
 a51:=Tryz.isAgg266
 z51:=Tryz.sizeOf266
 v51:=Tryz.zeroValue266
 t53:=Tryz.underlying269
 a53:=Tryz.isAgg269
 z53:=Tryz.sizeOf269
 v53:=Tryz.zeroValue269
 t146:=Tryz.underlying267
 a146:=Tryz.isAgg267
 z146:=Tryz.sizeOf267
 v146:=Tryz.zeroValue267
 t148:=Tryz.underlying270
 a148:=Tryz.isAgg270
 z148:=Tryz.sizeOf270
 v148:=Tryz.zeroValue270}
end Go.Proofs
namespace Go.Proofs.YtnnmbkjhakbicaaGreat.E
open Go
set_option linter.constructorNameAsVariable false
set_option linter.unusedVariables false
set_option maxRecDepth 100000
set_option linter.unusedSimpArgs false
set_option linter.unusedSectionVars false
noncomputable section
section
open Go Go.RowKit Go.Proofs
theorem z1D (x y:Nat)(a:x<18446744073709551616)(b:y<18446744073709551616)(w:World) :
 Calls Tryz.prog 352 #[.int .u64 x,.int .u64 y] w λe c=>e = .returned (.tuple #[.int .u64 ((x*y / 18446744073709551616:Nat):Int),.int .u64 ((x*y % 18446744073709551616:Nat):Int)])/\c=w :=
 Any.bits_Mul Tryz.laysMul x y a b w
theorem zLK (y:Nat)(b:y<1000)(w:World):Calls Tryz.prog 352 #[.int .u64 1,.int .u64 y] w λe a=>e = .returned (.tuple #[.int .u64 0,.int .u64 y])/\a=w:=by have h:=z1D 1 y (by omega) (by omega) w;rw[show 1*y / 18446744073709551616=0 by omega,show 1*y % 18446744073709551616=y by omega]at h;exact h
theorem src_of {w:World}{g:Nat}{a b:List Value}{t:TypeId}(hg:w.heap[g]?=some (.cells a.toArray t (0,0)))(h:∀(j:Nat) v,b[j]?=some v->a[j]?=some v)(j:Nat)(v:Value)(d:b[j]?=some v):w.cell? ((⟨g,0,none⟩:Addr).add j)=some v:=by have c:(⟨g,0,none⟩:Addr).add j=⟨g,j,none⟩:=(by unfold Addr.add;split<;>simp_all);rw[c];simp[World.cell?,hg,h j v d]
theorem zYI {B:Nat}{a w:World}(h:Below B a w):Below B a w.drew:=h.trans ⟨rfl,rfl,rfl,qW _,λ_ _=>rfl⟩
theorem alloc_at (w:World)(o:Obj):(w.alloc o).heap[w.heap.size]?=some o:=by unfold World.alloc;exact Array.getElem?_push_size
section
variable {P:Program}
theorem zz4 (w:World)(dT x ty f:TypeId)(g o c h:Nat)(a:Addr)(d m:Nat)(b:Array Value)(t:TypeId)(e:List Value)(i:TypeInfo)(u:P.underlying dT=some (.slice f))(s:P.info? f=some i)(hg:w.heap[g]?=some (.cells b t (0,0)))(r:e.length=Nat.min d c*i.size)(l:∀j v,e[j]?=some v->w.cell? (a.add j)=some v)(k:o+e.length<=b.size)(p:∀v∈e,v.oneCell'=true) :
 (Builtin.copy_ #[dT,x] ty #[.slice (some ⟨g,o,none⟩) c h,.slice (some a) d m]).run P w =
  .ok (goInt<|Nat.min d c) (w.setRow g (b.toList.take o++e++b.toList.drop (o+e.length)).toArray):=by
 have q:=run_loadCells_list (P:=P) w a e l;have n:=run_storeCells_at P g o t e 0 b w hg (by simpa using k) p
 simp[Builtin.copy_,run_underlying u,Builtin.lenOf,Builtin.firstCells,sizeOf,typeInfo,s,<- r,q,n]
theorem zWq {w:World}{z:Array Oper}{m:List Oper}{o:Oper}{a:Act}{Q:Exit->Act->World->Prop}(E:o.guard=none)(d s:Operand)(dT G:TypeId)(O:o.op = .call {callee:=.builtin .copy,args:=#[d,s],argTypes:=#[dT,G]})(c:TypeId)(S:P.underlying dT=some (.slice c))(i:TypeInfo)(F:P.info? c=some i)(g k b l:Nat)(C:Addr)(e p:Nat)(M:a.eval d = .slice (some ⟨g,k,none⟩) b l)(R:a.eval s = .slice (some C) e p)(f:List Value)(t:TypeId)(hg:w.heap[g]?=some (.cells f.toArray t (0,0)))(q:List Value)(n:Nat)(u:Nat.min e b=n)(N:q.length=n*i.size)(y:∀j v,q[j]?=some v->w.cell? (C.add j)=some v)(r:k+q.length<=f.length)(I:∀v∈q,v.oneCell'=true)(B:Nat)(H:World)(L:Below B H w)(D:B<=g)(h:∀A,Hid (A.heap[g]?=some (.cells (splice f k q).toArray t (0,0)))->Below B H A->A.heap.size=w.heap.size->wpList P z Q m (a.put o.dst<|goInt n) A) :
 wpList P z Q (o::m) a w:=by
 refine wpList_plain E λK J=>?_;subst u;have x:=zz4 (P:=P) w dT G o.type c g k b l C e p f.toArray t q i S F hg N y (by simpa using r) I
 unfold Oper.wp;simp[execOp,O,resolve,invoke,builtin,M,R,x,Result.andThen];exact J _ _ (by simpa using h _ (show _=_ by simpa [splice] using setRow_heap w g _ _ t _ hg) (below_setRow L D _) (by simp[World.setRow]))
theorem z0d {y:Array Oper}{o:Oper}{a:Act}{w:World}{K:Act->World->Prop}{Q:Exit->Act->World->Prop}{E:Prop}(D:o.guard=none)(d s:Operand)(dT G:TypeId)(N:o.op = .call {callee:=.builtin .copy,args:=#[d,s],argTypes:=#[dT,G]})(c:TypeId)(R:P.underlying dT=some (.slice c))(i:TypeInfo)(F:P.info? c=some i)(g k b l:Nat)(A:Addr)(e m:Nat)(L:a.eval d = .slice (some ⟨g,k,none⟩) b l)(O:a.eval s = .slice (some A) e m)(f:List Value)(t:TypeId)(hg:w.heap[g]?=some (.cells f.toArray t (0,0)))(p:List Value)(n:Nat)(r:Nat.min e b=n)(M:p.length=n*i.size)(x:∀j v,p[j]?=some v->w.cell? (A.add j)=some v)(q:k+p.length<=f.length)(I:∀v∈p,v.oneCell'=true)(B:Nat)(H:World)(J:Below B H w)(C:B<=g)(h:∀z,Hid (z.heap[g]?=some (.cells (splice f k p).toArray t (0,0)))->Below B H z->z.heap.size=w.heap.size->K (a.put o.dst<|goInt n) z) :
 if Region.wanted o (yielded y a.tmps)=true then Oper.wp P o a w K Q else E:=by
 have S:Region.wanted o (yielded y a.tmps)=true:=by simp[Region.wanted,D]
 rw[if_pos S];subst r;have u:=zz4 (P:=P) w dT G o.type c g k b l A e m f.toArray t p i R F hg M x (by simpa using q) I
 unfold Oper.wp;simp[execOp,N,resolve,invoke,builtin,L,O,u,Result.andThen];exact h _ (show _=_ by simpa [splice] using setRow_heap w g _ _ t _ hg) (below_setRow J C _) (by simp[World.setRow])
end
def zer (a b:Value):Nat->List Value
 | 0=>[]
 |n+1=>a::b::zer a b n
theorem zje (a b:Value):∀n,(zer a b n).length=n*2
 | 0=>rfl
 |n+1=>by simp[zer,zje a b n];omega
theorem zuU (a b:Value)(m:Nat):∀n,zer a b (n+m)=zer a b n++zer a b m
 | 0=>by simp[zer]
 |n+1=>by rw[show n+1+m=n+m+1 by omega];simp[zer,zuU a b m n]
theorem zIq {a b v:Value}:∀{n},v∈zer a b n->v=a\/v=b
 |n+1,h=>by simp[zer]at h;rcases h with h|h|h;{exact .inl h};{exact .inr h};{exact zIq h}
theorem zVv (a b:Value):∀{n j:Nat},j<n->(zer a b n)[j*2]?=some a/\(zer a b n)[j*2+1]?=some b
 |n+1,0,_=>⟨rfl,rfl⟩
 |n+1,j+1,h=>by have:=zVv a b (n:=n) (j:=j) (by omega);rw[show (j+1)*2=j*2+1+1 by omega];simpa [zer] using this
def pat (a b c d:Value)(k m:Nat):List Value:=zer a b k++zer c d m
theorem zYh (a b c d:Value)(k m:Nat):(pat a b c d k m).length=(k+m)*2:=by simp[pat,zje];omega
theorem zLS (a b c d:Value)(k m r:Nat)(h:r<=m):splice (pat a b c d k m) (k*2) (zer a b r)=pat a b c d (k+r) (m-r):=by
 unfold splice pat;have g:m=r+(m-r):=(by omega);have e:(zer a b k++zer c d m).take (k*2)=zer a b k:=by rw[List.take_append_of_le_length (by simp[zje]),kP (by simp[zje])]
 have f:(zer a b k++zer c d m).drop (k*2+(zer a b r).length)=zer c d (m-r):=by
  rw[<- zje a b k,List.drop_append,kO (by simp[zje]),jM,Nat.add_sub_cancel_left];conv=>lhs;rw[g,zuU]
  rw[List.drop_append,kO (by simp[zje])];simp[zje]
 rw[e,f,zuU,j4]
theorem zXj {a b c d:Value}{m:Nat}(h:1<=m):splice (pat c d c d 0 m) 0 (zer a b 1)=pat a b c d 1 (m-1):=by have:=zLS a b c d 0 m 1 h;simpa [pat,zer] using this
theorem z7j (a b c d:Value)(k m r:Nat)(f:r<=k)(j:Nat)(v:Value)(h:(zer a b r)[j]?=some v):(pat a b c d k m)[j]?=some v:=by have e:j<(zer a b r).length:=(qA.1 h).1;unfold pat;rw[show k=r+(k-r) by omega,zuU,j4,qU e,h]
theorem z3t (c d:Value)(n:Nat):(madeCells #[c,d] (n*2)).toList=zer c d n:=by induction n with|zero=>simp[madeCells,zer,u3]|succ n a=>rw[zuU c d 1 n,<- a];unfold madeCells;rw[show (n+1)*2=n*2+1+1 by omega,Array.range_succ,Array.range_succ];simp[zer]
theorem zQE:∃i:TypeInfo,Tryz.prog.info? 60=some i/\i.size=2/\i.bytes=16/\i.zero=some (.agg #[.int .i64 0,.int .i64 0]):=by have h:(Tryz.prog.info? 60).map (λi=>(i.size,i.bytes))=some (2,16):=(by kernel_rfl);have a:(Tryz.prog.info? 60).bind (λi=>i.zero)=some (.agg #[.int .i64 0,.int .i64 0]):=(by kernel_rfl);cases b:Tryz.prog.info? 60 with|none=>rw[b]at h;cases h|some i=>rw[b]at h a;simp at h a;exact⟨i,rfl,h.1,h.2,a⟩
theorem zZv (w:World)(l:Nat)(e:l<=24):(Instr.makeSlice 75 (.int .i64 l)<|.int .i64 l).run Tryz.prog w = .ok (.slice (some ⟨w.heap.size,0,none⟩) l l) (w.alloc<|.cells (pat (.int .i64 0) (.int .i64 0) (.int .i64 0) (.int .i64 0) 0 l).toArray 60):=by obtain⟨i,b,c,a,d⟩:=zQE;have:=run_make (P:=Tryz.prog) w 75 60 i _ Tryz.underlying75 b d .i64 .i64 l l (by omega) (by omega) (by rw[a];omega) (by omega);rw[this,c];simp only[kC];rw[show (Value.agg #[.int .i64 0,.int .i64 0]).cells = #[.int .i64 0,.int .i64 0] from by kernel_rfl];simp only[pat,zer,jM,<- z3t,jN]
theorem zXk (b a p n:Nat)(f h:Value)(w:World)(Q:1<=n)(B:n<=24)(G:w.cell? ⟨b,a,none⟩=some f)(H:w.cell? ⟨b,a+1,none⟩=some h)(J:b<w.heap.size)(S:f.oneCell'=true)(T:h.oneCell'=true) :
 Calls Tryz.prog 301 #[.slice (some ⟨b,a,none⟩) 1 p,.int .i64 n] w λe z=>∃g,e = .returned (.slice (some ⟨g,0,none⟩) n n)/\w.heap.size<=g/\z.heap[g]?=some (.cells (zer f h n).toArray 60 (0,0))/\Below w.heap.size w z:=by
 have P:=λw=>zZv w n B;obtain⟨y,d,t,-,-⟩:=zQE;have s:∀(x:Obj) (j:Nat) (v:Value),(zer f h 1)[j]?=some v->(w.alloc x).cell? ((⟨b,a,none⟩:Addr).add j)=some v:=by
  intro x j v m;have q:Below w.heap.size w (w.alloc x):=(Below.refl _ _).alloc (qW _) _;have L:j<2:=(by simpa [zer] using (qA.1 m).1);have I:(⟨b,a,none⟩:Addr).add j=⟨b,a+j,none⟩:=(by unfold Addr.add;split<;>simp_all);rw[I,q.cell (by exact J)]
  match j,L with
  | 0,_=>cases m;exact G
  | 1,_=>cases m;exact H
 go_enter Tryz.func301,Tryz.ntmps301
 go_wp2_with (go_at_fn 352;refine(zLK n (by omega) _).mono ?_;rintro e z ⟨rfl,E⟩;rw[E])
 .refine(zLK n (by omega) _).mono ?_
  rintro e z ⟨rfl,E⟩
  rw[E]
  go_wp2_with (refine zWq rfl (.tmp 31) (.tmp 32) 75 75 rfl 60 Tryz.underlying75 y d w.heap.size 0 n n ⟨b,a,none⟩ 1 p rfl rfl (pat (.int .i64 0) (.int .i64 0) (.int .i64 0) (.int .i64 0) 0 n) 60 (alloc_at _ _) (zer f h 1) 1 (by show min 1 n=1;omega) (by rw[t];rfl) (s _) (by simp[zer,zYh];omega) (by intro v m;rcases zIq m with rfl|rfl<;>assumption) w.heap.size w ((Below.refl _ _).alloc (qW _) _) (qW _) ?_;intro R c l D)
  rw[zXj (by omega)] at c
  go_loopw [8] (λi wr=>∃k:Nat,1<=k/\k<=n/\i = .int .i64 k/\wr.heap[w.heap.size]?=some (.cells (pat f h (.int .i64 0) (.int .i64 0) k<|n-k).toArray 60 (0,0))/\Below w.heap.size w wr) (λi _=>n-(intOf i).toNat)
  case atStart=>exact⟨1,qW _,Q,rfl,c.out,l⟩
  case round=>
   obtain⟨k,M,N,rfl,A,F⟩:=hrel
   by_cases O:k<n
   .obtain⟨r,hr⟩:∃r,r=min k (n-k):=⟨_,rfl⟩;have K:(k:Int)<=(n:Int):=by omega
    have C:n≠k:=by omega
    have u:IntKind.i64.wrap ((k:Int)+(r:Int))=((k+r:Nat):Int):=by rw[IntKind.wrap_i64];omega
    go_wp2_with fail
    go_region_law (refine z0d rfl (.tmp 41) (.tmp 44) 75 75 rfl 60 Tryz.underlying75 y d w.heap.size (k*2) (n-k) (n-k) ⟨w.heap.size,0,none⟩ k n (by simp[Act.eval,Act.put,C]) (by simp[Act.eval,Act.put]) (pat f h (.int .i64 0) (.int .i64 0) k<|n-k) 60 A (zer f h r) r hr.symm (by rw[t,zje]) (src_of A<|z7j _ _ _ _ _ _ _ (by omega)) (by simp[zje,zYh];omega) (by intro v m;rcases zIq m with rfl|rfl<;>assumption) w.heap.size w (zYI F) (qW _) ?_;intro R c l D)
    go_simp
    go_roundw
    case rel=>
     refine⟨_,_,_,_,_,_,_,_,_,_,_,_,_,_,⟨k+r,by omega,by omega,?_,?_,l⟩,rfl⟩
     .rw [<- hr,u]
     .rw [show n-(k+r)=n-k-r by omega,<- zLS _ _ _ _ _ _ _ (by omega)]
      exact c.out
    case measure=>
     show n-(intOf<|.int .i64<|IntKind.i64.wrap<|(k:Int)+((min k (n-k):Nat):Int)).toNat<n-(intOf<|.int .i64 k).toNat
     rw[<- hr,u];simp only[intOf,kC];omega
   .obtain rfl:k=n:=by omega
    go_wp2
    go_ret
    refine⟨_,rfl,qW _,?_,F⟩;rw[A];simp[pat,zer]
theorem zXh (w:World):Calls Tryz.prog 155 #[] w λe a=>e = .returned (.agg #[.int .i64<|-1,.int .i64 0])/\Below w.heap.size w a:=by go_enter Tryz.func155,Tryz.ntmps155;go_wp2;refine bodyPost_ret (results_cell_row (by rfl) _ _ w.heap.size 60 #[.int .i64<|-1,.int .i64 0] (0,0) _ rfl (alloc_at _ _) Tryz.underlying60 rfl (by kernel_rfl)) rfl ?_;exact⟨rfl,(Below.refl _ _).alloc (qW _) _⟩
theorem zTu (n:Nat)(w:World)(a:n<=24):Calls Tryz.prog 193 #[.int .i64 n,.int .i64 0,.int .i64 24] w λe b=>e = .returned (.int .i64 n)/\Below w.heap.size w b:=by
 go_enter Tryz.func193,Tryz.ntmps193;go_wp2
 all_goals first
  |omega
  |(go_ret;exact⟨by first|rfl|(congr 3;omega),Below.refl _ _⟩)
theorem zzO (w:World)(c:Array Value)(t:TypeId){i:Nat}{v:Value}(h:c[i]?=some v):(w.alloc<|.cells c t).cell? ⟨w.heap.size,i,none⟩=some v:=by rw[World.cell?_alloc_at (w:=w) c t _ _ rfl,h]
theorem z0e (n:Nat)(w:World)(k:1<=n)(d:n<=24) :
 Calls Tryz.prog 195 #[.int .i64 n] w λe j=>∃g,e = .returned (.slice (some ⟨g,0,none⟩) n n)/\w.heap.size<=g/\j.heap[g]?=some (.cells (zer (.int .i64<|-1) (.int .i64 0) n).toArray 60 (0,0))/\Below w.heap.size w j:=by
 go_enter Tryz.func195,Tryz.ntmps195
 go_wp2_with fail
 refine(zXh _).mono ?_
 rintro e h ⟨rfl,c⟩
 go_wp2_with fail
 refine(zTu n _ d).mono ?_
 rintro e l ⟨rfl,a⟩
 go_wp2_with fail
 have b:(h.alloc<|.cells #[.int .i64<|-1,.int .i64 0] 60).heap.size=h.heap.size+1:=by simp
 have m:=c.size;have p:=a.size;rw[b] at p;refine(zXk h.heap.size 0 1 n (.int .i64<|-1) (.int .i64 0) l k d (by rw[a.cell (by show h.heap.size<_;rw[b];omega)];exact zzO _ _ _ rfl) (by rw[a.cell (by show h.heap.size<_;rw[b];omega)];exact zzO _ _ _ rfl) (by omega) rfl rfl).mono ?_
 rintro e q ⟨g,rfl,hg,f,i⟩
 go_wp2
 go_ret
 exact⟨g,rfl,by omega,f,((c.alloc m _).trans (a.mono (by omega))).trans (i.mono (by omega))⟩
@[simp] abbrev zkK (n:Int):Bool:=ile 1 n&&ile n 24
@[simp] abbrev zin (n:Int):List Slot:=List.replicate n.toNat ⟨-1,0⟩
def znw:List AV->Option (Bool×List AV)
 |[.one<|.i .i64 n]=>some (zkK n,[.one<|.s .slot<|zin n])
 |_=>none
theorem zuy:vF 195 znw:=by
 refine⟨zij (by kernel_rfl),?_⟩;intro w C B L f a;unfold znw at a;split at a
 .rename_i n;simp only[qC,jR,zkK,qE,ile,qZ]at a;obtain⟨⟨F,G⟩,rfl⟩:=a;have I:B.length=1:=f.1
  match B,I with
  |[A],_=>
   have D:Rep false w A (.i .i64 n) (λb=>b<w.heap.size):=f.2 0 _ A rfl rfl;obtain rfl:=D.int_inv;obtain⟨m,rfl⟩:∃m:Nat,n=(m:Int):=⟨n.toNat,by omega⟩;refine(z0e m w (by omega) (by omega)).mono ?_;rintro r z ⟨g,rfl,hg,k,l⟩;have H:g<z.heap.size:=(qS.1 k).1;have d:(zin (m:Int)).length=m:=(by simp);refine⟨⟨l.os,l.tape,l.output,l.size,λb E=>l.block b E⟩,[_],λ_ x=>x=g,zdz.o ⟨rfl,λi c x y t=>?_⟩,rfl,Fresh.o ⟨λi x _ h=>⟨by omega,by omega⟩,λi j x p q _ _=>?_⟩⟩
   .cases i with
    |zero=>
     cases y;cases t;have:=Rep.sl (o:=true) (w:=z) .slot (zin (m:Int)) g 0 m _ _ (0,0) (λ_ j=>if j=0 then .int .i64 (-1) else .int .i64 0) (λ_ _ _=>False) (λx=>x=g) k (λ_=>rfl)
      (by rw[d];unfold big;omega) (by rw[d];exact qW _) (by simp[zje,Ty.width]) rfl (λi j x _ _ h=>h.elim) (λ_ i j J K x _ _ _ _ h=>h.elim)
      (λi j p q=>by
       rw[d]at p;have s:j<2:=q;have v:=zVv (.int .i64<|-1) (.int .i64 0) p
       match j,s with
       | 0,_=>simpa [show Ty.width .slot=2 from rfl] using v.1
       | 1,_=>simpa [show Ty.width .slot=2 from rfl] using v.2)
      (λi x t j c e=>by
       have u:x=⟨-1,0⟩:=by have:=qJ t;simpa using (List.mem_replicate.1 this).2
       subst u
       match j,e with
       | 0,e=>cases e;exact .i _ _ _
       | 1,e=>cases e;exact .i _ _ _)
     rw[d] at this;exact this
    |succ i=>simp[zA,AV.cvs]at y
   {simp [zA,AV.cvs]at p q;omega}
 {cases a}
end
def z0t:zY:=[(95,zjL),(62,zjL),(96,zhY),(64,zhY),(97,zgW),(79,zgW),(98,zgZ),(196,zgZ),(99,zgX),(197,zgX),(100,zjJ),(198,zjJ),(102,ziX),(199,ziX),(104,zjI),(201,zjI),(105,zjK),(202,zjK),(106,zgY),(203,zgY),(103,ziY),(200,ziY),(195,znw)]++z5t
theorem zvx:zK z0t:=zf zvV (zf zvQ<|zf ztf<|zf ztc<|zf zst<|zf zsq<|zf zsv<|zf zss<|zf zsu<|zf zsr<|zf zvT<|zf zvO<|zf zuA<|zf zut<|zf zvS<|zf zvN<|zf zvU<|zf zvP<|zf zuC<|zf zo3<|zf zuB<|zf zuu<|zf zuy zGT)
theorem z2m {n:Int}(h:(ieq n 4||ieq n 8)=true):n=4\/n=8:=by rcases jW _ _ ▸ h with h|h;{exact .inl (qD h)};{exact .inr (qD h)}
theorem zQN {n:Int}(h:(ieq n 8||ieq n 12)=true):n=8\/n=12:=by rcases jW _ _ ▸ h with h|h;{exact .inl (qD h)};{exact .inr (qD h)}
@[simp] abbrev zk0 (n:Int):Bool:=ieq n 4||ieq n 8
@[simp] abbrev zit (n:Int):List Slot:=List.replicate n.toNat ⟨-1,0⟩
def zro:Run:=rF1 dI λb=>(zk0 b,[aS .slot<|zit b])
def zTl (N:Nat)(b:Int):OA:=
 (oN (zkh b 0 24)<|iter (σ:=(Int×lS×Unit)) N (λc a=>cond (igt a.1 0) (oN zbE<|oN (few<|ln<|ap a.2.1 [zbj])<|c (wsub .i64 a.1 1,ap a.2.1 [zbj],()))<|some [aS .slot a.2.1]) (zix b 0 24,[],()))
def zPN:=zq [(144,0,{n:=17,tm:=[(3,.sl 0 []),(4,ti)],lo:=[],ro:=[(0,.slot,true)]})]
theorem zO5 (a:Int)(b:zk0 a=true):∃N,zTl N a=some [aS .slot<|zit a]:=by refine⟨30,?_⟩;have h:a=4\/a=8:=z2m b;rcases h with rfl|rfl<;>(change _=_;kernel_rfl)
theorem zuF:vF 144 zro:=kF1 zvx zl zn zo zPN zO5
@[simp] abbrev zho (n:Int):Bool:=ieq n 8||ieq n 12
@[simp] abbrev zdF (n:Int):List (List Int):=List.replicate n.toNat [0,0,0,0]
def zkT:Run:=rF1 dI λb=>(zho b,[aS (.sl .int)<|zdF b])
def zYF (N:Nat)(b:Int):OA:=
 (oN (zkh b 0 24)<|iter (σ:=(Int×lM×Unit)) N (λc a=>cond (igt a.1 0) (oN (cond (few 4) (ieq 4 4) false)<|oN (few<|ln<|ap a.2.1 [rp 4 0])<|c (wsub .i64 a.1 1,ap a.2.1 [rp 4 0],()))<|some [aS (.sl .int) a.2.1]) (zix b 0 24,[],()))
def zWc:=zq [(58,0,{n:=17,tm:=[(3,.sl 0 []),(4,ti)],lo:=[],ro:=[(0,.sl .int,true)]})]
theorem zUK (a:Int)(b:zho a=true):∃N,zYF N a=some [aS (.sl .int)<|zdF a]:=by refine⟨30,?_⟩;have h:a=8\/a=12:=zQN b;rcases h with rfl|rfl<;>(change _=_;kernel_rfl)
theorem zxq:vF 58 zkT:=kF1 zvx zl zn zo zWc zUK
def zYE (N:Nat)(b:Int):OA:=
 (iter (σ:=(Int×Int×lM×Unit)) N (λc a=>oN (zkh a.1 0 24)<|cond (ilt a.2.1<|zix a.1 0 24) (oN (cond (few 4) (ieq 4 4) false)<|oN (few<|ln<|ap a.2.2.1 [rp 4 0])<|c (a.1,zG .i64 a.2.1 1,ap a.2.2.1 [rp 4 0],()))<|some [aS (.sl .int) a.2.2.1]) (b,0,[],()))
def zV2:=zq [(83,0,{n:=17,tm:=[(0,ti),(3,.sl 0 []),(4,ti)],lo:=[],ro:=[(0,.sl .int,true)]})]
theorem zUp (a:Int)(b:zho a=true):∃N,zYE N a=some [aS (.sl .int)<|zdF a]:=by refine⟨30,?_⟩;have h:a=8\/a=12:=zQN b;rcases h with rfl|rfl<;>(change _=_;kernel_rfl)
theorem zxp:vF 83 zkT:=kF1 zvx zl zn zo zV2 zUp
def z0u:zY:=[(144,zro),(58,zkT),(83,zkT)]++z0t
theorem zBS:zK z0u:=zf zuF (zf zxq<|zf zxp zvx)
def zlV:List Slot:=List.replicate 4 ⟨-1,0⟩
def zdS (p:List Ins):Guest:=⟨p,0,0,zlV,zlV,⟨0,0,false⟩,0,⟨0,0,false,0⟩,false,[]⟩
@[simp] abbrev zeZ (p:List Ins):Bool:=pc (p.length<=1048576)
@[simp] abbrev zgq (p:List Ins):Guest:=zdS p
def ziZ:Run:=rF1 (dS .ins) λb=>(zeZ b,[aT .guest<|zgq b])
def zBs (N:Nat)(a:lI):OA:=
 (oN (few<|ln<|ap [] a)<|oN (zk0 4)<|oN (zk0 4)<|some [aT .guest (⟨ap [] a,0,0,zit 4,zit 4,⟨0,0,false⟩,0,⟨0,0,false,0⟩,false,[]⟩:Guest)])
theorem zOX (a:List Ins)(b:zeZ a=true):∃N,zBs N a=some [aT .guest<|zgq a]:=by have c:=zB.1 b;refine⟨0,?_⟩;unfold zBs oN;refine mu (must rfl (must rfl ?_));first|rfl|(simp only [*,zgq,zdS,zlV,cT,cF]<;>rfl)|simp_all[Ty.cells,zgq,zdS,zlV]
theorem zuD:vF 90 ziZ:=kF1 zBS zl zn zo (zq []) zOX
def zAS (N:Nat)(a:lI):OA:=
 (oN (zpY a)<|oN (zkK 4)<|oN (zkK 4)<|some [aT .guest (⟨znl a,0,0,zin 4,zin 4,⟨0,0,false⟩,0,⟨0,0,false,0⟩,false,[]⟩:Guest)])
theorem zOr (a:List Ins)(b:zeZ a=true):∃N,zAS N a=some [aT .guest<|zgq a]:=by have c:=zB.1 b;refine⟨0,?_⟩;unfold zAS oN;refine mu (must rfl (must rfl ?_));first|rfl|(simp only [*,zgq,zdS,zlV,cT,cF]<;>rfl)|simp_all[Ty.cells,zgq,zdS,zlV]
theorem zuw:vF 84 ziZ:=kF1 zBS zl zn zo (zq []) zOr
def z0v:zY:=[(90,ziZ),(84,ziZ)]++z0u
theorem zjS:zK z0v:=zf zuD (zf zuw zBS)
def zuN:List (List Int):=List.replicate 8 [0,0,0,0]
def zhT (a:List (List Ins)):Bare:=⟨zuN,(a.take 2).map zdS,[],0⟩
def z2s (a:List (List Ins)):Prop:=a.length<=1048576/\∀p∈a,p.length<=1048576
theorem zyU {c b g:Type}(f:c->b)(K:List b->Option g):∀(l:List c) (i:Nat) (a:List b),a.length+l.length<=2147483648->
 goL (λ_ x a k=>bif few (ln<|ap a [f x]) then k (ap a [f x]) else none) K l i a=K (a++l.map f)
 |[],i,a,_=>by simp[goL]
 |x::l,i,a,e=>by simp only[qV]at e;have d:few (ln<|ap a [f x])=true:=zev (by simp[ap];omega);simp only[goL,d,cT];rw[zyU f K l (i+1) (ap a [f x]) (by simp[ap];omega)];simp[ap]
theorem zv2 {d c j:Type}(m:Nat)(f:d->c)(K:List c->Option j):∀(l:List d) (i:Nat) (a:List c),a.length+l.length<=2147483648->
 goL (λ(i:Nat) x a k=>bif ilt (i:Int) (m:Int) then (cond (few<|ln<|ap a [f x]) (k<|ap a [f x]) none) else K a) K l i a=K (a++(l.take<|m-i).map f)
 |[],i,a,_=>by simp[goL]
 |x::l,i,a,g=>by simp only[qV]at g;have e:few (ln<|ap a [f x])=true:=zev (by simp[ap];omega);by_cases h:i<m;{have b:ilt (i:Int) (m:Int)=true:=qL (by omega);simp only[goL,b,e,cT];rw[zv2 m f K l (i+1) (ap a [f x]) (by simp[ap];omega)];rw[show m-i=m-(i+1)+1 by omega];simp[ap]};{have b:ilt (i:Int) (m:Int)=false:=qI (by omega);simp only[goL,b,cF];rw[show m-i=0 by omega];simp}
theorem zMq {a:Type}{l:List a}{n:Int}{x:a}(h:x∈tk l n):x∈l:=jY (by exact h)
theorem zx5 {a:Type}(l:List a)(m:Nat):tk l (zcJ (ln l) (m:Int))=l.take m/\inr 0 (zcJ (ln l) (m:Int)) (ln l)=true:=by unfold tk zcJ;by_cases h:(m:Int)<ln l;{rw [if_pos h];simp only[ln]at h;exact⟨by rw[kC],qL (by simp only[ln];omega)⟩};{rw [if_neg h];simp only[ln]at h ⊢;refine⟨by rw[kC,kP<|qW _,kP (by omega)],qL (by omega)⟩}
@[simp] abbrev zei (a:List (List Ins)):Bool:=pc (z2s a)
@[simp] abbrev zpC (a:List (List Ins)):Bare:=zhT a
def zoz:Run:=rF1 (dS<|.sl .ins) λb=>(zei b,[aT .bare<|zpC b])
def zFl (N:Nat)(e:lP):OA:=
 (oN (zho 8)<|iter (σ:=(Int×Int×Int×lP×lM×lG×(List Int)×lM×lG×(List Int)×Unit)) N (λf a=>let b:=a.2.2.2.1;let d:=ap a.2.2.2.2.2.2.2.2.1 [zgq<|ix b a.1 []];let c:=aT .bare (⟨a.2.2.2.2.2.2.2.1,a.2.2.2.2.2.2.2.2.1,a.2.2.2.2.2.2.2.2.2.1,a.2.2.1⟩:Bare); (cond (ilt a.1<|ln b) (cond (ilt a.1 2) (oN (inb a.1<|ln b)<|oN (zeZ<|ix b a.1 [])<|oN (few<|ln d)<|f (zG .i64 a.1 1,a.2.1,a.2.2.1,b,a.2.2.2.2.1,a.2.2.2.2.2.1,a.2.2.2.2.2.2.1,a.2.2.2.2.2.2.2.1,d,a.2.2.2.2.2.2.2.2.2.1,()))<|some [c])<|some [c])) (0,0,0,e,[],[],[],zdF 8,[],[],()))
def zSM:=zq [(41,0,{n:=28,tm:=[(0,.sl 0 []),(2,.lp 0 0),(3,.lp 1 0),(4,ti)],lo:=[(0,[.sl 1 [],.sl 2 [],.sl 3 [],ti]),(1,[.sl 4 [],.sl 5 [],.sl 6 [],ti])],ro:=[(0,.sl .ins,false),(1,.sl .int,true),(2,.guest,true),(3,.int,true),(4,.sl .int,true),(5,.guest,true),(6,.int,true)]})]
theorem zR9 (a:List lI)(f:zei a=true):∃N,zFl N a=some [aT .bare<|zpC a]:=by
 have e:=zB.1 f;have d:=zbV e.1;refine zbG λN c=>?_;unfold zFl oN;conv=>zeta
 refine must rfl ?_;refine(zW a (λi (t:lG)=>((i:Int),0,0,a,[],[],[],zdF 8,t,[],())) _ (λi (x:List Ins) (t:List Guest) h=>bif ilt (i:Int) ((2:Nat):Int) then (cond (few<|ln<|ap t [zdS x]) (h<|ap t [zdS x]) none) else some [AV.agg<|Ty.cells .bare ⟨zuN,t,[],0⟩]) (λ(t:lG)=>some [.agg<|Ty.cells .bare (⟨zdF 8,t,[],0⟩:Bare)]) (λi b t rec=>?_) (λt rec=>?_) _ ([])<|c d.1).trans ?_;{simp only [zbf b,zO b,zX b,zV b d.1,cT];have g:zeZ a[i]=true:=zN (e.2 _<|jA b);simp only[g,cT];rfl};{simp only [zbc,cF]};exact zv2 2 zdS (λt=>some [AV.agg<|Ty.cells .bare ⟨zuN,t,[],0⟩]) a 0 [] (by simpa using d.2)
theorem zKw:vF 41 zoz:=kF1 zjS zl zn zo zSM zR9
def zET (N:Nat)(b:lP):OA:=
 let d:=zcJ (ln b) 2; (oN (zho 8)<|oN (inr 0 d<|ln b)<|iter (σ:=(Int×Int×Int×Int×lP×lM×lG×(List Int)×lM×lG×(List Int)×Unit)) N (λf a=>let c:=a.2.2.2.2.1;let e:=ap a.2.2.2.2.2.2.2.2.2.1 [zgq<|ix c a.2.1 []]; (cond (ilt a.2.1 a.1) (oN (inb a.2.1<|ln c)<|oN (zeZ<|ix c a.2.1 [])<|oN (few<|ln e)<|f (a.1,zG .i64 a.2.1 1,a.2.2.1,a.2.2.2.1,c,a.2.2.2.2.2.1,a.2.2.2.2.2.2.1,a.2.2.2.2.2.2.2.1,a.2.2.2.2.2.2.2.2.1,e,a.2.2.2.2.2.2.2.2.2.2.1,()))<|some [aT .bare (⟨a.2.2.2.2.2.2.2.2.1,a.2.2.2.2.2.2.2.2.2.1,a.2.2.2.2.2.2.2.2.2.2.1,a.2.2.2.1⟩:Bare)])) (ln<|tk b d,0,0,0,tk b d,[],[],[],zdF 8,[],[],()))
def zSH:=zq [(38,0,{n:=27,tm:=[(2,.lp 0 0),(3,.lp 1 0),(12,.sl 0 []),(13,ti),(14,ti)],lo:=[(0,[.sl 1 [],.sl 2 [],.sl 3 [],ti]),(1,[.sl 4 [],.sl 5 [],.sl 6 [],ti])],ro:=[(0,.sl .ins,false),(1,.sl .int,true),(2,.guest,true),(3,.int,true),(4,.sl .int,true),(5,.guest,true),(6,.int,true)]})]
theorem zRH (a:List lI)(h:zei a=true):∃N,zET N a=some [aT .bare<|zpC a]:=by
 have f:=zB.1 h;have l:=zbV f.1;have g:=zx5 a 2;have c:(tk a<|zcJ (ln a) 2).length<=1048576:=(by rw[show tk a (zcJ (ln a) 2)=a.take 2 from g.1];exact qX (by simp;omega) f.1);have b:=(zbV c).1;refine zbG λN e=>?_;unfold zET oN;conv=>zeta
 refine must rfl (must g.2 ?_);refine(zW (tk a<|zcJ (ln a) 2) (λi (t:lG)=>(ln<|tk a<|zcJ (ln a) 2,(i:Int),0,0,tk a<|zcJ (ln a) 2,[],[],[],zdF 8,t,[],())) _ (λ_ (x:List Ins) (t:List Guest) k=>bif few (ln<|ap t [zdS x]) then k (ap t [zdS x]) else none) (λ(t:lG)=>some [.agg<|Ty.cells .bare (⟨zdF 8,t,[],0⟩:Bare)]) (λi d t rec=>?_) (λt rec=>?_) _ ([])<|e b).trans ?_;{simp only [zbf d,zO d,zX d,zV d b,cT];have j:zeZ (tk a<|zcJ (ln a) 2)[i]=true:=zN (f.2 _<|zMq<|jA d);simp only[j,cT]};{simp only [zbc,cF]};refine(zyU zdS (λt=>some [AV.agg<|Ty.cells .bare ⟨zuN,t,[],0⟩]) _ 0 [] (by simp only[kT];omega)).trans ?_;rw[show tk a (zcJ (ln a) 2)=a.take 2 from g.1];rfl
theorem zJ5:vF 38 zoz:=kF1 zjS zl zn zo zSH zRH
@[simp] abbrev zgF (a:GAct):Bool:=true
@[simp] abbrev zpA (a:GAct):Bool:=zk a.Kind 1 17
def zl5:Run:=rF1 (dT .act) λb=>(zgF b,[aB<|zpA b])
def zP3 (N:Nat)(a:GAct):OA:=
 (oN (zD a.Kind 1 17)<|some [aB<|zk a.Kind 1 17])
theorem zF1 (a:GAct)(b:zbt big [aT .act a])(c:zgF a=true):∃N,zP3 N a=some [aB<|zpA a]:=by refine⟨0,?_⟩;unfold zP3 oN;refine must rfl ?_;first|rfl|(simp only [*,zpA,cT,cF]<;>rfl)|simp_all[Ty.cells,zpA]
theorem zzS:vF 92 zl5:=hF1 zjS zl zn zo (zq []) zF1
@[simp] abbrev zhn (k:Int):Bool:=true
@[simp] abbrev zhO (k:Int):Bool:=zk k 13 17
def zgE:Run:=rF1 dI λb=>(zhn b,[aB<|zhO b])
def zFx (N:Nat)(a:Int):OA:=
 (oN (zD a 13 17)<|some [aB<|zk a 13 17])
theorem zzW (a:Int)(b:zbt big [aI a])(c:zhn a=true):∃N,zFx N a=some [aB<|zhO a]:=by refine⟨0,?_⟩;unfold zFx oN;refine must rfl ?_;first|rfl|(simp only [*,zhO,cT,cF]<;>rfl)|simp_all[Ty.cells,zhO]
theorem zpU:vF 53 zgE:=hF1 zjS zl zn zo (zq []) zzW
@[simp] abbrev zgy (a:GAct):Ctl:=⟨a.X,a.Y,ieq a.Z 1⟩
def zl6:Run:=rF1 (dT .act) λb=>(zgF b,[.agg<|zym<|zgy b])
def zP4 (N:Nat)(a:GAct):OA:=
 (some [.agg [.i .i64 a.X,.i .i64 a.Y,.b<|ieq a.Z 1]])
theorem zF2 (a:GAct)(b:zbt big [aT .act a])(c:zgF a=true):∃N,zP4 N a=some [.agg<|zym<|zgy a]:=by refine⟨0,?_⟩;unfold zP4;first|rfl|(simp only [*,zgy,cT,cF]<;>rfl)|simp_all[Ty.cells,zgy]
theorem zzT:vF 101 zl6:=hF1 zjS zl zn zo (zq []) zF2
theorem zzP:vF 86 zl5:=hF1 zjS zl zn zo (zq []) zF1
theorem zpT:vF 48 zgE:=hF1 zjS zl zn zo (zq []) zzW
theorem zzQ:vF 116 zl6:=hF1 zjS zl zn zo (zq []) zF2
def z0w:zY:=[(41,zoz),(38,zoz),(92,zl5),(86,zl5),(53,zgE),(48,zgE),(101,zl6),(116,zl6)]++z0v
theorem z0x:zK z0w:=zf zKw (zf zJ5<|zf zzS<|zf zzP<|zf zpU<|zf zpT<|zf zzT<|zf zzQ zjS)
def zfc (k:Kept)(p:Int):Bool:=bif hasB p (ln k.Known) then hasB p (ln k.Slots) else false
def zd6 (k:Kept)(p:Int):Kept:=bif zfc k p then ⟨up k.Known p false,up k.Slots p noSlot⟩ else k
@[simp] theorem znQ {k:Kept}{p:Int}(h:SmK k):SmK (zd6 k p):=by unfold zd6;cases zfc k p;{exact h};{exact⟨by simpa using h.1,by simpa using h.2⟩}
theorem has_lt {p:Int}{n m:Int}(h:hasB p n=true):ilt p m=hasB p m:=by have h:=qD h;unfold ilt hasB;by_cases a:p<m;{rw [qL a,qL ⟨h.1,a⟩]};{rw [qI a,qI (by omega)]}
@[simp] abbrev zcx (k:Kept)(p:Int):Bool:=pc (SmK k)
@[simp] abbrev zko (k:Kept)(p:Int):Bool:=zfc k p
def zC3:Run:=rF2 (dT .kept) dI λb c=>(zcx b c,[aB<|zko b c])
def zJs (N:Nat)(a:Kept)(b:Int):OA:=
 (oN (zD b 0<|wsub .i64 (ln a.Known) 1)<|cond (zk b 0<|wsub .i64 (ln a.Known) 1) (some [aB<|ilt b<|ln a.Slots]) oF)
theorem zUW (a:Kept)(b:Int)(c:zcx a b=true):∃N,zJs N a b=some [aB<|zko a b]:=by have e:=zB.1 c;refine⟨0,?_⟩;unfold zJs zko zfc oN;simp only[zD,zTc,zrv e.1,cT];cases d:hasB b (ln a.Known);{rfl};{simp only [cT,has_lt d]}
theorem zN4:vF 335 zC3:=kF2 zTJ zl zn zo (zq []) zUW
def z4Z:zY:=[(335,zC3)]++z4Y
theorem zGR:zK z4Z:=zf zN4 zTJ
@[simp] abbrev zed (k:Kept)(p:Int):Kept:=zd6 k p
def zqh:Run:=rF2 (dT .kept) dI λb c=>(zcx b c,[aT .kept<|zed b c])
def zI9 (N:Nat)(c:Kept)(b:Int):OA:=
 let a:=zd4 c; (oN (zhu c)<|oN (zcx a b)<|cond (zko a b) (oN (inb b<|ln a.Known)<|share (up a.Known b false) λd=>oN zbE<|oN (inb b<|ln a.Slots)<|share (up a.Slots b zbj) λe=>some [aT .kept (⟨d,e⟩:Kept)])<|some [aT .kept a])
theorem zUH (a:Kept)(b:Int)(g:zcx a b=true):∃N,zI9 N a b=some [aT .kept<|zed a b]:=by
 have d:=zB.1 g;refine⟨0,?_⟩;unfold zI9 zed oN;conv=>zeta
 refine must (zbp<|(zxh _).2 d) (must (zbp d) ?_);unfold zd6;cases c:zfc a b;{simp only [zko,zd4,c,cF]};{simp only [zko,zd4,c,cT];unfold zfc at c;obtain⟨e,f⟩:=zdo.1 c;simp only[zUb,e,f,cT,share,zbE]}
theorem zNL:vF 260 zqh:=kF2 zGR zl zn zo (zq []) zUH
def zIM (N:Nat)(b:Kept)(a:Int):OA:=
 let c:=zcP b; (oN (zdL b)<|oN (zZ a<|ln b.Known)<|cond (zbH a<|ln b.Known) (oN (zZ a<|ln b.Slots)<|cond (zbH a<|ln b.Slots) (oN (inb a<|ln c.Known)<|share (up c.Known a false) λd=>oN zbE<|oN (inb a<|ln c.Slots)<|share (up c.Slots a zbj) λe=>some [aT .kept (⟨d,e⟩:Kept)])<|some [aT .kept c])<|some [aT .kept c])
theorem zUl (a:Kept)(b:Int)(c:zcx a b=true):∃N,zIM N a b=some [aT .kept<|zed a b]:=by
 have d:=zB.1 c;refine⟨0,?_⟩;unfold zIM zed oN;conv=>zeta
 refine must (zbp d) (must rfl ?_);unfold zd6 zfc;simp only[zbH,zZ,zcP,zUb,share,zbE,cT];cases hasB b (ln a.Known);{rfl};{cases hasB b (ln a.Slots)<;>rfl}
theorem zNh:vF 65 zqh:=kF2 zGR zl zn zo (zq []) zUl
def z5a:zY:=[(260,zqh),(65,zqh)]++z4Z
theorem zuk:zK z5a:=zf zNL (zf zNh zGR)
def zvK (k:Kept)(l:List Int):Kept:=l.foldl zd6 k
theorem zYq:∀(l:List Int) {k:Kept},SmK k->SmK (zvK k l)
 |[],_,h=>h
 |p::l,k,h=>zYq l (znQ (p:=p) h)
theorem zyA {b:Type}(K:List Bool×List Slot->Option b):∀(l:List Int) (i:Nat) (k:Kept),SmK k->
 goL (λ_ x (t:List Bool×List Slot) a=>bif pc (SmK ⟨t.1,t.2⟩) then a ((zd6 ⟨t.1,t.2⟩ x).Known,(zd6 ⟨t.1,t.2⟩ x).Slots) else none) K l i (k.Known,k.Slots)=K ((zvK k l).Known,(zvK k l).Slots)
 |[],_,_,_=>rfl
 |x::l,i,k,h=>by have e:pc (SmK ⟨k.Known,k.Slots⟩)=true:=zbp h;simp only[goL,e,cT];exact zyA K l (i+1) (zd6 k x) (znQ h)
def z8S (l:List Slot)(p:Int):List Int:=idxs (λ(s:Slot)=>ieq s.Page p) l 0
def ztp (k:Kept)(l:List Slot)(p:Int):Kept:=zvK k (z8S l p)
theorem z3W {k:Kept}(l:List Slot)(p:Int)(h:SmK k):SmK (ztp k l p):=zYq _ h
@[simp] abbrev zf0 (k:Kept)(l:List Slot)(p:Int):Bool:=pc (SmK k/\l.length<=1048576)
@[simp] abbrev zkV (k:Kept)(l:List Slot)(p:Int):Kept:=ztp k l p
def zly:Run:=rF3 (dT .kept) (dS .slot) dI λb c d=>(zf0 b c d,[aT .kept<|zkV b c d])
def zxc (N:Nat)(c:Kept)(e:lS)(f:Int):OA:=
 (oN (zhu c)<|oN (zqI e f)<|iter (σ:=(Int×(List Int)×lB×lS×lB×lS×Unit)) N (λg a=>let d:=ix a.2.1 a.1 0;let b:=(⟨a.2.2.1,a.2.2.2.1⟩:Kept); (cond (ilt a.1<|ln a.2.1) (oN (inb a.1<|ln a.2.1)<|oN (zcx b d)<|g (zG .i64 a.1 1,a.2.1,(zed b d).Known,(zed b d).Slots,a.2.2.2.2.1,a.2.2.2.2.2.1,()))<|some [aT .kept b])) (0,zg2 e f,(zd4 c).Known,(zd4 c).Slots,[],[],()))
def zIG:=zq [(366,0,{n:=27,tm:=[(3,.lp 0 0),(6,.lp 1 0),(7,.sl 0 []),(8,ti)],lo:=[(0,[.sl 1 [],.sl 2 []]),(1,[.sl 3 [],.sl 4 []])],ro:=[(0,.int,true),(1,.bool,true),(2,.slot,true),(3,.bool,true),(4,.slot,true)]})]
theorem zIc (b:Kept)(a:List Slot)(c:Int)(j:zf0 b a c=true):∃N,zxc N b a c=some [aT .kept<|zkV b a c]:=by
 obtain⟨h,f⟩:=zB.1 j;have g:(zg2 a c).length<=big:=qX (zuG _ a 0) (zbV f).1;refine zbG λN e=>?_;unfold zxc oN;conv=>zeta
 refine must (zbp<|(zxh _).2 h) (must (zbp (by omega)) ?_);refine(zW (zg2 a c) (λi (t:lB×lS)=>((i:Int),zg2 a c,t.1,t.2,[],[],())) _ (λ_ (x:Int) (t:List Bool×List Slot) k=>bif pc (SmK ⟨t.1,t.2⟩) then k ((zd6 ⟨t.1,t.2⟩ x).Known,(zd6 ⟨t.1,t.2⟩ x).Slots) else none) (λ(t:lB×lS)=>some [.agg<|Ty.cells .kept (⟨t.1,t.2⟩:Kept)]) (λi d t rec=>?_) (λt rec=>?_) _ ((zd4 b).Known,(zd4 b).Slots)<|e g).trans ?_;{simp only [zbf d,zO d,zX d,zV d g,cT]};{simp only [zbc,cF]};exact zyA _ _ 0 b h
theorem zCp:vF 366 zly:=kF3 zuk zl zn zo zIG zIc
def zw1 (N:Nat)(c:Kept)(d:lS)(e:Int):OA:=
 (oN (zdL c)<|oN (zqI d e)<|iter (σ:=(Int×Int×(List Int)×lB×lS×lB×lS×Unit)) N (λg a=>let f:=ix a.2.2.1 a.2.1 0;let b:=(⟨a.2.2.2.2.2.1,a.2.2.2.2.2.2.1⟩:Kept); (cond (ilt a.2.1 a.1) (oN (inb a.2.1<|ln a.2.2.1)<|oN (zcx b f)<|g (a.1,zG .i64 a.2.1 1,a.2.2.1,a.2.2.2.1,a.2.2.2.2.1,(zed b f).Known,(zed b f).Slots,()))<|some [aT .kept b])) (ln<|zg2 d e,0,zg2 d e,[],[],(zcP c).Known,(zcP c).Slots,()))
def zIB:=zq [(327,0,{n:=25,tm:=[(6,.lp 0 0),(7,.lp 1 0),(14,.sl 0 []),(15,ti),(16,ti)],lo:=[(0,[.sl 1 [],.sl 2 []]),(1,[.sl 3 [],.sl 4 []])],ro:=[(0,.int,true),(1,.bool,true),(2,.slot,true),(3,.bool,true),(4,.slot,true)]})]
theorem zH1 (c:Kept)(a:List Slot)(b:Int)(j:zf0 c a b=true):∃N,zw1 N c a b=some [aT .kept<|zkV c a b]:=by
 obtain⟨h,f⟩:=zB.1 j;have g:(zg2 a b).length<=big:=qX (zuG _ a 0) (zbV f).1;refine zbG λN e=>?_;unfold zw1 oN;conv=>zeta
 refine must (zbp h) (must (zbp (by omega)) ?_);refine(zW (zg2 a b) (λi (t:lB×lS)=>(ln<|zg2 a b,(i:Int),zg2 a b,[],[],t.1,t.2,())) _ (λ_ (x:Int) (t:List Bool×List Slot) k=>bif pc (SmK ⟨t.1,t.2⟩) then k ((zd6 ⟨t.1,t.2⟩ x).Known,(zd6 ⟨t.1,t.2⟩ x).Slots) else none) (λ(t:lB×lS)=>some [.agg<|Ty.cells .kept (⟨t.1,t.2⟩:Kept)]) (λi d t rec=>?_) (λt rec=>?_) _ ((zcP c).Known,(zcP c).Slots)<|e g).trans ?_;{simp only [zbf d,zO d,zX d,zV d g,cT]};{simp only [zbc,cF]};exact zyA _ _ 0 c h
theorem zCg:vF 327 zly:=kF3 zuk zl zn zo zIB zH1
def flushed (l:List Entry)(p:Int):List Entry:=l.filter λe=>!ieq e.Host p
theorem zFU (l:List Entry)(p:Int):(flushed l p).length<=l.length:=List.length_filter_le _ _
theorem znh {b e:Type}(p:b->Bool)(K:List b->Option e):∀(l:List b) (i:Nat) (a:List b),a.length+l.length<=2147483648->
 goL (λ_ x a d=>bif p x then (cond (few<|ln<|ap a [x]) (d<|ap a [x]) none) else d a) K l i a=K (a++l.filter p)
 |[],i,a,_=>by simp[goL]
 |x::l,i,a,h=>by simp only[qV]at h;simp only[goL];cases c:p x;{rw [cF,znh p K l (i+1) a (by omega),List.filter_cons_of_neg (by simp[c])]};{rw [cT,zev (by simp[ap];omega),cT,znh p K l (i+1) _ (by simp[ap];omega),List.filter_cons_of_pos c];simp[ap]}
@[simp] abbrev zc8 (l:List Entry)(p:Int):Bool:=pc (l.length<=1048576)
@[simp] abbrev zfF (l:List Entry)(p:Int):List Entry:=flushed l p
def zmp:Run:=rF2 (dS .entry) dI λb c=>(zc8 b c,[aS .entry<|zfF b c])
def zzG (N:Nat)(e:lE)(f:Int):OA:=
 (iter (σ:=(Int×Int×lE×lE×Unit)) N (λd a=>let b:=a.2.2.1;let c:=ix b a.2.1 zfl; (cond (ilt a.2.1<|ln b) (oN (inb a.2.1<|ln b)<|cond (ine c.Host a.1) (oN (inb a.2.1<|ln b)<|oN (few<|ln<|ap a.2.2.2.1 [c])<|d (a.1,zG .i64 a.2.1 1,b,ap a.2.2.2.1 [c],()))<|d (a.1,zG .i64 a.2.1 1,b,a.2.2.2.1,()))<|some [aS .entry a.2.2.2.1])) (f,0,e,[],()))
def zME:=zq [(367,0,{n:=29,tm:=[(0,.sl 0 []),(1,ti),(5,.sl 1 []),(6,ti)],lo:=[],ro:=[(0,.entry,false),(1,.entry,true)]})]
theorem zLy (a:List Entry)(b:Int)(h:zc8 a b=true):∃N,zzG N a b=some [aS .entry<|zfF a b]:=by
 have j:=zB.1 h;have f:=zbV j;refine zbG λN d=>?_;unfold zzG oN;conv=>zeta
 refine(zW a (λi (t:lE)=>(b,(i:Int),a,t,())) _ (λ_ (x:Entry) (t:List Entry) g=>bif !ieq x.Host b then (cond (few<|ln<|ap t [x]) (g<|ap t [x]) none) else g t) (λ(t:lE)=>some [.one<|.s .entry t]) (λi c t rec=>?_) (λt rec=>?_) _ ([])<|d f.1).trans ?_;{simp only [zbf c,zO c,zX c,zV c f.1,cT];rfl};{simp only [zbc,cF]};exact znh (λe=>!ieq e.Host b) _ a 0 [] (by simpa using f.2)
theorem zEa:vF 367 zmp:=kF2 zuk zl zn zo zME zLy
def zzl (N:Nat)(d:lE)(f:Int):OA:=
 (iter (σ:=(Int×Int×Int×lE×lE×Unit)) N (λe a=>let b:=a.2.2.2.2.1;let c:=ix b a.2.1 zfl; (cond (ilt a.2.1 a.1) (oN (inb a.2.1<|ln b)<|cond (nB<|ieq c.Host a.2.2.1) (oN (few<|ln<|ap a.2.2.2.1 [c])<|e (a.1,zG .i64 a.2.1 1,a.2.2.1,ap a.2.2.2.1 [c],b,()))<|e (a.1,zG .i64 a.2.1 1,a.2.2.1,a.2.2.2.1,b,()))<|some [aS .entry a.2.2.2.1])) (ln d,0,f,[],d,()))
def zMs:=zq [(156,0,{n:=25,tm:=[(1,.fn 362 [0]),(5,.sl 0 []),(9,.sl 1 []),(10,ti),(11,ti)],lo:=[(0,[ti])],ro:=[(0,.entry,true),(1,.entry,false)]})]
theorem zLf (a:List Entry)(b:Int)(h:zc8 a b=true):∃N,zzl N a b=some [aS .entry<|zfF a b]:=by
 have j:=zB.1 h;have f:=zbV j;refine zbG λN d=>?_;unfold zzl oN nB;conv=>zeta
 refine(zW a (λi (t:lE)=>(ln a,(i:Int),b,t,a,())) _ (λ_ (x:Entry) (t:List Entry) g=>bif !ieq x.Host b then (cond (few<|ln<|ap t [x]) (g<|ap t [x]) none) else g t) (λ(t:lE)=>some [.one<|.s .entry t]) (λi c t rec=>?_) (λt rec=>?_) _ ([])<|d f.1).trans ?_;{simp only [zbf c,zO c,zX c,zV c f.1,cT];cases ieq a[i].Host b<;>rfl};{simp only [zbc,cF]};exact znh (λe=>!ieq e.Host b) _ a 0 [] (by simpa using f.2)
theorem zDR:vF 328 zmp:=kF2 zuk zl zn zo zMs zLf
def zYQ:zY:=[(366,zly),(327,zly),(367,zmp),(328,zmp)]++z5a
theorem zyp:zK zYQ:=zf zCp (zf zCg<|zf zEa<|zf zDR zuk)
def zrr (b:List Guest)(p:Int):Nat->List Kept->List Kept
 | 0,a=>a
 |n+1,a=>up (zrr b p n a) (n:Int) (ztp (ix (zrr b p n a) (n:Int) zdC) (ix b (n:Int) zu).Live p)
theorem zpk (b:List Guest)(p:Int):∀(n:Nat) (a:List Kept),(zrr b p n a).length=a.length
 | 0,_=>rfl
 |n+1,a=>by simp only[zrr,zf4];exact zpk b p n a
theorem zsH (b:List Guest)(p:Int):∀(n:Nat) (a:List Kept),n<=a.length->zBI a->zBI (zrr b p n a)
 | 0,_,_,h=>h
 |n+1,a,e,h=>by have d:=zsH b p n a (by omega) h;have c:n<(zrr b p n a).length:=(by rw[zpk];omega);exact zt4 d (z3W _ _ (by rw[zX c];exact d.2 _ (jA c)))
def zkr (x:Mon)(p:Int)(n:Nat):Mon:={x with Tables:=zrr x.Guests p n x.Tables}
theorem z2k {x:Mon}{p:Int}{n:Nat}(a:n<=x.Tables.length)(h:zft x):zft (zkr x p n):=⟨h.1,h.2.1,h.2.2.1,h.2.2.2.1,h.2.2.2.2.1,zsH _ _ _ _ a h.2.2.2.2.2⟩
def zeQ (h:Host)(m p:Int)(s:Slot):Host :=
 bif ine (ix (ix h.Mons m zh).Outer p zT).Page (-1)
 then ⟨h.Memory,up h.Mons m {zkr (ix h.Mons m zh) p (ix h.Mons m zh).Tables.length with Outer:=up (ix h.Mons m zh).Outer p s},flushed h.Buffer (ix (ix h.Mons m zh).Outer p zT).Page,flushed h.IoBuffer (ix (ix h.Mons m zh).Outer p zT).Page⟩
 else ⟨h.Memory,up h.Mons m {zkr (ix h.Mons m zh) p (ix h.Mons m zh).Tables.length with Outer:=up (ix h.Mons m zh).Outer p s},h.Buffer,h.IoBuffer⟩
def z7G (h:Host)(m p:Int):Prop:=hasB m (ln h.Mons)=true/\hasB p (ln (ix h.Mons m zh).Outer)=true/\(ix h.Mons m zh).Tables.length<=(ix h.Mons m zh).Guests.length
@[simp] abbrev zgc (h:Host)(m p:Int)(s:Slot):Bool:=pc (zdJ h/\z7G h m p)
@[simp] abbrev ziI (h:Host)(m p:Int)(s:Slot):Host:=zeQ h m p s
def zs4:List AV->Option (Bool×List AV)
 |[.agg [.s (.sl .int) b,.s .mon c,.s .entry d,.s .entry e],.one<|.i .i64 f,.one<|.i .i64 g,.agg [.i .i64 h,.i .i64 j]]=>some (zgc (⟨b,c,d,e⟩:Host) f g (⟨h,j⟩:Slot),[aH<|ziI (⟨b,c,d,e⟩:Host) f g (⟨h,j⟩:Slot)])
 |_=>none
def zwB (N:Nat)(p:Host)(g z:Int)(B:Slot):OA:=
 let v:=ix p.Mons g zh; (oN (inb g<|ln p.Mons)<|oN (inb z<|ln v.Outer)<|iter (σ:=(Int×Int×Int×Int×Int×Int×Int×Int×Int×Int×Int×Int×Int×Int×Int×lM×lN×lE×lE×lM×lN×lE×lE×Unit)) N (λD a=>let d:=a.2.2.1;let m:=a.2.2.2.2.2.2.2.2.2.2.2.1;let l:=a.2.2.2.2.2.2.2.2.2.2.2.2.1;let k:=a.2.2.2.2.2.2.2.2.2.2.2.2.2.2.1;let j:=a.2.2.2.2.2.2.2.2.2.2.2.2.2.2.2.1;let f:=a.2.2.2.2.2.2.2.1;let e:=a.2.2.2.2.2.2.2.2.1;let c:=a.2.2.2.1;let w:=a.2.2.2.2.2.2.2.2.2.2.1;let y:=a.2.2.2.2.2.2.2.2.2.2.2.2.2.2.2.2.2.1;let x:=a.2.2.2.2.2.2.2.2.2.2.2.2.2.2.2.2.2.2.1;let n:=a.2.2.2.2.2.2.1;let r:=a.2.2.2.2.2.2.2.2.2.1;let i:=a.2.2.2.2.2.2.2.2.2.2.2.2.2.1;let q:=a.2.2.2.2.2.2.2.2.2.2.2.2.2.2.2.2.1;let u:=(ix q r zh).Guests;let t:=(ix u c zu).Live;let h:=ix q n zh;let s:=(ix q i zh).Tables;let C:=up q n ({h with Outer:=(up h.Outer a.2.1 (⟨a.2.2.2.2.1,a.2.2.2.2.2.1⟩:Slot))}:Mon); (cond (ilt c<|ln s) (oN (inb c<|ln s)<|oN (inb c<|ln u)<|oN (zf0 (ix s c zdC) t a.2.1)<|oN (inb c<|ln s)<|share (up q i ({ (ix q i zh) with Tables:=(up s c<|zkV (ix s c zdC) t a.2.1)}:Mon)) λb=>D (a.1,a.2.1,d,zG .i64 c 1,a.2.2.2.2.1,a.2.2.2.2.2.1,n,f,e,r,w,m,l,i,k,j,b,y,x,a.2.2.2.2.2.2.2.2.2.2.2.2.2.2.2.2.2.2.2.1,a.2.2.2.2.2.2.2.2.2.2.2.2.2.2.2.2.2.2.2.2.1,a.2.2.2.2.2.2.2.2.2.2.2.2.2.2.2.2.2.2.2.2.2.1,a.2.2.2.2.2.2.2.2.2.2.2.2.2.2.2.2.2.2.2.2.2.2.1,()))<|cond (ine d<|-1) (oN (zc8 y d)<|oN (zc8 x d)<|oN (inb a.2.1<|ln h.Outer)<|share C λb=>oN (inb a.1<|ln b)<|oN (cond (cond (cond (cond (cond (cond (ieq i a.1) true false) (cond (ieq w a.1) true false) false) (cond (ieq r a.1) true false) false) (cond (ieq e a.1) true false) false) (cond (ieq f a.1) true false) false) (cond (ieq n a.1) true false) false)<|share (up b a.1 ({ (ix b n zh) with Out:=(ix b f zh).Out,Dirty:=(ix b e zh).Dirty,Guests:=(ix b r zh).Guests,Outs:=(ix b w zh).Outs,Pending:=m,Traps:=l,Tables:=(ix b i zh).Tables,Own:=k}:Mon)) λA=>some [aH (⟨j,A,zfF y d,zfF x d⟩:Host)])<|oN (inb a.2.1<|ln h.Outer)<|share C λb=>oN (inb a.1<|ln b)<|oN (cond (cond (cond (cond (cond (cond (ieq i a.1) true false) (cond (ieq w a.1) true false) false) (cond (ieq r a.1) true false) false) (cond (ieq e a.1) true false) false) (cond (ieq f a.1) true false) false) (cond (ieq n a.1) true false) false)<|share (up b a.1 ({ (ix b n zh) with Out:=(ix b f zh).Out,Dirty:=(ix b e zh).Dirty,Guests:=(ix b r zh).Guests,Outs:=(ix b w zh).Outs,Pending:=m,Traps:=l,Tables:=(ix b i zh).Tables,Own:=k}:Mon)) λA=>some [aH (⟨j,A,y,x⟩:Host)])) (g,z,(ix v.Outer z zT).Page,0,B.Page,B.Rights,g,g,g,g,g,v.Pending,v.Traps,g,v.Own,p.Memory,p.Mons,p.Buffer,p.IoBuffer,[],[],[],[],()))
def zSS:=zq [(331,0,{n:=70,tm:=[(1,ti),(2,ti),(4,.lp 0 0),(7,.lp 1 0),(8,.lp 2 0),(9,.lp 3 0),(10,ti),(11,ti)],lo:=[(0,[.sl 0 [],.sl 1 [],.sl 2 [],.sl 3 []]),(1,[ti,ti]),(2,[.sl 4 [],.sl 5 [],.sl 6 [],.sl 7 []]),(3,[.sl 1 [0],.sl 1 [1],.sl 1 [2],.sl 1 [3],.sl 1 [4],ti,ti,.sl 1 [7],ti])],ro:=[(0,.sl .int,true),(1,.mon,true),(2,.entry,true),(3,.entry,true),(4,.sl .int,true),(5,.mon,true),(6,.entry,true),(7,.entry,true)]})]
theorem zVa (N:Nat)(a:Host)(b c:Int)(d:Slot):zDr (cQ zYQ znW zyZ zIA) zSS N 12 331 [true,true,true,true,false,false,false,false] 1 1 [[0],[1],[2],[4],[7]] .mon [aH a,aI b,aI c,aT .slot d]=zwB N a b c d:=by kernel_rfl
theorem zSy (a:Host)(f b:Int)(d:Slot)(D:zbt big [aH a,aI f,aI b,aT .slot d])(y:zgc a f b d=true):∃N,zwB N a f b d=some [aH<|ziI a f b d]:=by
 obtain⟨B,g,s,C⟩:=zB.1 y;have l:=(zJ a).1 B;have r:zft (ix a.Mons f zh):=l.2.1.2 _ (zbz g _);obtain⟨k,rfl,q⟩:=zd8 (n:=a.Mons.length) g;have x:=(zbV r.2.2.2.2.2.1).1;refine zbG λN p=>?_;unfold zwB oN;conv=>zeta
 refine must g (must s ?_);refine zrb (ix a.Mons (k:Int) zh).Tables.length (λi (t:List Mon)=>((k:Int),b,(ix (ix a.Mons (k:Int) zh).Outer b zT).Page,(i:Int),d.Page,d.Rights,(k:Int),(k:Int),(k:Int),(k:Int),(k:Int),(ix a.Mons (k:Int) zh).Pending,(ix a.Mons (k:Int) zh).Traps,(k:Int),(ix a.Mons (k:Int) zh).Own,a.Memory,t,a.Buffer,a.IoBuffer,[],[],[],[],())) _
  (λi t=>t=up a.Mons (k:Int) (zkr (ix a.Mons (k:Int) zh) b i)) (λ_ _=>some [AV.agg<|zbb<|zeQ a (k:Int) b d]) (λi t rec u m A=>?_) (λt rec m=>?_) _ 0 a.Mons ?_ (jX _) ?_
 .subst m;have c:i<(zrr (ix a.Mons (k:Int) zh).Guests b i (ix a.Mons (k:Int) zh).Tables).length:=(by rw[zpk];exact u);have e:i<(ix a.Mons (k:Int) zh).Guests.length:=by omega
  have z:zf0 (ix (zrr (ix a.Mons (k:Int) zh).Guests b i (ix a.Mons (k:Int) zh).Tables) (i:Int) zdC) (ix (ix a.Mons (k:Int) zh).Guests (i:Int) zu).Live b=true :=
   zbp ⟨by rw[zX c];exact(zsH _ _ _ _ (by omega) r.2.2.2.2.2).2 _ (jA c),by rw[zX e];exact(r.2.2.2.1.2 _<|jA e).2.2.1⟩
  simp only[zdE q,zqV,zkr,zbf c,zO c,zO e,z,cT,share,zV u x];exact A _ rfl
 {subst m;simp only[zdE q,zqV,zf4,zkr,ln,zpk,zuH,show ilt (((ix a.Mons (k:Int) zh).Tables.length:Nat):Int) (((ix a.Mons (k:Int) zh).Tables.length:Nat):Int)=false from qI (by omega),cT,cF,share];have h:inb (k:Int) ((a.Mons.length:Nat):Int)=true:=g;have j:inb b (((ix a.Mons (k:Int) zh).Outer.length:Nat):Int)=true:=s;have v:zc8 a.Buffer (ix (ix a.Mons (k:Int) zh).Outer b zT).Page=true:=zbp l.2.2.1;have w:zc8 a.IoBuffer (ix (ix a.Mons (k:Int) zh).Outer b zT).Page=true:=zbp l.2.2.2;simp only[h,j,v,w,cT];unfold zeQ;cases ine (ix (ix a.Mons (k:Int) zh).Outer b zT).Page (-1)<;>rfl};{exact(zDM q _).symm};{exact p (by omega)}
theorem zK1:zeK Tryz.prog 331 [true,true,true,true,false,false,false,false] (some (1,1,[[0],[1],[2],[4],[7]])) zs4:=by refine znj (kt:=.mon) (zhW zyp zl zn zo) (zij (by kernel_rfl)) (by kernel_rfl) ?_;intro a g f e h;have c:=zkC e;unfold zs4 at h;split at h;{obtain⟨d,rfl⟩:=zds h;obtain⟨N,b⟩:=zSy _ _ _ _ (by exact c) d;exact⟨⟨_,rfl⟩,rfl,_,N,12,(zVa N _ _ _ _ ).trans b⟩};{cases h}
def zVV:zfS:=[(331,[true,true,true,true,false,false,false,false],some (1,1,[[0],[1],[2],[4],[7]]),zs4)]++zIA
theorem zdu:zeL zVV:=zpm zo (by
 intro x a;simp only[qH,qY,or_false]at a;rcases a with rfl
 .exact zK1)
def zMK (x:Mon)(p:Int):Mon:={x with Dirty:=up x.Dirty p false}
def grd (x:Mon)(p:Int):Mon:={x with Outer:=up x.Outer p ⟨(ix x.Outer p zT).Page,1⟩}
def zru (h:Host)(m p:Int):Host:={h with Mons:=up h.Mons m (zMK (ix h.Mons m zh) p)}
def zur (h:Host)(m p:Int):Host:=bif zb6 h m p then (cond (zdP (ix (ix h.Mons m zh).Outer p zT) noSlot) (zru h m p)<|zeQ (zru h m p) m p ⟨(ix (ix h.Mons m zh).Outer p zT).Page,1⟩) else h
theorem zyI:∀(l:List Mon) (u:List Bool),zn6 l u=true->∀x∈l,zfP x=true
 |[],_,_,x,a=>by cases a
 |m::l,u,h,x,a=>by
  simp only[zn6]at h;cases b:zfP m;{rw [b]at h;cases h}
  .rw [b]at h;simp only[cT]at h;cases c:zk8 m.Outer u with
   |none=>rw[c]at h;cases h
   |some d =>rw[c]at h;rcases qH.1 a with rfl|a;{exact b};{exact zyI l d h x a}
structure PageAt (h:Host) (m p:Int):Prop where
 hm:hasB m (ln h.Mons)=true
 hp:hasB p 8=true
 ok:zfP (ix h.Mons m zh)=true
 ho:(ix h.Mons m zh).Outer.length=8
 hd:(ix h.Mons m zh).Dirty.length=8
 ht:(ix h.Mons m zh).Tables.length=(ix h.Mons m zh).Guests.length
 hs:zdP (ix (ix h.Mons m zh).Outer p zT) noSlot=ieq (ix (ix h.Mons m zh).Outer p zT).Page (-1)
theorem zQ0 {s:Slot}{n:Int}(h:zgv s n=true):zdP s noSlot=ieq s.Page (-1):=by unfold zgv at h;cases a:zdP s noSlot;{rw [a]at h;cases d:ieq s.Page (-1);{rfl};{have e:s.Page = -1:=qD d;cases b:igt n 0;{rw [b]at h;cases h};{cases c:zk s.Page 0 (wsub .i64 n 1);{rw [b,c]at h;cases h};{have:=(ze4.1 c).1;omega}}}};{unfold zdP at a;rw[qE]at a;exact a.1.symm}
theorem zyX {h:Host}{m p:Int}(d:zb6 h m p=true):PageAt h m p:=by unfold zb6 at d;simp only[zdo]at d;obtain⟨c,f,g⟩:=d;unfold zbP at c;simp only[zdo]at c;have b:=zyI _ _ c.2.2.2.2 _ (zbz f zh);have a:=b;unfold zfP at a;simp only[zdo]at a;have i:(ix h.Mons m zh).Outer.length=8:=(by have:=zsI a.2.2.1;simp only[ln] at this;omega);refine⟨f,g,b,i,?_,?_,?_⟩;{have:ln (ix h.Mons m zh).Dirty=8:=qD a.2.2.2.2.1;simp only[ln] at this;omega};{have:ln (ix h.Mons m zh).Tables=ln (ix h.Mons m zh).Guests:=qD a.2.1;simp only[ln] at this;omega};{have e:=a.2.2.1;unfold zeg at e;simp only[zdo]at e;have j:hasB p (ln (ix h.Mons m zh).Outer)=true:=(by rw[ln,i];exact g);exact zQ0 (qQ.1 e.1 _<|zbz j _)}
theorem zVP {x:Mon}{p:Int}(h:zft x):zft (zMK x p):=⟨h.1,h.2.1,by simpa [zMK] using h.2.2.1,h.2.2.2⟩
theorem zzb {h:Host}{m p:Int}(b:hasB m (ln h.Mons)=true)(a:SmH h):SmH (zru h m p):=⟨a.1,zj7 a.2.1<|zVP<|a.2.1.2 _<|zbz b _,a.2.2⟩
theorem zGu {h:Host}{m p:Int}{s:Slot}(d:hasB m (ln h.Mons)=true)(a:SmH h):SmH (zeQ h m p s):=by have c:=a.2.1.2 _ (zbz d zh);have e:=z2k (p:=p) (qW _) c;have b:zpL (up h.Mons m {zkr (ix h.Mons m zh) p (ix h.Mons m zh).Tables.length with Outer:=up (ix h.Mons m zh).Outer p s}):=zj7 a.2.1 ⟨by simpa using c.1,e.2⟩;unfold zeQ;cases ine (ix (ix h.Mons m zh).Outer p zT).Page (-1);{exact⟨a.1,b,a.2.2⟩};{exact⟨a.1,b,qX (zFU _ _) a.2.2.1,qX (zFU _ _) a.2.2.2⟩}
theorem zzf {h:Host}{m p:Int}(a:hasB m (ln h.Mons)=true):hasB m (ln (zru h m p).Mons)=true:=by unfold zru;simpa [ln] using a
theorem z2g {h:Host}{m p:Int}(a:SmH h):SmH (zur h m p):=by unfold zur;cases b:zb6 h m p;{exact a};{have P:=zyX b;cases zdP (ix (ix h.Mons m zh).Outer p zT) noSlot;{exact zGu (zzf P.hm) (zzb P.hm a)};{exact zzb P.hm a}}
@[simp] abbrev zeH (h:Host)(m p:Int):Bool:=pc (zdJ h)
@[simp] abbrev zjZ (h:Host)(m p:Int):Host:=zur h m p
def zGh:Run:=rF3 dH dI dI λb c d=>(zeH b c d,[aH<|zjZ b c d,aB<|zdY b c d])
def zP6 (N:Nat)(h:Host)(a b:Int):OA:=
 let c:=zi h;let g:=ix c.Mons a zh; (oN (zL h)<|oN (ziH c a b)<|cond (nB<|zdY c a b) (some [aH c,aB false])<|oN (inb a<|ln c.Mons)<|oN (inb b<|ln g.Dirty)<|share (up c.Mons a ({g with Dirty:=(up g.Dirty b false)}:Mon)) (λd=>let i:=(ix d a zh).Outer;let f:=({c with Mons:=d}:Host);let e:=ix i b zT;let j:=({e with Rights:=1}:Slot); (oN (inb a<|ln d)<|oN (inb b<|ln i)<|oN zbE<|cond (cond (ieq e.Page zbj.Page) (ieq e.Rights zbj.Rights) false) (some [aH f,aB true])<|oN (zgc f a b j)<|some [aH<|ziI f a b j,aB true])))
theorem zW0 (a:Host)(c b:Int)(j:zeH a c b=true):∃N,zP6 N a c b=some [aH<|zjZ a c b,aB<|zdY a c b]:=by
 have g:=zB.1 j;have i:=(zJ a).1 g;refine⟨0,?_⟩;unfold zP6 zjZ zdY zur oN nB;conv=>zeta
 refine must (zbp g) (must rfl ?_);cases f:zb6 a c b;{simp only [zdY,zi,f,cF,cT]};{have P:=zyX f;obtain⟨k,rfl,d⟩:=zd8 (n:=a.Mons.length) P.hm;simp only[zdY,zi,f,cT,cF];have l:inb b (ln (ix a.Mons (k:Int) zh).Dirty)=true:=(by rw[ln,P.hd];exact P.hp);have h:inb b (ln (ix a.Mons (k:Int) zh).Outer)=true:=(by rw[ln,P.ho];exact P.hp);refine must P.hm (must l ?_);simp only[share,zdE d,h,cT,zbE,zbj];refine must (zzf (p:=b) P.hm) ?_;have e:∀s:Slot,zdP s noSlot=bif ieq s.Page noSlot.Page then ieq s.Rights noSlot.Rights else false:=λs=>(by unfold zdP;cases ieq s.Page noSlot.Page<;>rfl);rw[<- e];cases zdP (ix (ix a.Mons (k:Int) zh).Outer b zT) noSlot;{refine zbA rfl (must (zbp ⟨(zJ _).2 (zzb P.hm i),zzf (p:=b) P.hm,?_,?_⟩) rfl);{simp only [zdE d];exact h};{simp only [zdE d];exact k9 P.ht}};{rfl}}
theorem zRo:vF 251 zGh:=kF3 zyp zl zn zdu (zq []) zW0
@[simp] abbrev zvX (h:Host)(m p:Int):Bool:=zb6 h m p
def zGe:Run:=rF3 dH dI dI λb c d=>(zeH b c d,[aH<|zjZ b c d,aB<|zvX b c d])
def zPU (N:Nat)(f:Host)(a c:Int):OA:=
 let d:=zi f;let g:=ix d.Mons a zh;let j:=ix g.Outer c zT; (oN (zL f)<|oN (ziH f a c)<|cond (nB<|zdY f a c) (some [aH d,aB false])<|oN (inb a<|ln d.Mons)<|oN (inb c<|ln g.Outer)<|cond (ine j.Page<|-1) (oN (inb c<|ln g.Outer)<|share (up d.Mons a ({g with Outer:=(up g.Outer c ({j with Rights:=1}:Slot))}:Mon)) λk=>oN (inb a<|ln k)<|oN (cond (cond (cond (ieq a a) true false) (cond (cond (ieq a a) true false) (cond (cond (ieq a a) true false) (cond (cond (ieq a a) true false) (cond (cond (ieq a a) true false) (cond (ieq a a) (cond (cond (ieq c c) (ieq a a) false) (cond (cond (ieq a a) true false) (cond (cond (ieq a a) true false) (cond (cond (ieq a a) true false) (cond (ieq a a) (cond (cond (ieq c c) (ieq a a) false) (cond (cond (ieq c c) (ieq a a) false) true false) false) false) false) false) false) false) false) false) false) false) false) false) true false)<|iter (σ:=(Int×Int×Int×Int×Int×Int×Int×Int×lN×lM×lN×lE×lE×lM×lE×lE×lM×lN×lE×lE×Unit)) N (λv b=>let e:=b.2.2.2.2.1;let s:=b.2.2.2.2.2.2.2.2.1;let t:=b.2.2.2.2.2.2.2.2.2.2.2.2.2.1;let h:=b.2.2.2.1;let r:=b.2.2.2.2.2.2.2.2.2.2.2.2.2.2.1;let q:=b.2.2.2.2.2.2.2.2.2.2.2.2.2.2.2.1;let p:=ix s a zh;let u:=up s a ({p with Dirty:=(up p.Dirty c false)}:Mon);let i:=ix s b.2.1 zh;let n:=ix i.Tables h zdC;let m:=(ix i.Guests h zu).Live; (cond (ilt h b.2.2.1) (oN (inb h<|ln i.Tables)<|oN (inb h<|ln i.Guests)<|oN (zf0 n m b.1)<|oN (inb h<|ln i.Tables)<|share (up s b.2.1 ({i with Tables:=(up i.Tables h<|zkV n m b.1)}:Mon)) λl=>oN (cond (cond (cond (ieq a a) true false) (cond (cond (ieq a a) true false) (cond (cond (ieq a a) true false) (cond (cond (ieq a a) true false) (cond (cond (ieq a a) true false) (cond (ieq a a) (cond (cond (ieq c c) (ieq a a) false) (cond (cond (ieq a a) true false) (cond (cond (ieq a a) true false) (cond (cond (ieq a a) true false) (cond (ieq a a) (cond (cond (ieq c c) (ieq a a) false) (cond (cond (ieq c c) (ieq a a) false) true false) false) false) false) false) false) false) false) false) false) false) false) false) true false)<|v (b.1,b.2.1,b.2.2.1,zG .i64 h 1,e,b.2.2.2.2.2.1,b.2.2.2.2.2.2.1,b.2.2.2.2.2.2.2.1,l,b.2.2.2.2.2.2.2.2.2.1,b.2.2.2.2.2.2.2.2.2.2.1,b.2.2.2.2.2.2.2.2.2.2.2.1,b.2.2.2.2.2.2.2.2.2.2.2.2.1,t,r,q,b.2.2.2.2.2.2.2.2.2.2.2.2.2.2.2.2.1,b.2.2.2.2.2.2.2.2.2.2.2.2.2.2.2.2.2.1,b.2.2.2.2.2.2.2.2.2.2.2.2.2.2.2.2.2.2.1,b.2.2.2.2.2.2.2.2.2.2.2.2.2.2.2.2.2.2.2.1,()))<|cond (ine e<|-1) (oN (zc8 r e)<|oN (zc8 q e)<|oN (inb c<|ln p.Dirty)<|share u λl=>some [aH (⟨t,l,zfF r e,zfF q e⟩:Host),aB true])<|oN (inb c<|ln p.Dirty)<|share u λl=>some [aH (⟨t,l,r,q⟩:Host),aB true])) (c,a,ln (ix k a zh).Guests,0,j.Page,j.Rights,j.Page,j.Rights,k,f.Memory,f.Mons,f.Buffer,f.IoBuffer,d.Memory,d.Buffer,d.IoBuffer,[],[],[],[],()))<|oN (inb c<|ln g.Dirty)<|share (up d.Mons a ({g with Dirty:=(up g.Dirty c false)}:Mon)) λk=>some [aH ({d with Mons:=k}:Host),aB true])
def zXI:=zq [(246,0,{n:=71,tm:=[(0,.lp 0 0),(2,ti),(7,.lp 1 0),(8,.ep 0 [] 0),(20,ti),(21,ti)],lo:=[(0,[.sl 5 [],.sl 0 [],.sl 6 [],.sl 7 []]),(1,[ti,ti]),(2,[.sl 1 [],.sl 2 [],.sl 3 [],.sl 4 []]),(3,[.sl 8 [],.sl 9 [],.sl 10 [],.sl 11 []]),(4,[ti,ti])],ro:=[(0,.mon,true),(1,.sl .int,false),(2,.mon,false),(3,.entry,false),(4,.entry,false),(5,.sl .int,true),(6,.entry,true),(7,.entry,true),(8,.sl .int,true),(9,.mon,true),(10,.entry,true),(11,.entry,true)],sk:=[(0,0,0,.sl 1 []),(0,0,1,.sl 2 []),(0,0,2,.sl 3 []),(0,0,3,.sl 4 []),(0,3,0,.lp 2 0),(0,6,0,.lp 3 0),(0,10,0,.lp 4 0),(0,12,0,.sl 5 []),(0,12,2,.sl 6 []),(0,12,3,.sl 7 [])]})]
theorem zWQ (a:Host)(d c:Int)(z:zeH a d c=true):∃N,zPU N a d c=some [aH<|zjZ a d c,aB<|zvX a d c]:=by
 have s:=zB.1 z;have l:=(zJ a).1 s;refine zbG λN p=>?_;unfold zPU zjZ zvX zur oN nB;conv=>zeta
 refine must (zbp s) (must rfl ?_);rw[show zdY a d c=zb6 a d c from rfl];cases B:zb6 a d c;{rfl}
 .have P:=zyX B;have r:zft (ix a.Mons d zh):=l.2.1.2 _ (zbz P.hm _);obtain⟨k,rfl,q⟩:=zd8 (n:=a.Mons.length) P.hm;have u:inb c (ln (ix a.Mons (k:Int) zh).Dirty)=true:=(by rw[ln,P.hd];exact P.hp);have v:inb c (ln (ix a.Mons (k:Int) zh).Outer)=true:=(by rw[ln,P.ho];exact P.hp);have y:=(zbV r.2.2.2.2.2.1).1;refine zbA rfl ?_;rw[P.hs];refine must P.hm (must v ?_);cases h:ieq (ix (ix a.Mons (k:Int) zh).Outer c zT).Page (-1)
  .have hpg2:ine (ix (ix a.Mons (k:Int) zh).Outer c zT).Page (-1)=true:=(by rw[zjE];exact congrArg not h);refine must hpg2 (must v ?_);simp only[share];refine must (by simp only[ln,zf4];exact P.hm) ?_
   simp only[zuH,cT,zi];refine zrb (ix a.Mons (k:Int) zh).Guests.length (λi (t:List Mon)=>(c,(k:Int),ln (ix (up a.Mons (k:Int)<|grd (ix a.Mons (k:Int) zh) c) (k:Int) zh).Guests,(i:Int),(ix (ix a.Mons (k:Int) zh).Outer c zT).Page,(ix (ix a.Mons (k:Int) zh).Outer c zT).Rights,(ix (ix a.Mons (k:Int) zh).Outer c zT).Page,(ix (ix a.Mons (k:Int) zh).Outer c zT).Rights,t,a.Memory,a.Mons,a.Buffer,a.IoBuffer,a.Memory,a.Buffer,a.IoBuffer,[],[],[],[],())) _
    (λi t=>t=up a.Mons (k:Int) (zkr (grd (ix a.Mons (k:Int) zh) c) c i)) (λ_ _=>some [AV.agg<|zbb<|zeQ (zru a (k:Int) c) (k:Int) c ⟨(ix (ix a.Mons (k:Int) zh).Outer c zT).Page,1⟩,AV.one<|.b true]) (λi t rec f m C=>?_) (λt rec m=>?_) _ 0 (up a.Mons (k:Int)<|grd (ix a.Mons (k:Int) zh) c) rfl (jX _) ?_
   .subst m;have g:i<(ix a.Mons (k:Int) zh).Tables.length:=(by rw[P.ht];exact f);have e:i<(zrr (ix a.Mons (k:Int) zh).Guests c i (ix a.Mons (k:Int) zh).Tables).length:=by rw[zpk];exact g
    have A:zf0 (ix (zrr (ix a.Mons (k:Int) zh).Guests c i (ix a.Mons (k:Int) zh).Tables) (i:Int) zdC) (ix (ix a.Mons (k:Int) zh).Guests (i:Int) zu).Live c=true :=
     zbp ⟨by rw[zX e];exact(zsH _ _ _ _ (by omega) r.2.2.2.2.2).2 _ (jA e),by rw[zX f];exact(r.2.2.2.1.2 _<|jA f).2.2.1⟩
    simp only[zdE q,zqV,zkr,grd,zbf f,zO e,zO f,A,cT,share,zV g y];have j:=C _ rfl;simp only[zdE q,zkr,grd]at j;exact j
   {subst m;have w:zc8 a.Buffer (ix (ix a.Mons (k:Int) zh).Outer c zT).Page=true:=zbp l.2.2.1;have x:zc8 a.IoBuffer (ix (ix a.Mons (k:Int) zh).Outer c zT).Page=true:=zbp l.2.2.2;unfold zeQ zru zMK;simp only[zdE q,zqV,zkr,grd,zbc,hpg2,w,x,u,P.ht,share,cT,cF]};{exact p (by rw[<- P.ht];omega)}
  {refine zbA (by rw[zjE];exact congrArg not h) (must u ?_);rfl}
theorem zRc:vF 124 zGe:=kF3 zyp zl zn zdu zXI zWQ
def z0U:zY:=[(251,zGh),(124,zGe)]++zYQ
theorem z0V:zK z0U:=zf zRo (zf zRc zyp)
def z0W:zY:=z0U
theorem zfU:zK z0W:=z0V
def zo8 (o i t:Int):Int:=bif zeo i t then 1 else (cond (zeo o t) 2 0)
@[simp] abbrev zok (o i t:Int):Bool:=true
@[simp] abbrev zlh (o i t:Int):Int:=zo8 o i t
def zoL:Run:=rF3 dI dI dI λb c d=>(zok b c d,[aI<|zlh b c d])
def zFz (N:Nat)(b c a:Int):OA:=
 (oN (zga c a)<|cond (zfw c a) (some [aI 1])<|oN (zga b a)<|cond (zfw b a) (some [aI 2])<|some [aI 0])
theorem zzY (a b c:Int)(d:zbt big [aI a,aI b,aI c])(e:zok a b c=true):∃N,zFz N a b c=some [aI<|zlh a b c]:=by refine⟨0,?_⟩;unfold zFz oN;refine must rfl (br (λ_=>?_) λ_=>must rfl (br (λ_=>?_) λ_=>?_));all_goals first|rfl|(simp only [*,zlh,zo8,cT,cF]<;>rfl)|simp_all[Ty.cells,zlh,zo8]
theorem zKJ:vF 334 zoL:=hF3 zfU zl zn zdu (zq []) zzY
theorem zKh:vF 282 zoL:=hF3 zfU zl zn zdu (zq []) zzY
theorem z8u (p:Int):hasB p 3=zk p 0 2:=by unfold hasB zk ige ile;by_cases a:0<=p<;>by_cases b:p<3;{rw [qL (p:=0<=p/\p<3) ⟨a,b⟩,qL (p:=p≥0) a,qL (p:=p<=2) (by omega)];rfl};{rw [qI (p:=0<=p/\p<3) (by omega),qI (p:=p<=2) (by omega)];simp};{rw [qI (p:=0<=p/\p<3) (by omega),qI (p:=p≥0) (by omega)];simp};{rw [qI (p:=0<=p/\p<3) (by omega),qI (p:=p≥0) (by omega)];simp}
theorem z8t (p:Int):hasB p 2=zk p 0 1:=by unfold hasB zk ige ile;by_cases a:0<=p<;>by_cases b:p<2;{rw [qL (p:=0<=p/\p<2) ⟨a,b⟩,qL (p:=p≥0) a,qL (p:=p<=1) (by omega)];rfl};{rw [qI (p:=0<=p/\p<2) (by omega),qI (p:=p<=1) (by omega)];simp};{rw [qI (p:=0<=p/\p<2) (by omega),qI (p:=p≥0) (by omega)];simp};{rw [qI (p:=0<=p/\p<2) (by omega),qI (p:=p≥0) (by omega)];simp}
def ziu (m g:Int):Int:=bif zk m 0 2 then (cond (zk g 0 1) (zG .i64 (zG .i64 1 g)<|zm5 .i64 m 2) 0) else 0
@[simp] abbrev zhQ (m g:Int):Bool:=true
@[simp] abbrev zk1 (m g:Int):Int:=ziu m g
def zr3:Run:=rF2 dI dI λb c=>(zhQ b c,[aI<|zk1 b c])
def zQd (N:Nat)(a b:Int):OA:=
 (oN (zD a 0 2)<|cond (nB<|zk a 0 2) (some [aI 0])<|oN (zD b 0 1)<|cond (nB<|zk b 0 1) (some [aI 0])<|some [aI<|zG .i64 (zG .i64 1 b)<|zm5 .i64 a 2])
theorem zW6 (a b:Int)(c:zhQ a b=true):∃N,zQd N a b=some [aI<|zk1 a b]:=by refine⟨0,?_⟩;unfold zQd oN nB;refine must rfl (brN (λ_=>?_) λ_=>must rfl (brN (λ_=>?_) λ_=>?_));all_goals first|rfl|(simp only [*,zk1,ziu,cT,cF]<;>rfl)|simp_all[Ty.cells,zk1,ziu]
theorem zRv:vF 262 zr3:=kF2 zfU zl zn zdu (zq []) zW6
def zP1 (N:Nat)(a b:Int):OA:=
 (oN (zZ a 3)<|cond (nB<|zbH a 3) (some [aI 0])<|oN (zZ b 2)<|cond (nB<|zbH b 2) (some [aI 0])<|some [aI<|zG .i64 (zG .i64 1 b)<|zm5 .i64 a 2])
theorem zWX (a b:Int)(c:zhQ a b=true):∃N,zP1 N a b=some [aI<|zk1 a b]:=by refine⟨0,?_⟩;unfold zP1 oN nB;refine must rfl (brN (λ_=>?_) λ_=>must rfl (brN (λ_=>?_) λ_=>?_));all_goals first|rfl|(simp only [*,zk1,ziu,z8u,z8t,cT,cF]<;>rfl)|simp_all[Ty.cells,zk1,ziu,z8u,z8t]
theorem zRk:vF 67 zr3:=kF2 zfU zl zn zdu (zq []) zWX
def zp0 (k:Kept)(p:Int):Bool:=bif zfc k p then ix k.Known p false else false
def zgP (k:Kept)(p:Int):Slot:=bif zp0 k p then ix k.Slots p zT else noSlot
@[simp] abbrev zjM (k:Kept)(p:Int):Slot:=zgP k p
@[simp] abbrev zpB (k:Kept)(p:Int):Bool:=zp0 k p
def zQX:Run:=rF2 (dT .kept) dI λb c=>(zcx b c,[aT .slot<|zjM b c,aB<|zpB b c])
def zXT (N:Nat)(a:Kept)(b:Int):OA:=
 let c:=ix a.Slots b zT; (oN (zcx a b)<|cond (nB<|zko a b) (oN zbE<|some [.agg [.i .i64 zbj.Page,.i .i64 zbj.Rights],aB false])<|oN (inb b<|ln a.Known)<|cond (nB<|ix a.Known b false) (oN zbE<|some [.agg [.i .i64 zbj.Page,.i .i64 zbj.Rights],aB false])<|oN (inb b<|ln a.Slots)<|some [.agg [.i .i64 c.Page,.i .i64 c.Rights],aB true])
theorem z1v (a:Kept)(b:Int)(f:zcx a b=true):∃N,zXT N a b=some [aT .slot<|zjM a b,aB<|zpB a b]:=by
 have g:=zB.1 f;refine⟨0,?_⟩;unfold zXT zjM zpB zgP zp0 oN nB;conv=>zeta
 refine must (zbp g) ?_;rw[show zko a b=zfc a b from rfl];cases c:zfc a b;{rfl};{unfold zfc at c;obtain⟨d,e⟩:=zdo.1 c;simp only[zy d,zy e,cT];cases ix a.Known b false<;>rfl}
theorem zWO:vF 337 zQX:=kF2 zfU zl zn zdu (zq []) z1v
@[simp] abbrev zxr (k:Kept)(p:Int):Bool:=true
def zQU:Run:=rF2 (dT .kept) dI λb c=>(zxr b c,[aT .slot<|zjM b c,aB<|zpB b c])
def zXP (N:Nat)(a:Kept)(b:Int):OA:=
 let c:=ix a.Slots b zT; (oN (zZ b<|ln a.Known)<|cond (nB<|zbH b<|ln a.Known) (oN zbE<|some [.agg [.i .i64 zbj.Page,.i .i64 zbj.Rights],aB false])<|oN (zZ b<|ln a.Slots)<|cond (nB<|zbH b<|ln a.Slots) (oN zbE<|some [.agg [.i .i64 zbj.Page,.i .i64 zbj.Rights],aB false])<|oN (inb b<|ln a.Known)<|cond (nB<|ix a.Known b false) (oN zbE<|some [.agg [.i .i64 zbj.Page,.i .i64 zbj.Rights],aB false])<|oN (inb b<|ln a.Slots)<|some [.agg [.i .i64 c.Page,.i .i64 c.Rights],aB true])
theorem z1r (a:Kept)(b:Int)(e:zxr a b=true):∃N,zXP N a b=some [aT .slot<|zjM a b,aB<|zpB a b]:=by
 refine⟨0,?_⟩;unfold zXP zjM zpB zgP zp0 zfc oN nB;conv=>zeta
 rw[show zbH b (ln a.Known)=hasB b (ln a.Known) from rfl,show zbH b (ln a.Slots)=hasB b (ln a.Slots) from rfl];cases c:hasB b (ln a.Known);{rfl};{cases d:hasB b (ln a.Slots);{rfl};{simp only [zZ,zy c,zy d,cT];cases ix a.Known b false<;>rfl}}
theorem zWK:vF 344 zQU:=kF2 zfU zl zn zdu (zq []) z1r
def filled (k:Kept)(a b:List Slot)(p:Int):Kept:=bif zfc k p then (cond (hasB p<|ln a) ⟨up k.Known p true,up k.Slots p<|zkc (ix a p zT) b⟩ k) else k
@[simp] theorem zZ8 {k:Kept}{a b:List Slot}{p:Int}(h:SmK k):SmK (filled k a b p):=by unfold filled;cases zfc k p;{exact h};{cases hasB p (ln a);{exact h};{exact⟨by simpa using h.1,by simpa using h.2⟩}}
@[simp] abbrev zu4 (k:Kept)(i o:List Slot)(p:Int):Bool:=pc (SmK k)
@[simp] abbrev zu3 (k:Kept)(i o:List Slot)(p:Int):Kept:=filled k i o p
def ztJ:Run:=rF4 (dT .kept) (dS .slot) (dS .slot) dI λb c d e=>(zu4 b c d e,[aT .kept<|zu3 b c d e])
def zTi (N:Nat)(d:Kept)(c e:lS)(a:Int):OA:=
 let b:=zd4 d; (oN (zhu d)<|oN (zcx b a)<|cond (zko b a) (cond (ilt a<|ln c) (oN (inb a<|ln b.Known)<|share (up b.Known a true) λf=>oN (inb a<|ln c)<|oN (zhZ (ix c a zT) e)<|oN (inb a<|ln b.Slots)<|share (up b.Slots a<|zlR (ix c a zT) e) λg=>some [aT .kept (⟨f,g⟩:Kept)])<|some [aT .kept b])<|some [aT .kept b])
theorem zZt (b:Kept)(c d:List Slot)(a:Int)(j:zu4 b c d a=true):∃N,zTi N b c d a=some [aT .kept<|zu3 b c d a]:=by
 have g:=zB.1 j;refine⟨0,?_⟩;unfold zTi zu3 filled oN;conv=>zeta
 refine must (zbp<|(zxh _).2 g) (must (zbp g) ?_);rw[show zko (zd4 b) a=zfc b a from rfl];cases f:zfc b a;{rfl};{unfold zfc at f;obtain⟨e,h⟩:=zdo.1 f;rw[has_lt e (m:=ln c)];cases i:hasB a (ln c);{rfl};{simp only [cT,zd4,zy e,zy h,zy i,share,zhZ];rfl}}
theorem zT6:vF 338 ztJ:=kF4 zfU zl zn zdu (zq []) zZt
def zTg (N:Nat)(c:Kept)(d e:lS)(a:Int):OA:=
 let b:=zcP c; (oN (zdL c)<|oN (zZ a<|ln c.Known)<|cond (zbH a<|ln c.Known) (oN (zZ a<|ln c.Slots)<|cond (zbH a<|ln c.Slots) (oN (zZ a<|ln d)<|cond (zbH a<|ln d) (oN (inb a<|ln b.Known)<|share (up b.Known a true) λf=>oN (inb a<|ln d)<|oN (zhZ (ix d a zT) e)<|oN (inb a<|ln b.Slots)<|share (up b.Slots a<|zlR (ix d a zT) e) λg=>some [aT .kept (⟨f,g⟩:Kept)])<|some [aT .kept b])<|some [aT .kept b])<|some [aT .kept b])
theorem zZp (b:Kept)(c d:List Slot)(a:Int)(h:zu4 b c d a=true):∃N,zTg N b c d a=some [aT .kept<|zu3 b c d a]:=by
 have i:=zB.1 h;refine⟨0,?_⟩;unfold zTg zu3 filled zfc oN;conv=>zeta
 refine must (zbp i) ?_;simp only[zbH,zZ,zcP,cT];cases e:hasB a (ln b.Known);{rfl};{cases f:hasB a (ln b.Slots);{rfl};{cases g:hasB a (ln c);{rfl};{simp only [cT,zy e,zy f,zy g,share,zhZ];rfl}}}
theorem zT1:vF 345 ztJ:=kF4 zfU zl zn zdu (zq []) zZp
theorem zGZ {a b:Type}(p:a->Bool)(r:a->Option b)(K:Unit->Option b):∀(l:List a) (i:Nat),goL (λ_ x (_:Unit) k=>bif p x then r x else k ()) K l i ()=match l.find? p with|some x=>r x|none=>K ()
 |[],_=>rfl
 |x::l,i=>by simp only[goL];cases h:p x;{rw [List.find?_cons_of_neg (by simp[h])];exact zGZ p r K l (i+1)};{rw [List.find?_cons_of_pos h];rfl}
def zJO (b:List Entry)(t p:Int):Option Entry:=b.find? λe=>bif ieq e.Tag t then ieq e.Page p else false
@[simp] abbrev zia (b:List Entry)(t p:Int):Bool:=true
@[simp] abbrev zgH (b:List Entry)(t p:Int):Entry:=(zJO b t p).getD ⟨0,0,0,0⟩
@[simp] abbrev zfR (b:List Entry)(t p:Int):Bool:=(zJO b t p).isSome
def zmo:Run:=rF3 (dS .entry) dI dI λb c d=>(zia b c d,[aT .entry<|zgH b c d,aB<|zfR b c d])
def zzF (N:Nat)(f:lE)(g h:Int):OA:=
 (iter (σ:=(Int×Int×Int×Int×Int×Int×Int×lE×Unit)) N (λj a=>let c:=a.2.2.2.2.2.2.2.1;let d:=inb a.2.2.1<|ln c;let e:=j (a.1,a.2.1,zG .i64 a.2.2.1 1,a.2.2.2.1,a.2.2.2.2.1,a.2.2.2.2.2.1,a.2.2.2.2.2.2.1,c,());let b:=ix c a.2.2.1 zfl; (cond (ilt a.2.2.1<|ln c) (oN d<|cond (ieq b.Tag a.1) (oN d<|cond (ieq b.Page a.2.1) (oN d<|some [.agg [.i .i64 b.Tag,.i .i64 b.Page,.i .i64 b.Host,.i .i64 b.Rights],aB true]) e) e)<|some [.agg [.i .i64 0,.i .i64 0,.i .i64 0,.i .i64 0],aB false])) (g,h,0,0,0,0,0,f,()))
def zMD:=zq [(336,0,{n:=36,tm:=[(0,.sl 0 []),(1,ti),(2,ti),(6,.lp 0 0),(8,ti)],lo:=[(0,[ti,ti,ti,ti])],ro:=[(0,.entry,false)]})]
theorem zLx (a:List Entry)(c d:Int)(j:zbt big [aS .entry a,aI c,aI d])(l:zia a c d=true):∃N,zzF N a c d=some [aT .entry<|zgH a c d,aB<|zfR a c d]:=by
 have h:=len0 j;refine zbG λN g=>?_;unfold zzF oN;conv=>zeta
 refine(zW a (λi (t:Unit)=>(c,d,(i:Int),0,0,0,0,a,())) _ (λ_ (x:Entry) (_:Unit) k=>bif (cond (ieq x.Tag c) (ieq x.Page d) false) then (some [AV.agg<|Ty.cells .entry x,AV.one<|.b true]) else k ()) (λ(t:Unit)=>some [.agg [.i .i64 0,.i .i64 0,.i .i64 0,.i .i64 0],.one<|.b false]) (λi f t rec=>?_) (λt rec=>?_) _ ()<|g h).trans ?_;{simp only [zbf f,zO f,zX f,zV f h,cT];cases ieq a[i].Tag c<;>cases ieq a[i].Page d<;>rfl};{simp only [zbc,cF]};rw[zGZ λe:Entry=>bif ieq e.Tag c then ieq e.Page d else false];unfold zgH zfR zJO;cases a.find? (λe:Entry=>bif ieq e.Tag c then ieq e.Page d else false)<;>rfl
theorem zD9:vF 336 zmo:=hF3 zfU zl zn zdu zMD zLx
def zzk (N:Nat)(d:lE)(f g:Int):OA:=
 (iter (σ:=(Int×Int×Int×Int×Int×Int×Int×Int×lE×Unit)) N (λh a=>let c:=a.2.2.2.2.2.2.2.2.1;let e:=h (a.1,a.2.1,a.2.2.1,zG .i64 a.2.2.2.1 1,a.2.2.2.2.1,a.2.2.2.2.2.1,a.2.2.2.2.2.2.1,a.2.2.2.2.2.2.2.1,c,());let b:=ix c a.2.2.2.1 zfl; (cond (ilt a.2.2.2.1 a.2.2.1) (oN (inb a.2.2.2.1<|ln c)<|cond (ieq b.Tag a.1) (cond (ieq b.Page a.2.1) (some [.agg [.i .i64 b.Tag,.i .i64 b.Page,.i .i64 b.Host,.i .i64 b.Rights],aB true]) e) e)<|some [.agg [.i .i64 0,.i .i64 0,.i .i64 0,.i .i64 0],aB false])) (f,g,ln d,0,0,0,0,0,d,()))
def zMr:=zq [(343,0,{n:=29,tm:=[(1,ti),(2,ti),(6,.lp 0 0),(10,.sl 0 []),(11,ti),(12,ti)],lo:=[(0,[ti,ti,ti,ti])],ro:=[(0,.entry,false)]})]
theorem zLe (a:List Entry)(c d:Int)(j:zbt big [aS .entry a,aI c,aI d])(l:zia a c d=true):∃N,zzk N a c d=some [aT .entry<|zgH a c d,aB<|zfR a c d]:=by
 have h:=len0 j;refine zbG λN g=>?_;unfold zzk oN;conv=>zeta
 refine(zW a (λi (t:Unit)=>(c,d,ln a,(i:Int),0,0,0,0,a,())) _ (λ_ (x:Entry) (_:Unit) k=>bif (cond (ieq x.Tag c) (ieq x.Page d) false) then (some [AV.agg<|Ty.cells .entry x,AV.one<|.b true]) else k ()) (λ(t:Unit)=>some [.agg [.i .i64 0,.i .i64 0,.i .i64 0,.i .i64 0],.one<|.b false]) (λi f t rec=>?_) (λt rec=>?_) _ ()<|g h).trans ?_;{simp only [zbf f,zO f,zX f,zV f h,cT];cases ieq a[i].Tag c<;>cases ieq a[i].Page d<;>rfl};{simp only [zbc,cF]};rw[zGZ λe:Entry=>bif ieq e.Tag c then ieq e.Page d else false];unfold zgH zfR zJO;cases a.find? (λe:Entry=>bif ieq e.Tag c then ieq e.Page d else false)<;>rfl
theorem zDQ:vF 343 zmo:=hF3 zfU zl zn zdu zMr zLe
def zuP (t p:Int)(e:Entry):Bool:=bif ine e.Tag t then true else ine e.Page p
def zdZ (b:List Entry)(t p:Int):List Entry:=b.filter (zuP t p)
theorem zyv (b:List Entry)(t p:Int):(zdZ b t p).length<=b.length:=List.length_filter_le _ _
@[simp] abbrev zdI (b:List Entry)(t p:Int):Bool:=pc (b.length<=1048576)
@[simp] abbrev ze6 (b:List Entry)(t p:Int):List Entry:=zdZ b t p
def zmq:Run:=rF3 (dS .entry) dI dI λb c d=>(zdI b c d,[aS .entry<|ze6 b c d])
def zzH (N:Nat)(h:lE)(i j:Int):OA:=
 (iter (σ:=(Int×Int×Int×lE×lE×Unit)) N (λf a=>let b:=a.2.2.2.1;let c:=inb a.2.2.1<|ln b;let d:=ix b a.2.2.1 zfl;let e:=ap a.2.2.2.2.1 [d];let g:=f (a.1,a.2.1,zG .i64 a.2.2.1 1,b,e,()); (cond (ilt a.2.2.1<|ln b) (oN c<|cond (ine d.Tag a.1) (oN c<|oN (few<|ln e) g)<|oN c<|cond (ine d.Page a.2.1) (oN c<|oN (few<|ln e) g)<|f (a.1,a.2.1,zG .i64 a.2.2.1 1,b,a.2.2.2.2.1,()))<|some [aS .entry a.2.2.2.2.1])) (i,j,0,h,[],()))
def zMF:=zq [(261,0,{n:=40,tm:=[(0,.sl 0 []),(1,ti),(2,ti),(7,.sl 1 []),(8,ti)],lo:=[],ro:=[(0,.entry,false),(1,.entry,true)]})]
theorem zLz (a:List Entry)(b c:Int)(h:zdI a b c=true):∃N,zzH N a b c=some [aS .entry<|ze6 a b c]:=by
 have j:=zB.1 h;have f:=zbV j;refine zbG λN e=>?_;unfold zzH oN;conv=>zeta
 refine(zW a (λi (t:lE)=>(b,c,(i:Int),a,t,())) _ (λ_ (x:Entry) (t:List Entry) g=>bif zuP b c x then (cond (few<|ln<|ap t [x]) (g<|ap t [x]) none) else g t) (λ(t:lE)=>some [.one<|.s .entry t]) (λi d t rec=>?_) (λt rec=>?_) _ ([])<|e f.1).trans ?_;{simp only [zbf d,zO d,zX d,zV d f.1,cT];unfold zuP;cases ine a[i].Tag b<;>cases ine a[i].Page c<;>rfl};{simp only [zbc,cF]};exact znh (zuP b c) _ a 0 [] (by simpa using f.2)
theorem zEb:vF 261 zmq:=kF3 zfU zl zn zdu zMF zLz
def zzm (N:Nat)(e:lE)(h i:Int):OA:=
 (iter (σ:=(Int×Int×Int×Int×lE×lE×Unit)) N (λf a=>let b:=a.2.2.2.2.2.1;let c:=ix b a.2.1 zfl;let d:=ap a.2.2.2.2.1 [c];let g:=f (a.1,zG .i64 a.2.1 1,a.2.2.1,a.2.2.2.1,d,b,()); (cond (ilt a.2.1 a.1) (oN (inb a.2.1<|ln b)<|cond (ieq c.Tag a.2.2.1) (cond (nB<|ieq c.Page a.2.2.2.1) (oN (few<|ln d) g)<|f (a.1,zG .i64 a.2.1 1,a.2.2.1,a.2.2.2.1,a.2.2.2.2.1,b,()))<|oN (few<|ln d) g)<|some [aS .entry a.2.2.2.2.1])) (ln e,0,h,i,[],e,()))
def zMt:=zq [(156,0,{n:=25,tm:=[(1,.fn 157 [0,1]),(5,.sl 0 []),(9,.sl 1 []),(10,ti),(11,ti)],lo:=[(0,[ti]),(1,[ti])],ro:=[(0,.entry,true),(1,.entry,false)]})]
theorem zLg (a:List Entry)(b c:Int)(h:zdI a b c=true):∃N,zzm N a b c=some [aS .entry<|ze6 a b c]:=by
 have j:=zB.1 h;have f:=zbV j;refine zbG λN e=>?_;unfold zzm oN nB;conv=>zeta
 refine(zW a (λi (t:lE)=>(ln a,(i:Int),b,c,t,a,())) _ (λ_ (x:Entry) (t:List Entry) g=>bif zuP b c x then (cond (few<|ln<|ap t [x]) (g<|ap t [x]) none) else g t) (λ(t:lE)=>some [.one<|.s .entry t]) (λi d t rec=>?_) (λt rec=>?_) _ ([])<|e f.1).trans ?_;{simp only [zbf d,zO d,zX d,zV d f.1,cT];unfold zuP;simp only[zjE];cases ieq a[i].Tag b<;>cases ieq a[i].Page c<;>rfl};{simp only [zbc,cF]};exact znh (zuP b c) _ a 0 [] (by simpa using f.2)
theorem zDS:vF 66 zmq:=kF3 zfU zl zn zdu zMt zLg
def z5j:zY:=[(334,zoL),(282,zoL),(262,zr3),(67,zr3),(337,zQX),(344,zQU),(338,ztJ),(345,ztJ),(336,zmo),(343,zmo),(261,zmq),(66,zmq)]++z0W
theorem zul:zK z5j:=zf zKJ (zf zKh<|zf zRv<|zf zRk<|zf zWO<|zf zWK<|zf zT6<|zf zT1<|zf zD9<|zf zDQ<|zf zEb<|zf zDS zfU)
def zIo (b:List Entry)(e:Entry):List Entry:=bif igt (ln<|ap (zdZ b e.Tag e.Page) [e]) 6 then dp (ap (zdZ b e.Tag e.Page) [e]) (wsub .i64 (ln<|ap (zdZ b e.Tag e.Page) [e]) 6) else ap (zdZ b e.Tag e.Page) [e]
theorem zy2 {b:List Entry}(e:Entry)(h:b.length<=1048576):(zIo b e).length<=1048576/\(ap (zdZ b e.Tag e.Page) [e]).length<=1048577:=by have d:=zyv b e.Tag e.Page;have c:(ap (zdZ b e.Tag e.Page) [e]).length<=1048577:=(by simp[ap];omega);refine⟨?_,c⟩;unfold zIo;cases a:igt (ln<|ap (zdZ b e.Tag e.Page) [e]) 6;{have a:=qM a;simp only[ln]at a;simp only[cF];omega};{simp only [cT,dp,List.length_drop];have a:=qD a;have:wsub .i64 (ln<|ap (zdZ b e.Tag e.Page) [e]) 6=ln (ap (zdZ b e.Tag e.Page) [e])-6:=zt6 (by simp only[ln] at *;omega) (by simp only[ln] at *;omega);rw[this];simp only[ln] at *;omega}
@[simp] abbrev zjr (b:List Entry)(e:Entry):Bool:=pc (b.length<=1048576)
@[simp] abbrev zis (b:List Entry)(e:Entry):List Entry:=zIo b e
def znG:Run:=rF2 (dS .entry) (dT .entry) λb c=>(zjr b c,[aS .entry<|zis b c])
def zBy (N:Nat)(d:lE)(b:Entry):OA:=
 let a:=ap (ze6 d b.Tag b.Page) [b];let c:=wsub .i64 (ln a) 6; (oN (zdI d b.Tag b.Page)<|oN (few<|ln a)<|cond (igt (ln a) 6) (oN (inr c (ln a)<|ln a)<|oN (few<|ln<|ap []<|dp a c)<|some [aS .entry<|ap []<|dp a c])<|some [aS .entry a])
theorem zO3 (b:List Entry)(a:Entry)(h:zjr b a=true):∃N,zBy N b a=some [aS .entry<|zis b a]:=by
 have f:=zB.1 h;obtain⟨c,g⟩:=zy2 a f;refine⟨0,?_⟩;unfold zBy oN;conv=>zeta
 refine must (zbp f) (must (zev<|qX g (by decide:1048577<=2147483648)) ?_);unfold zis zIo at *;show _=some [AV.one<|.s .entry<|cond (igt (ln<|ap (zdZ b a.Tag a.Page) [a]) 6) (dp (ap (zdZ b a.Tag a.Page) [a])<|wsub .i64 (ln<|ap (zdZ b a.Tag a.Page) [a]) 6)<|ap (zdZ b a.Tag a.Page) [a]];cases d:igt (ln<|ap (zdZ b a.Tag a.Page) [a]) 6;{rfl};{rw [d]at c;simp only[cT]at c;have d:=qD d;have e:wsub .i64 (ln<|ap (zdZ b a.Tag a.Page) [a]) 6=ln (ap (zdZ b a.Tag a.Page) [a])-6:=zt6 (by simp only[ln] at *;omega) (by simp only[ln] at *;omega);refine must rfl (must (qL ?_)<|must ?_ ?_);{show 0<=wsub .i64 (ln<|ap (zdZ b a.Tag a.Page) [a]) 6/\wsub .i64 (ln<|ap (zdZ b a.Tag a.Page) [a]) 6<=ln (ap (zdZ b a.Tag a.Page) [a])/\ln (ap (zdZ b a.Tag a.Page) [a])<=ln (ap (zdZ b a.Tag a.Page) [a]);rw[e];simp only[ln] at *;omega};{exact zpq c};{rw [zn4];rfl}}
theorem zHJ:vF 339 znG:=kF2 zul zl zn zdu (zq []) zO3
def zA0 (N:Nat)(c:lE)(a:Entry):OA:=
 let b:=ap (ze6 c a.Tag a.Page) [a];let d:=imax 0<|wsub .i64 (ln b) 6; (oN (zdI c a.Tag a.Page)<|oN (few<|ln b)<|oN (inr d (ln b)<|ln b)<|some [aS .entry<|dp b d])
theorem zOz (b:List Entry)(a:Entry)(h:zjr b a=true):∃N,zA0 N b a=some [aS .entry<|zis b a]:=by
 have g:=zB.1 h;obtain⟨_,f⟩:=zy2 a g;refine⟨0,?_⟩;unfold zA0 zis zIo oN;conv=>zeta
 simp only[ze6];generalize ap (zdZ b a.Tag a.Page) [a]=l at f ⊢;refine must (zbp g) (must (zev<|qX f (by decide:1048577<=2147483648)) ?_);have e:wsub .i64 (ln l) 6=ln l-6:=zt6 (by simp only[ln] at *;omega) (by simp only[ln] at *;omega);rw[e];cases c:igt (ln l) 6;{have c:=qM c;have d:imax 0 (ln l-6)=0:=(by unfold imax;rw[if_neg (by omega)]);rw[d];exact must (qL (by simp only[ln];omega)) (by simp[dp])};{have c:=qD c;have d:imax 0 (ln l-6)=ln l-6:=(by unfold imax;rw[if_pos (by omega)]);rw[d];exact must (qL (by simp only[ln] at *;omega)) rfl}
theorem zHf:vF 346 znG:=kF2 zul zl zn zdu (zq []) zOz
def zyu (l:List Slot)(p:Int):Option Nat:=l.findIdx? λs=>ieq s.Page p
def zou (p:Int):List Mon->Nat->Int×Int
 |[],_=>(-1,-1)
 |m::l,i=>match zyu m.Outer p with|some k=>((i:Int),(k:Int))|none=>zou p l (i+1)
def zez (h:Host)(p:Int):Int×Int:=bif ilt p 0 then (-1,-1) else zou p h.Mons 0
theorem zQB {a:Type}(p:Slot->Bool)(r:Nat->Option a)(K:Unit->Option a):∀(l:List Slot) (i:Nat),goL (λj x (_:Unit) k=>bif p x then r j else k ()) K l i ()=match l.findIdx? p with|some k=>r (i+k)|none=>K ()
 |[],_=>rfl
 |x::l,i=>by simp only[goL];rw[List.findIdx?_cons];cases h:p x;{simp only [cF,kR,if_false];rw[zQB p r K l<|i+1];cases l.findIdx? p with|none=>rfl|some k=>simp only[Option.map_some];congr 1;omega};{rfl}
theorem zM3 {c:Type}(p:Int)(r:Int->Int->Option c):∀(l:List Mon) (i:Nat),goL (λi (x:Mon) (_:Unit) b=>goL (λj (y:Slot) (_:Unit) a=>bif ieq y.Page p then r (i:Int) (j:Int) else a ()) (λ_=>b ()) x.Outer 0 ()) (λ_=>r (-1) (-1)) l i ()=r (zou p l i).1 (zou p l i).2
 |[],_=>rfl
 |m::l,i=>by simp only[goL,zou];rw[zQB (λs=>ieq s.Page p) λj=>r (i:Int) (j:Int)];unfold zyu;cases m.Outer.findIdx? (λs=>ieq s.Page p) with|none=>exact zM3 p r l (i+1)|some k=>simp only[kB]
@[simp] abbrev zgi (h:Host)(p:Int):Bool:=true
@[simp] abbrev zdK (h:Host)(p:Int):Int:=(zez h p).1
@[simp] abbrev zeN (h:Host)(p:Int):Int:=(zez h p).2
def zkx:Run:=rF2 dH dI λb c=>(zgi b c,[aI<|zdK b c,aI<|zeN b c])
def zvf (N:Nat)(f:Host)(g:Int):OA:=
 (cond (ilt g 0) (some [aI<|-1,aI<|-1])<|iter (σ:=(Int×Int×Int×lN×Unit)) N (λi b=>let c:=b.2.2.1; (cond (ilt c b.2.1) (oN (inb c<|ln b.2.2.2.1)<|iter (σ:=(Int×Int×Int×Int×Int×Int×Int×lN×Unit)) N (λj a=>let e:=a.2.2.2.2.2.2.2.1;let h:=(ix e a.2.2.2.2.1 zh).Outer;let d:=a.2.2.2.2.2.2.1; (cond (ilt d a.2.2.2.2.2.1) (oN (inb d<|ln h)<|cond (ieq (ix h d zT).Page a.1) (some [aI a.2.1,aI d])<|j (a.1,a.2.1,a.2.2.1,a.2.2.2.1,a.2.2.2.2.1,a.2.2.2.2.2.1,zG .i64 d 1,e,()))<|i (a.1,a.2.2.1,zG .i64 a.2.2.2.1 1,e,()))) (b.1,c,b.2.1,c,c,ln (ix b.2.2.2.1 c zh).Outer,0,b.2.2.2.1,()))<|some [aI<|-1,aI<|-1])) (g,ln f.Mons,0,f.Mons,()))
def zEM:=zq [(360,0,{n:=36,tm:=[(1,ti),(13,.sl 0 []),(14,ti),(15,ti)],lo:=[],ro:=[(0,.mon,false)]}),(360,2,{n:=36,tm:=[(1,ti),(6,ti),(13,.sl 0 []),(14,ti),(15,ti),(21,.sl 0 [0]),(22,ti),(23,ti)],lo:=[],ro:=[(0,.mon,false)]})]
theorem zEq (a:Host)(c:Int)(m:zbt big [aH a,aI c])(q:zgi a c=true):∃N,zvf N a c=some [aI<|zdK a c,aI<|zeN a c]:=by
 have k:CVB big (.s .mon a.Mons):=(zbv m).1 _ (by simp[AV.cvs,zbb]);have h:=k.len;refine zbG λN e=>?_;unfold zvf zdK zeN zez oN;conv=>zeta
 cases p:ilt c 0;{simp only [cF];refine(zW a.Mons (λi (t:Unit)=>(c,ln a.Mons,(i:Int),a.Mons,())) _ (λi (x:Mon) (_:Unit) n=>goL (λj (y:Slot) (_:Unit) b=>bif ieq y.Page c then some [AV.one<|.i .i64 (i:Int),AV.one<|.i .i64 (j:Int)] else b ()) (λ_=>n ()) x.Outer 0 ()) (λ(t:Unit)=>some [.one<|.i .i64<|-1,.one<|.i .i64<|-1]) (λi d t rec=>?_) (λt rec=>?_) _ ()<|e h).trans ?_;{simp only [zbf d,zO d,zX d,zV d h,cT];have l:a.Mons[i].Outer.length<=big:=(k.inv.2 _ (jA d) (.s .slot _) (by simp[Ty.cells])).len;refine(zW a.Mons[i].Outer (λj (u:Unit)=>(c,(i:Int),ln a.Mons,(i:Int),(i:Int),ln a.Mons[i].Outer,(j:Int),a.Mons,())) _ (λj (y:Slot) (_:Unit) b=>bif ieq y.Page c then some [AV.one<|.i .i64 (i:Int),AV.one<|.i .i64 (j:Int)] else b ()) (λ(u:Unit)=>rec (c,ln a.Mons,((i+1:Nat):Int),a.Mons,())) (λj g u f=>?_) (λu f=>?_) _ ()<|e l).trans ?_;{simp only [zbf g,zO g,zX g,zV g l,cT,zO d,zX d,zV d h]};{simp only [zbc,cF,zO d,zX d,zV d h]};rfl};{simp only [zbc,cF]};exact zM3 c (λi j=>some [AV.one<|.i .i64 i,AV.one<|.i .i64 j]) a.Mons 0};{rfl}
theorem zAu:vF 360 zkx:=hF2 zul zl zn zdu zEM zEq
theorem z1h {a c b:Type}(r:Option b):∀(l:List a) (i:Nat) (t:c),goL (λ_ _ _ _=>r) (λ_=>r) l i t=r
 |[],_,_=>rfl
 |_::_,_,_=>rfl
def zvr (N:Nat)(d:Host)(f:Int):OA:=
 (iter (σ:=(Int×Int×lM×lN×lE×lE×Unit)) N (λg b=>cond (ilt b.2.1<|ln b.2.2.2.1) (cond (ige b.1 0) (iter (σ:=(Int×Int×Int×lM×lN×lE×lE×Unit)) N (λh a=>let c:=a.2.2.2.2.1;let e:=(ix c a.2.1 zh).Outer; (oN (inb a.2.1<|ln c)<|cond (ilt a.2.2.1<|ln e) (oN (inb a.2.1<|ln c)<|oN (inb a.2.2.1<|ln e)<|cond (ieq (ix e a.2.2.1 zT).Page a.1) (some [aI a.2.1,aI a.2.2.1])<|h (a.1,a.2.1,zG .i64 a.2.2.1 1,a.2.2.2.1,c,a.2.2.2.2.2.1,a.2.2.2.2.2.2.1,()))<|g (a.1,zG .i64 a.2.1 1,a.2.2.2.1,c,a.2.2.2.2.2.1,a.2.2.2.2.2.2.1,()))) (b.1,b.2.1,0,b.2.2.1,b.2.2.2.1,b.2.2.2.2.1,b.2.2.2.2.2.1,()))<|some [aI<|-1,aI<|-1])<|some [aI<|-1,aI<|-1]) (f,0,d.Memory,d.Mons,d.Buffer,d.IoBuffer,()))
def zEO:=zq [(364,0,{n:=44,tm:=[(1,ti),(2,.lp 0 0),(6,ti)],lo:=[(0,[.sl 0 [],.sl 1 [],.sl 2 [],.sl 3 []])],ro:=[(0,.sl .int,false),(1,.mon,false),(2,.entry,false),(3,.entry,false)]}),(364,2,{n:=44,tm:=[(1,ti),(2,.lp 0 0),(6,ti),(7,ti)],lo:=[(0,[.sl 0 [],.sl 1 [],.sl 2 [],.sl 3 []])],ro:=[(0,.sl .int,false),(1,.mon,false),(2,.entry,false),(3,.entry,false)]})]
theorem zEB (a:Host)(b:Int)(p:zbt big [aH a,aI b])(r:zgi a b=true):∃N,zvr N a b=some [aI<|zdK a b,aI<|zeN a b]:=by
 have m:CVB big (.s .mon a.Mons):=(zbv p).1 _ (by simp[AV.cvs,zbb]);have l:=m.len;refine zbG λN e=>?_;unfold zvr zdK zeN zez oN;conv=>zeta
 refine(zW a.Mons (λi (t:Unit)=>(b,(i:Int),a.Memory,a.Mons,a.Buffer,a.IoBuffer,())) _ (λi (x:Mon) (_:Unit) q=>bif ige b 0 then goL (λj (y:Slot) (_:Unit) c=>bif ieq y.Page b then some [AV.one<|.i .i64 (i:Int),AV.one<|.i .i64 (j:Int)] else c ()) (λ_=>q ()) x.Outer 0 () else some [AV.one<|.i .i64<|-1,AV.one<|.i .i64<|-1]) (λ(t:Unit)=>some [.one<|.i .i64<|-1,.one<|.i .i64<|-1]) (λi d t rec=>?_) (λt rec=>?_) _ ()<|e l).trans ?_;{simp only [zbf d,zO d,zX d,zV d l,cT];cases h:ige b 0;{rfl};have n:a.Mons[i].Outer.length<=big:=(m.inv.2 _ (jA d) (.s .slot _) (by simp[Ty.cells])).len;simp only[cT];refine(zW a.Mons[i].Outer (λj (_:Unit)=>(b,(i:Int),(j:Int),a.Memory,a.Mons,a.Buffer,a.IoBuffer,())) _ (λj (y:Slot) (_:Unit) c=>bif ieq y.Page b then some [AV.one<|.i .i64 (i:Int),AV.one<|.i .i64 (j:Int)] else c ()) (λ_=>rec (b,((i+1:Nat):Int),a.Memory,a.Mons,a.Buffer,a.IoBuffer,())) (λj g u f=>?_) (λu f=>?_) _ ()<|e n).trans ?_;{simp only [zbf g,zO g,zX g,zV g n,cT,zO d,zX d]};{simp only [zbc,cF,cT,zO d,zX d,zV d l]};rfl};{simp only [zbc,cF]};cases h:ige b 0;{have k:ilt b 0=true:=(by have:=qM h;exact qL (by omega));rw[k];exact z1h _ _ _ _};{have k:ilt b 0=false:=(by have:=qD h;exact qI (by omega));rw[k];exact zM3 b (λi j=>some [AV.one<|.i .i64 i,AV.one<|.i .i64 j]) a.Mons 0}
theorem zAF:vF 364 zkx:=hF2 zul zl zn zdu zEO zEB
def z5k:zY:=[(339,znG),(346,znG),(364,zkx),(360,zkx)]++z5j
theorem zum:zK z5k:=zf zHJ (zf zHf<|zf zAF<|zf zAu zul)
def zdl (h:Host):List Int:=zHV (λi=>ilt (zez h (i:Int)).1 0) h.Memory.length 0
@[simp] abbrev zgp (h:Host):Bool:=pc (h.Memory.length<=1048576)
@[simp] abbrev zcX (h:Host):List Int:=zdl h
def zqi:Run:=rF1 dH λb=>(zgp b,[aS .int<|zcX b])
def zJa (N:Nat)(b:Host):OA:=
 (iter (σ:=(Int×(List Int)×lM×lN×lE×lE×Unit)) N (λc a=>let d:=(⟨a.2.2.1,a.2.2.2.1,a.2.2.2.2.1,a.2.2.2.2.2.1⟩:Host); (cond (ilt a.1<|ln a.2.2.1) (oN (zgi d a.1)<|cond (ilt (zdK d a.1) 0) (oN (few<|ln<|ap a.2.1 [a.1])<|c (zG .i64 a.1 1,ap a.2.1 [a.1],a.2.2.1,a.2.2.2.1,a.2.2.2.2.1,a.2.2.2.2.2.1,()))<|c (zG .i64 a.1 1,a.2.1,a.2.2.1,a.2.2.2.1,a.2.2.2.2.1,a.2.2.2.2.2.1,()))<|some [aS .int a.2.1])) (0,[],b.Memory,b.Mons,b.Buffer,b.IoBuffer,()))
def zWa:=zq [(363,0,{n:=28,tm:=[(1,.lp 0 0),(3,.sl 0 []),(4,ti)],lo:=[(0,[.sl 1 [],.sl 2 [],.sl 3 [],.sl 4 []])],ro:=[(0,.int,true),(1,.sl .int,false),(2,.mon,false),(3,.entry,false),(4,.entry,false)]})]
theorem zUI (a:Host)(f:zgp a=true):∃N,zJa N a=some [aS .int<|zcX a]:=by
 have g:=zB.1 f;have e:=zbV g;refine zbG λN d=>?_;unfold zJa oN;conv=>zeta
 refine(zW a.Memory (λi (t:(List Int))=>((i:Int),t,a.Memory,a.Mons,a.Buffer,a.IoBuffer,())) _ (λi (_:List Int) (t:List Int) b=>bif ilt (zez a (i:Int)).1 0 then (cond (few<|ln<|ap t [(i:Int)]) (b<|ap t [(i:Int)]) none) else b t) (λ(t:(List Int))=>some [.one<|.s .int t]) (λi c t rec=>?_) (λt rec=>?_) _ ([])<|d e.1).trans ?_;{simp only [zbf c,zO c,zX c,zV c e.1,cT]};{simp only [zbc,cF]};rw[zxm λi (t:List Int) b=>bif ilt (zez a (i:Int)).1 0 then (cond (few<|ln<|ap t [(i:Int)]) (b<|ap t [(i:Int)]) none) else b t];exact zyC (λi=>ilt (zez a (i:Int)).1 0) _ _ 0 [] (by simpa using e.2)
theorem zNM:vF 363 zqi:=kF1 zum zl zn zdu zWa zUI
def zIN (N:Nat)(b:Host):OA:=
 (iter (σ:=(Int×Int×(List Int)×lM×lN×lE×lE×Unit)) N (λd a=>let c:=a.2.2.2.2.2.2.1;let e:=(⟨a.2.2.2.1,a.2.2.2.2.1,a.2.2.2.2.2.1,c⟩:Host); (cond (ilt a.2.1 a.1) (oN (zgi e a.2.1)<|cond (ilt (zdK e a.2.1) 0) (oN (few<|ln<|ap a.2.2.1 [a.2.1])<|d (a.1,zG .i64 a.2.1 1,ap a.2.2.1 [a.2.1],a.2.2.2.1,a.2.2.2.2.1,a.2.2.2.2.2.1,c,()))<|d (a.1,zG .i64 a.2.1 1,a.2.2.1,a.2.2.2.1,a.2.2.2.2.1,a.2.2.2.2.2.1,c,()))<|some [aS .int a.2.2.1])) (ln b.Memory,0,[],b.Memory,b.Mons,b.Buffer,b.IoBuffer,()))
def zVZ:=zq [(324,0,{n:=28,tm:=[(1,.lp 0 0),(3,.sl 0 []),(10,ti),(11,ti)],lo:=[(0,[.sl 1 [],.sl 2 [],.sl 3 [],.sl 4 []])],ro:=[(0,.int,true),(1,.sl .int,false),(2,.mon,false),(3,.entry,false),(4,.entry,false)]})]
theorem zUm (a:Host)(f:zgp a=true):∃N,zIN N a=some [aS .int<|zcX a]:=by
 have g:=zB.1 f;have e:=zbV g;refine zbG λN d=>?_;unfold zIN oN;conv=>zeta
 refine(zW a.Memory (λi (t:(List Int))=>(ln a.Memory,(i:Int),t,a.Memory,a.Mons,a.Buffer,a.IoBuffer,())) _ (λi (_:List Int) (t:List Int) b=>bif ilt (zez a (i:Int)).1 0 then (cond (few<|ln<|ap t [(i:Int)]) (b<|ap t [(i:Int)]) none) else b t) (λ(t:(List Int))=>some [.one<|.s .int t]) (λi c t rec=>?_) (λt rec=>?_) _ ([])<|d e.1).trans ?_;{simp only [zbf c,zO c,zX c,zV c e.1,cT]};{simp only [zbc,cF]};rw[zxm λi (t:List Int) b=>bif ilt (zez a (i:Int)).1 0 then (cond (few<|ln<|ap t [(i:Int)]) (b<|ap t [(i:Int)]) none) else b t];exact zyC (λi=>ilt (zez a (i:Int)).1 0) _ _ 0 [] (by simpa using e.2)
theorem zNi:vF 324 zqi:=kF1 zum zl zn zdu zVZ zUm
def zm4 (m:List (List Int))(p:Int)(c:List Int):List (List Int):=bif hasB p (ln m) then (cond (zdB c) (up m p c) m) else m
@[simp] abbrev zgr (m:List (List Int))(p:Int)(c:List Int):Bool:=pc (SmM m/\c.length<=1048576)
@[simp] abbrev zfj (m:List (List Int))(p:Int)(c:List Int):List (List Int):=zm4 m p c
def znL:Run:=rF3 (dS<|.sl .int) dI (dS .int) λb c d=>(zgr b c d,[aS (.sl .int)<|zfj b c d])
def zBC (N:Nat)(a:lM)(b:Int)(c:List Int):OA:=
 (oN (zht a)<|oN (zD b 0<|wsub .i64 (ln a) 1)<|cond (zk b 0<|wsub .i64 (ln a) 1) (oN (zdN c)<|cond (zc9 c) (oN (few<|ln<|ap [] c)<|oN (inb b<|ln<|zfx a)<|share (up (zfx a) b<|ap [] c) λd=>some [aS (.sl .int) d])<|some [aS (.sl .int)<|zfx a])<|some [aS (.sl .int)<|zfx a])
theorem zO7 (b:List (List Int))(a:Int)(c:List Int)(g:zgr b a c=true):∃N,zBC N b a c=some [aS (.sl .int)<|zfj b a c]:=by obtain⟨e,d⟩:=zB.1 g;refine⟨0,?_⟩;unfold zBC zfj zm4 oN;refine must (zbp<|(zq4 _).2 e) (must rfl ?_);rw[show zk a 0 (wsub .i64 (ln b) 1)=hasB a (ln b) from zrv e.1 a];cases f:hasB a (ln b);{rfl};{simp only [cT,zdN,zc9];cases h:zdB c;{rfl};{refine must rfl (must (zpq d)<|must (zy f) ?_);rw[zn4];rfl}}
theorem zHO:vF 365 znL:=kF3 zum zl zn zdu (zq []) zO7
def zA4 (N:Nat)(a:lM)(b:Int)(c:List Int):OA:=
 (oN (zg8 a)<|oN (zZ b<|ln a)<|cond (zbH b<|ln a) (oN (zdN c)<|cond (zc9 c) (oN (zd9 c)<|oN (inb b<|ln<|zd2 a)<|share (up (zd2 a) b<|zd5 c) λd=>some [aS (.sl .int) d])<|some [aS (.sl .int)<|zd2 a])<|some [aS (.sl .int)<|zd2 a])
theorem zOD (a:List (List Int))(b:Int)(c:List Int)(f:zgr a b c=true):∃N,zA4 N a b c=some [aS (.sl .int)<|zfj a b c]:=by obtain⟨g,d⟩:=zB.1 f;refine⟨0,?_⟩;unfold zA4 zfj zm4 oN;refine must (zbp g) (must rfl ?_);rw[show zbH b (ln a)=hasB b (ln a) from rfl];cases e:hasB b (ln a);{rfl};{simp only [cT,zdN,zc9];cases h:zdB c;{rfl};{refine must rfl (must (zbp<|qX d (by decide)) (must (zy e) rfl))}}
theorem zHl:vF 326 znL:=kF3 zum zl zn zdu (zq []) zOD
def zrJ:zY:=[(363,zqi),(324,zqi),(365,znL),(326,znL)]++z5k
theorem zi3:zK zrJ:=zf zNM (zf zNi<|zf zHO<|zf zHl zum)
abbrev mZ:Mon:=Ty.dflt .mon
abbrev sZ:Slot:=Ty.dflt .slot
def ShM (x:Mon):Prop:=x.Outer.length=8/\x.Out.length=8/\x.Dirty.length=8/\x.Tables.length=x.Guests.length
def Shape (h:Host):Prop:=SmH h/\∀x∈h.Mons,ShM x
theorem zkp {h:Host}{m:Int}{x:Mon}(a:Shape h)(c:zft x)(d:ShM x):Shape {h with Mons:=up h.Mons m x}:=by refine⟨⟨a.1.1,zj7 a.1.2.1 c,a.1.2.2⟩,λy b=>?_⟩;rcases jU b with b|rfl;{exact a.2 y b};{exact d}
theorem zcr {h:Host}(b:Shape h){m:Int}(a:hasB m (ln h.Mons)=true):zft (ix h.Mons m mZ)/\ShM (ix h.Mons m mZ):=⟨b.1.2.1.2 _<|zbz a _,b.2 _<|zbz a _⟩
theorem zQZ {h:Host}{b:List (List Int)}(a:Shape h)(c:SmM b):Shape {h with Memory:=b}:=⟨⟨c,a.1.2⟩,a.2⟩
theorem zta {h:Host}{m p:Int}{s:Slot}(e:hasB m (ln h.Mons)=true)(b:Shape h):Shape (zeQ h m p s):=by refine⟨zGu e b.1,?_⟩;obtain⟨_,a⟩:=zcr b e;have d:∀y∈up h.Mons m {zkr (ix h.Mons m mZ) p (ix h.Mons m mZ).Tables.length with Outer:=up (ix h.Mons m mZ).Outer p s},ShM y:=(by intro y c;rcases jU c with c|rfl;{exact b.2 y c};{exact⟨by simpa using a.1,a.2.1,a.2.2.1,by simpa [zkr,zpk] using a.2.2.2⟩});unfold zeQ;cases ine (ix (ix h.Mons m mZ).Outer p sZ).Page (-1)<;>exact d
theorem zhE (h:Host)(m p:Int)(s:Slot):(zeQ h m p s).Mons=up h.Mons m {zkr (ix h.Mons m mZ) p (ix h.Mons m mZ).Tables.length with Outer:=up (ix h.Mons m mZ).Outer p s}/\(zeQ h m p s).Memory=h.Memory:=by unfold zeQ;cases ine (ix (ix h.Mons m mZ).Outer p sZ).Page (-1)<;>exact⟨rfl,rfl⟩
theorem zfm {h:Host}{m k:Int}{x:Mon}(a:hasB m (ln h.Mons)=true):hasB m (ln<|up h.Mons k x)=true:=by simpa [ln] using a
theorem zFY {h:Host}{m k p:Int}{s:Slot}(a:hasB m (ln h.Mons)=true):hasB m (ln (zeQ h k p s).Mons)=true:=by rw[(zhE h k p s).1];exact zfm a
theorem zdX {b:Type}{l:List b}{p:Int}(h:l.length=8)(a:hasB p 8=true):hasB p (ln l)=true:=by rw[ln,h];exact a
def zyN (h:Host)(m p:Int)(s:Slot):Host :=
 bif ine s.Page (-1) then ⟨h.Memory,up h.Mons m<|zkr (ix h.Mons m mZ) p (ix h.Mons m mZ).Guests.length,flushed h.Buffer s.Page,flushed h.IoBuffer s.Page⟩
 else ⟨h.Memory,up h.Mons m<|zkr (ix h.Mons m mZ) p (ix h.Mons m mZ).Guests.length,h.Buffer,h.IoBuffer⟩
theorem zy6 {h:Host}{k:Nat}{p:Int}{s:Slot}(a:k<h.Mons.length)(b:(ix h.Mons (k:Int) mZ).Tables.length=(ix h.Mons (k:Int) mZ).Guests.length) :
 zyN {h with Mons:=up h.Mons (k:Int) {ix h.Mons (k:Int) mZ with Outer:=up (ix h.Mons (k:Int) mZ).Outer p s}} (k:Int) p (ix (ix h.Mons (k:Int) mZ).Outer p sZ)=zeQ h (k:Int) p s:=by
 unfold zeQ zyN;simp only[zdE a,zqV,zkr,b]
def zZj {a:Type}(m p:Int)(i:Nat)(t:List Mon)(b:List Mon->Option a):Option a :=
 (cond (inb (i:Int)<|ln (ix t m mZ).Tables) (cond (inb (i:Int)<|ln (ix t m mZ).Guests) (cond (pc<|SmK (ix (ix t m mZ).Tables (i:Int) zdC)/\(ix (ix t m mZ).Guests (i:Int) zu).Live.length<=1048576) (cond (inb (i:Int)<|ln (ix t m mZ).Tables) (b<|up t m ({ (ix t m mZ) with Tables:=(up (ix t m mZ).Tables (i:Int)<|ztp (ix (ix t m mZ).Tables (i:Int) zdC) (ix (ix t m mZ).Guests (i:Int) zu).Live p)}:Mon)) none) none) none) none)
theorem zX7 {j:Type}{mons:List Mon}{k:Nat}(d:k<mons.length)(p:Int)(c:zft (ix mons (k:Int) mZ))(f:(ix mons (k:Int) mZ).Tables.length=(ix mons (k:Int) mZ).Guests.length)(K:List Mon->Option j) :
 ∀(n i:Nat),i+n=(ix mons (k:Int) mZ).Guests.length->goN (λi t g=>zZj (k:Int) p i t g) K n i (up mons (k:Int)<|zkr (ix mons (k:Int) mZ) p i)=K (up mons (k:Int)<|zkr (ix mons (k:Int) mZ) p (ix mons (k:Int) mZ).Guests.length)
 | 0,i,h=>by have:i=(ix mons (k:Int) mZ).Guests.length:=(by omega);subst this;rfl
 |n+1,i,h=>by
  have b:i<(ix mons (k:Int) mZ).Guests.length:=(by omega);have a:i<(zrr (ix mons (k:Int) mZ).Guests p i (ix mons (k:Int) mZ).Tables).length:=by rw[zpk];omega
  have e:pc (SmK (ix (zrr (ix mons (k:Int) mZ).Guests p i (ix mons (k:Int) mZ).Tables) (i:Int) zdC)/\(ix (ix mons (k:Int) mZ).Guests (i:Int) zu).Live.length<=1048576)=true :=
   zbp ⟨by rw[zX a];exact(zsH _ _ _ _ (by omega) c.2.2.2.2.2).2 _ (jA a),by rw[zX b];exact(c.2.2.2.1.2 _<|jA b).2.2.1⟩
  simp only[goN,zZj,zdE d,zqV,zkr,zO a,zO b,e,cT];exact zX7 d p c f K n (i+1) (by omega)
@[simp] abbrev zfa (h:Host)(m p:Int)(s:Slot):Bool:=pc (Shape h/\hasB m (ln h.Mons)=true)
@[simp] abbrev zfb (h:Host)(m p:Int)(s:Slot):Host:=zyN h m p s
def znX:List CV->List AV->Option (Bool×List CV×List AV)
 |[.s (.sl .int) b,.s .mon c,.s .entry d,.s .entry e],[.one<|.i .i64 f,.one<|.i .i64 g,.agg [.i .i64 h,.i .i64 j]]=>some (zfa (⟨b,c,d,e⟩:Host) f g (⟨h,j⟩:Slot),zbb<|zfb (⟨b,c,d,e⟩:Host) f g (⟨h,j⟩:Slot),[])
 |_,_=>none
def zq0 (N:Nat)(c:Host)(i n:Int)(k:Slot):OA:=
 (oN (inb i<|ln c.Mons)<|iter (σ:=(Int×Int×Int×Int×Int×Int×lN×lM×lE×lE×Unit)) N (λp a=>let j:=a.2.2.2.2.2.2.2.1;let h:=a.2.2.2.2.2.2.1;let e:=a.2.2.2.2.1;let g:=a.2.2.2.2.2.2.2.2.1;let f:=a.2.2.2.2.2.2.2.2.2.1;let b:=a.2.2.2.1;let d:=ix h a.2.1 zh;let m:=ix d.Tables b zdC;let l:=(ix d.Guests b zu).Live; (cond (ilt b a.2.2.1) (oN (inb b<|ln d.Tables)<|oN (inb b<|ln d.Guests)<|oN (zf0 m l a.1)<|oN (inb b<|ln d.Tables)<|share (up h a.2.1 ({d with Tables:=(up d.Tables b<|zkV m l a.1)}:Mon)) λq=>p (a.1,a.2.1,a.2.2.1,zG .i64 b 1,e,a.2.2.2.2.2.1,q,j,g,f,()))<|cond (ine e<|-1) (oN (zc8 g e)<|oN (zc8 f e)<|some [aH (⟨j,h,zfF g e,zfF f e⟩:Host)])<|some [aH (⟨j,h,g,f⟩:Host)])) (n,i,ln (ix c.Mons i zh).Guests,0,k.Page,k.Rights,c.Mons,c.Memory,c.Buffer,c.IoBuffer,()))
def zID:=zq [(246,0,{n:=71,tm:=[(0,.lp 0 0),(2,ti),(7,.lp 1 0),(8,.ep 0 [] 0),(20,ti),(21,ti)],lo:=[(0,[.sl 1 [],.sl 0 [],.sl 2 [],.sl 3 []]),(1,[ti,ti])],ro:=[(0,.mon,true),(1,.sl .int,true),(2,.entry,true),(3,.entry,true)]})]
theorem zLM (N:Nat)(c:Host)(a b:Int)(d:Slot):zrL (cQ zrJ znW zyZ zVV) zID N 12 246 [true,true,true,true] (zbb c) [aI a,aI b,aT .slot d]=zq0 N c a b d:=by kernel_rfl
theorem zH6 (c:Host)(d b:Int)(a:Slot)(s:zbt big (.agg (zbb c)::[aI d,aI b,aT .slot a]))(r:zfa c d b a=true):∃N,zq0 N c d b a=some (.agg (zbb<|zfb c d b a)::[]):=by
 obtain⟨h,g⟩:=zB.1 r;obtain⟨l,q⟩:=zcr h g;have hg:(ix c.Mons d mZ).Guests.length<=big:=(zbV l.2.2.2.1.1).1;refine zbG λN f=>?_;unfold zq0 oN;conv=>zeta
 refine must (zy g) ?_;refine(zW ((ix c.Mons d zh).Guests) (λi (t:lN)=>(b,d,ln (ix c.Mons d zh).Guests,(i:Int),a.Page,a.Rights,t,c.Memory,c.Buffer,c.IoBuffer,())) _ (λi (x:Guest) (t:List Mon) j=>zZj d b i t j) (λ(t:lN)=>cond (ine a.Page<|-1) (cond (zc8 c.Buffer a.Page) (cond (zc8 c.IoBuffer a.Page) (some [.agg<|zbb (⟨c.Memory,t,zfF c.Buffer a.Page,zfF c.IoBuffer a.Page⟩:Host)]) none) none)<|some [.agg<|zbb (⟨c.Memory,t,c.Buffer,c.IoBuffer⟩:Host)]) (λi e t rec=>?_) (λt rec=>?_) _ (c.Mons)<|f hg).trans ?_;{simp only [zbf e,zO e,zX e,zV e hg,cT];rfl};{simp only [zbc,cF]};obtain⟨k,rfl,m⟩:=zd8 (n:=c.Mons.length) g;rw[zxm λi t j=>zZj (k:Int) b i t j];have p:c.Mons=up c.Mons (k:Int) (zkr (ix c.Mons (k:Int) mZ) b 0):=(zDM m _).symm;refine(congrArg _ p).trans ((zX7 m b l q.2.2.2 _ _ 0<|kB _).trans ?_);show (cond (ine a.Page<|-1) _ _)=some [AV.agg<|zbb<|zyN c (k:Int) b a];unfold zyN;cases ine a.Page (-1);{rfl};{exact must rfl (must (zbp h.1.2.2.1) (must (zbp h.1.2.2.2) rfl))}
theorem zCl:zdA Tryz.prog 246 [true,true,true,true] znX:=by refine ziR (zhW zi3 zl zn zdu) (zij (by kernel_rfl)) ?_;intro g a b j i f h;have d:=zmy f;unfold znX at h;split at h;{obtain⟨e,rfl,rfl⟩:=zon h;obtain⟨N,c⟩:=zH6 _ _ _ _ (by exact d) e;exact⟨rfl,_,N,12,(zLM N _ _ _ _ ).trans c⟩};{cases h}
def zZF:zdR:=[(246,[true,true,true,true],znX)]++zyZ
theorem zPj:zcI zZF:=zeI zn (by
 intro x a;simp only[qH,qY,or_false]at a;rcases a with rfl
 .exact zCl)
def zhg (h:Host)(m p:Int):Host:={h with Mons:=up h.Mons m {ix h.Mons m mZ with Out:=up (ix h.Mons m mZ).Out p (zkQ h.Memory (ix (ix h.Mons m mZ).Outer p sZ).Page)}}
def zg5 (h:Host)(m p:Int):Host:=zeQ (zhg h m p) m p noSlot
theorem zVN {m:List (List Int)}{p:Int}(h:SmM m):(zkQ m p).length<=1048576:=by unfold zkQ;cases a:hasB p (ln m);{exact(by decide:zzh.length<=1048576)};{exact h.2 _ (zbz a _)}
theorem zwO {h:Host}{m p:Int}(c:Shape h)(d:hasB m (ln h.Mons)=true):Shape (zhg h m p):=by obtain⟨a,b⟩:=zcr c d;exact zkp c ⟨a.1,zMf a.2.1<|zVN c.1.1,a.2.2⟩ ⟨b.1,by simpa using b.2.1,b.2.2⟩
theorem zL9 {h:Host}{m p:Int}(b:Shape h)(a:hasB m (ln h.Mons)=true):Shape (zg5 h m p):=zta (zfm a) (zwO b a)
@[simp] abbrev zj4 (h:Host)(m p:Int):Bool:=pc (Shape h/\hasB m (ln h.Mons)=true/\hasB p 8=true)
@[simp] abbrev zm1 (h:Host)(m p:Int):Host:=zg5 h m p
def zuY:List AV->Option (Bool×List AV)
 |[.agg [.s (.sl .int) b,.s .mon c,.s .entry d,.s .entry e],.one<|.i .i64 f,.one<|.i .i64 g]=>some (zj4 (⟨b,c,d,e⟩:Host) f g,[aH<|zm1 (⟨b,c,d,e⟩:Host) f g])
 |_=>none
def zyb (N:Nat)(a:Host)(b c:Int):OA:=
 let d:=ix a.Mons b zh;let e:=(ix d.Outer c zT).Page; (oN (inb b<|ln a.Mons)<|oN (inb b<|ln a.Mons)<|oN (inb c<|ln d.Outer)<|oN (zir a.Memory e)<|oN (inb c<|ln d.Out)<|share (up a.Mons b ({d with Out:=(up d.Out c<|zkk a.Memory e)}:Mon)) (λg=>let f:=({a with Mons:=g}:Host); (oN zbE<|oN (zgc f b c zbj)<|some [aH<|ziI f b c zbj])))
theorem zXd (N:Nat)(a:Host)(b c:Int):zDr (cQ zrJ znW zZF zVV) (zq []) N 12 329 [true,true,true,true,false,false] 1 1 [[0],[1],[2],[4],[7]] .mon [aH a,aI b,aI c]=zyb N a b c:=by kernel_rfl
theorem zUY (b:Host)(d c:Int)(m:zbt big [aH b,aI d,aI c])(j:zj4 b d c=true):∃N,zyb N b d c=some [aH<|zm1 b d c]:=by
 obtain⟨g,a,f⟩:=zB.1 j;obtain⟨l,e⟩:=zcr g a;obtain⟨k,rfl,h⟩:=zd8 (n:=b.Mons.length) a;have i:=zwO (p:=c) g a;refine⟨0,?_⟩;unfold zyb oN;conv=>zeta
 refine must (zy a) (must (zy a)<|must (zy<|zdX e.1 f)<|must (zbp<|(zq4 _).2 g.1.1)<|must (zy<|zdX e.2.1 f)<|shr (must rfl (must (zbp ⟨(zJ _).2 i.1,zfm a,?_,?_⟩) rfl)));{simp only [zdE h];exact zdX e.1 f};{simp only [zdE h];exact k9 e.2.2.2}
theorem zN9:zeK Tryz.prog 329 [true,true,true,true,false,false] (some (1,1,[[0],[1],[2],[4],[7]])) zuY:=by refine znj (kt:=.mon) (zhW zi3 zl zPj zdu) (zij (by kernel_rfl)) (by kernel_rfl) ?_;intro a g f e h;have c:=zkC e;unfold zuY at h;split at h;{obtain⟨d,rfl⟩:=zds h;obtain⟨N,b⟩:=zUY _ _ _ (by exact c) d;exact⟨⟨_,rfl⟩,rfl,_,N,12,(zXd N _ _ _ ).trans b⟩};{cases h}
def zwM:List CV->List AV->Option (Bool×List CV×List AV)
 |[.s (.sl .int) b,.s .mon c,.s .entry d,.s .entry e],[.one<|.i .i64 f,.one<|.i .i64 g]=>some (zj4 (⟨b,c,d,e⟩:Host) f g,zbb<|zm1 (⟨b,c,d,e⟩:Host) f g,[])
 |_,_=>none
def zGE (N:Nat)(c:Host)(b a:Int):OA:=
 let d:=ix c.Mons b zh;let e:=ix d.Outer a zT; (oN (inb b<|ln c.Mons)<|oN (inb a<|ln d.Outer)<|oN (zir c.Memory e.Page)<|oN (inb a<|ln d.Out)<|share (up c.Mons b ({d with Out:=(up d.Out a<|zkk c.Memory e.Page)}:Mon)) (λg=>let f:=ix g b zh; (oN zbE<|oN (inb a<|ln f.Outer)<|share (up g b ({f with Outer:=(up f.Outer a zbj)}:Mon)) (λi=>let h:=({c with Mons:=i}:Host); (oN (zfa h b a e)<|some [aH<|zfb h b a e])))))
theorem z1F (N:Nat)(c:Host)(a b:Int):zrL (cQ zrJ znW zZF zVV) (zq []) N 12 244 [true,true,true,true] (zbb c) [aI a,aI b]=zGE N c a b:=by kernel_rfl
theorem zZr (c:Host)(e a:Int)(w:zbt big (.agg (zbb c)::[aI e,aI a]))(u:zj4 c e a=true):∃N,zGE N c e a=some (.agg (zbb<|zm1 c e a)::[]):=by
 obtain⟨l,b,j⟩:=zB.1 u;obtain⟨v,f⟩:=zcr l b;obtain⟨k,rfl,h⟩:=zd8 (n:=c.Mons.length) b;have m:=zwO (p:=a) l b;have d:hasB (k:Int) (ln (zhg c (k:Int) a).Mons)=true:=zfm b;have i:k<(zhg c (k:Int) a).Mons.length:=(by simpa [zhg] using h);have g:ix (zhg c (k:Int) a).Mons (k:Int) mZ={ix c.Mons (k:Int) mZ with Out:=up (ix c.Mons (k:Int) mZ).Out a (zkQ c.Memory (ix (ix c.Mons (k:Int) mZ).Outer a sZ).Page)}:=zdE h _ _;have t:Shape {zhg c (k:Int) a with Mons:=up (zhg c (k:Int) a).Mons (k:Int) {ix (zhg c (k:Int) a).Mons (k:Int) mZ with Outer:=up (ix (zhg c (k:Int) a).Mons (k:Int) mZ).Outer a noSlot}}:=(by obtain⟨q,r⟩:=zcr m d;exact zkp m ⟨by simpa using q.1,q.2⟩ ⟨by simpa using r.1,r.2⟩);refine⟨0,?_⟩;unfold zGE oN;conv=>zeta
 refine must (zy b) (must (zy<|zdX f.1 j)<|must (zbp<|(zq4 _).2 l.1.1)<|must (zy<|zdX f.2.1 j)<|shr (must rfl (must ?_<|shr<|must (zbp ⟨t,zfm d⟩) ?_)));{rw [zdE h];exact zy (zdX f.1 j)};{have:=zy6 (p:=a) (s:=noSlot) i (by rw[g];exact f.2.2.2);rw[g] at this;show some [AV.agg<|zbb<|zyN {zhg c (k:Int) a with Mons:=up (zhg c (k:Int) a).Mons (k:Int) {ix (zhg c (k:Int) a).Mons (k:Int) mZ with Outer:=up (ix (zhg c (k:Int) a).Mons (k:Int) mZ).Outer a noSlot}} (k:Int) a<|ix (ix c.Mons (k:Int) mZ).Outer a sZ]=_;rw[g];exact congrArg (λx=>some [AV.agg<|zbb x]) this}
theorem zT4:zdA Tryz.prog 244 [true,true,true,true] zwM:=by refine ziR (zhW zi3 zl zPj zdu) (zij (by kernel_rfl)) ?_;intro g a b j i f h;have d:=zmy f;unfold zwM at h;split at h;{obtain⟨e,rfl,rfl⟩:=zon h;obtain⟨N,c⟩:=zZr _ _ _ (by exact d) e;exact⟨rfl,_,N,12,(z1F N _ _ _ ).trans c⟩};{cases h}
def zZG:zdR:=[(244,[true,true,true,true],zwM)]++zZF
theorem zPk:zcI zZG:=zeI zPj (by
 intro x a;simp only[qH,qY,or_false]at a;rcases a with rfl
 .exact zT4)
def z0f:zfS:=[(329,[true,true,true,true,false,false],some (1,1,[[0],[1],[2],[4],[7]]),zuY)]++zVV
theorem zPx:zeL z0f:=zpm zdu (by
 intro x a;simp only[qH,qY,or_false]at a;rcases a with rfl
 .exact zN9)
def cz (l:List Slot):Nat:=l.countP λs=>ieq s.Page 0
def zH:List Mon->Nat
 |[]=>0
 |m::l=>cz m.Outer+zH l
def bit (u:List Bool):Nat:=bif ix u 0 false then 1 else 0
theorem zxj (s:Slot)(l:List Slot):cz (s::l)=cz l+bif ieq s.Page 0 then 1 else 0:=by unfold cz;rw[List.countP_cons];cases ieq s.Page 0<;>rfl
theorem z8y {u:List Bool}{p:Int}(c:0<=p)(a:p.toNat<u.length)(x:Bool):ix (up u p x) 0 false=bif ieq p 0 then x else ix u 0 false:=by unfold ix up;cases h:ieq p 0;{have:p≠0:=(by simpa [ieq] using h);have b:p.toNat≠0:=(by omega);simp[List.getD,jH,b]};{have:p=0:=(by simpa [ieq] using h);subst this;have a:0<u.length:=a;simp[List.getD,jH,a]}
theorem zDi:∀(l:List Slot) (u b:List Bool),(∀s∈l,s.Page<12)->u.length=12->zk8 l u=some b->cz l+bit u=bit b
 |[],u,b,_,_,h=>by cases h;simp[cz]
 |s::l,u,b,i,k,h=>by
  simp only[zk8]at h;rw[zxj];cases c:ilt s.Page 0;{have c:=qM c;rw[show ilt s.Page 0=false from qI (by omega)]at h;simp only[cF]at h;cases d:ix u s.Page false;{rw [d]at h;simp only[cF]at h;have g:s.Page.toNat<u.length:=(by have:=i s (by simp);omega);have a:=zDi l _ b (λt j=>i t (by simp[j])) (by simpa using k) h;have e:bit (up u s.Page true)=bif ieq s.Page 0 then 1 else bit u:=(by unfold bit;rw[z8y (by omega) g];cases ieq s.Page 0<;>rfl);rw[e] at a;cases f:ieq s.Page 0;{rw [f] at a;simp only[cF] at a ⊢;omega};{have n:s.Page=0:=(by simpa [ieq] using f);rw[n]at d;have:bit u=0:=(by unfold bit;rw[d];rfl);rw[f] at a;simp only[cT] at a ⊢;omega}};{rw [d]at h;cases h}};{have m:=qD c;rw[c]at h;simp only[cT]at h;have a:=zDi l u b (λt j=>i t (by simp[j])) k h;have:ieq s.Page 0=false:=(by simp[ieq];omega);rw[this];simpa using a}
theorem zT8:∀(l:List Mon) (u:List Bool),u.length=12->zn6 l u=true->zH l+bit u<=1
 |[],u,_,_=>by unfold zH bit;cases ix u 0 false<;>simp
 |m::l,u,c,h=>by simp only[zn6]at h;cases b:zfP m;{rw [b]at h;cases h};{rw [b]at h;simp only[cT]at h;cases a:zk8 m.Outer u with|none=>rw[a]at h;cases h|some d =>rw[a]at h;have e:=zDi _ _ _ (zDI<|zn9 b) c a;have f:=zT8 l d ((zqW _ _ _ a).trans c) h;simp only[zH];omega}
theorem z06:∀(l:List Slot) (b:Nat) (s:Slot),l[b]?=some s->s.Page=0->cz (l.set b noSlot)+1=cz l
 |[],b,s,h,_=>by simp at h
 |t::l,0,s,h,a=>by simp only[qG,qC]at h;subst h;rw[List.set_cons_zero,zxj,zxj];have:ieq t.Page 0=true:=(by simp[ieq,a]);rw[this];rfl
 |t::l,b+1,s,h,a=>by rw[List.set_cons_succ,zxj,zxj];have:=z06 l b s (by simpa using h) a;omega
theorem zWs:∀(l:List Mon) (a:Nat) (x y:Mon),l[a]?=some x->zH (l.set a y)+cz x.Outer=zH l+cz y.Outer
 |[],a,x,y,h=>by simp at h
 |m::l,0,x,y,h=>by simp only[qG,qC]at h;subst h;rw[List.set_cons_zero];simp only[zH];omega
 |m::l,a+1,x,y,h=>by rw[List.set_cons_succ];have:=zWs l a x y (by simpa using h);simp only[zH];omega
theorem zY7 {l:List Slot}(h:cz l=0):zyu l 0=none:=by unfold zyu;rw[List.findIdx?_eq_none_iff];intro s a;have:=(List.countP_eq_zero.1 h) s a;simpa using this
theorem zLQ:∀(l:List Mon) (i:Nat),zH l=0->zou 0 l i=(-1,-1)
 |[],_,_=>rfl
 |m::l,i,h=>by simp only[zH]at h;simp only[zou];rw[zY7 (by omega)];exact zLQ l (i+1) (by omega)
theorem zY8 {l:List Slot}{k:Nat}(h:zyu l 0=some k):∃s,l[k]?=some s/\s.Page=0:=by unfold zyu at h;rw[List.findIdx?_eq_some_iff_getElem]at h;obtain⟨a,b,_⟩:=h;exact⟨l[k],qB a,by simpa [ieq] using b⟩
theorem zF8:∀(l:List Mon) (i:Nat),zou 0 l i=(-1,-1)\/∃a b x s,zou 0 l i=(((i+a:Nat):Int),((b:Nat):Int))/\l[a]?=some x/\x.Outer[b]?=some s/\s.Page=0
 |[],_=>.inl rfl
 |m::l,i=>by
  simp only[zou];cases h:zyu m.Outer 0 with
  |none=>rcases zF8 l (i+1) with c|⟨a,b,x,s,c,d,f,g⟩;{exact .inl c};{refine .inr ⟨a+1,b,x,s,?_,by simpa using d,f,g⟩;have e:i+1+a=i+(a+1):=(by omega);rw[c,e]}
  |some k=>obtain⟨s,c,d⟩:=zY8 h;exact .inr ⟨0,k,m,s,rfl,rfl,c,d⟩
def Fit (h:Host):Prop:=Shape h/\0<h.Memory.length/\zH h.Mons<=1
theorem zFW {h:Host}(c:0<h.Memory.length)(b:ilt (zez h 0).1 0=true):inb 0 (ln<|zdl h)=true:=by unfold zdl;obtain⟨n,a⟩:∃n,h.Memory.length=n+1:=⟨h.Memory.length-1,by omega⟩;rw[a];simp only[zHV];rw[show ilt (zez h ((0:Nat):Int)).1 0=true from b];exact qL (by simp only[cT,ln,qV];omega)
theorem zZd {h:Host}(b:0<h.Memory.length)(a:ieq (ln<|zdl h) 0=true):ilt (zez h 0).1 0=false:=by cases c:ilt (zez h 0).1 0;{rfl};{have d:=qD (zFW b c);have e:ln (zdl h)=0:=(by simpa [ieq] using a);omega}
def zeb (h:Host):Host:=bif ieq (ln<|zdl h) 0 then zg5 h (zez h 0).1 (zez h 0).2 else h
structure Room (h r:Host):Prop where
 shape:Shape r
 free:inb 0 (ln (zdl r))=true
 len:r.Mons.length=h.Mons.length
 outer:∀m,(ix r.Mons m mZ).Outer.length=8\/True
theorem z1K {h:Host}(i:Fit h)(f:ieq (ln<|zdl h) 0=true):∃(a b:Nat) (x:Mon) (s:Slot),zez h 0=((a:Int),(b:Int))/\h.Mons[a]?=some x/\x.Outer[b]?=some s/\s.Page=0:=by have d:=zZd i.2.1 f;have e:zez h 0=zou 0 h.Mons 0:=rfl;rcases zF8 h.Mons 0 with c|⟨a,b,x,s,c,g⟩;{rw [e,c]at d;cases d};{exact⟨a,b,x,s,by rw[e,c,kB],g⟩}
theorem zDD {h:Host}(d:Fit h)(e:ieq (ln<|zdl h) 0=true):hasB (zez h 0).1 (ln h.Mons)=true/\hasB (zez h 0).2 8=true:=by obtain⟨a,b,x,s,f,c,g,j⟩:=z1K d e;rw[f];have k:=(qA.1 c).1;have l:=(qA.1 g).1;have i:=d.1.2 x (qJ c);refine⟨qL (by simp only[ln];omega),qL ?_⟩;have:=i.1;show 0<=(b:Int)/\(b:Int)<8;omega
theorem room {h:Host}(d:Fit h):Room h (zeb h):=by unfold zeb;cases g:ieq (ln<|zdl h) 0;{refine⟨d.1,qL ?_,rfl,λ_=>.inr trivial⟩;have:ln (zdl h)≠0:=(by simpa [ieq] using g);show 0<=(0:Int)/\(0:Int)<ln (zdl h);simp only[ln] at *;omega};{obtain⟨n,u⟩:=zDD d g;obtain⟨a,b,x,s,r,i,k,t⟩:=z1K d g;simp only[cT];rw[r]at n u ⊢;have m:=(qA.1 i).1;have B:=(qA.1 k).1;have j:ix h.Mons (a:Int) mZ=x:=(by rw[zX m];exact(qA.1 i).2);have c:=(zhE (zhg h (a:Int) (b:Int)) (a:Int) (b:Int) noSlot).1;have q:ix (zhg h (a:Int) (b:Int)).Mons (a:Int) mZ={x with Out:=up x.Out (b:Int) (zkQ h.Memory (ix x.Outer (b:Int) sZ).Page)}:=(by unfold zhg;rw[zdE m,j]);obtain⟨y,l,v⟩:∃y,(zg5 h (a:Int) (b:Int)).Mons=h.Mons.set a y/\y.Outer=x.Outer.set b noSlot:=(by unfold zg5;rw[c,q];unfold zhg;rw[zqV];exact⟨_,by simp[up];rfl,by simp[up]⟩);have w:zH (zg5 h (a:Int) (b:Int)).Mons=0:=(by have p:=zWs h.Mons a x y i;have z:=z06 x.Outer b s k t;have A:=d.2.2;rw[l];rw[v] at p;omega);have f:(zg5 h (a:Int) (b:Int)).Memory=h.Memory:=(zhE (zhg h (a:Int) (b:Int)) (a:Int) (b:Int) noSlot).2;refine⟨zL9 d.1 n,zFW (by rw[f];exact d.2.1) ?_,by rw[l];simp,λ_=>.inr trivial⟩;have e:zez (zg5 h (a:Int) (b:Int)) 0=zou 0 (zg5 h (a:Int) (b:Int)).Mons 0:=rfl;rw[e,zLQ _ _ w];rfl}
theorem zVO {m:List (List Int)}{p:Int}{c:List Int}(h:SmM m)(a:c.length<=1048576):SmM (zm4 m p c):=by unfold zm4;cases hasB p (ln m);{exact h};{cases zdB c;{exact h};{exact zMf h a}}
def landing (r:Host)(m p to:Int):Host:={r with Memory:=zm4 r.Memory to (ix (ix r.Mons m mZ).Out p []),Mons:=up r.Mons m {ix r.Mons m mZ with Out:=up (ix r.Mons m mZ).Out p []}}
def zmB (r:Host)(m p to:Int):Host:=zeQ (landing r m p to) m p ⟨to,3⟩
def fetched (h:Host)(m p:Int):Host:=zmB (zeb h) m p (ix (zdl<|zeb h) 0 0)
theorem zVQ {r:Host}{m p:Int}(e:Shape r)(c:hasB m (ln r.Mons)=true)(d:hasB p 8=true):(ix (ix r.Mons m mZ).Out p []).length<=1048576:=by obtain⟨a,b⟩:=zcr e c;exact a.2.1.2 _ (zbz (zdX b.2.1 d) _)
theorem zs9 {r:Host}{m p to:Int}(a:Shape r)(d:hasB m (ln r.Mons)=true)(e:hasB p 8=true):Shape (landing r m p to):=by obtain⟨b,c⟩:=zcr a d;exact zQZ (h:={r with Mons:=up r.Mons m {ix r.Mons m mZ with Out:=up (ix r.Mons m mZ).Out p []}}) (zkp (x:={ix r.Mons m mZ with Out:=up (ix r.Mons m mZ).Out p []}) a ⟨b.1,zMf b.2.1 (by simp),b.2.2⟩ ⟨c.1,by simpa using c.2.1,c.2.2⟩) (zVO a.1.1<|zVQ a d e)
theorem zSF {r:Host}{m p d:Int}(c:Shape r)(a:hasB m (ln r.Mons)=true)(b:hasB p 8=true):Shape (zmB r m p d):=zta (zfm a) (zs9 c a b)
theorem zrl {h:Host}(a:Fit h){m:Int}(b:hasB m (ln h.Mons)=true):hasB m (ln (zeb h).Mons)=true:=by rw[ln,(room a).len];exact b
theorem zlU {h:Host}{m p:Int}(a:Fit h)(b:hasB m (ln h.Mons)=true)(c:hasB p 8=true):Shape (fetched h m p)/\hasB m (ln (fetched h m p).Mons)=true :=
 ⟨zSF (room a).shape (zrl a b) c,zFY<|zfm<|zrl a b⟩
@[simp] abbrev zlk (h:Host)(m p:Int):Bool:=pc (Fit h/\hasB m (ln h.Mons)=true/\hasB p 8=true)
@[simp] abbrev zl9 (h:Host)(m p:Int):Host:=fetched h m p
def zwN:List AV->Option (Bool×List AV)
 |[.agg [.s (.sl .int) b,.s .mon c,.s .entry d,.s .entry e],.one<|.i .i64 f,.one<|.i .i64 g]=>some (zlk (⟨b,c,d,e⟩:Host) f g,[aH<|zl9 (⟨b,c,d,e⟩:Host) f g])
 |_=>none
def zBF (N:Nat)(a:Host)(c b:Int):OA:=
 let h:=ix (zcX a) 0 0;let f:=ix a.Mons c zh;let d:=zm1 a (zdK a 0)<|zeN a 0;let g:=ix (zcX d) 0 0;let e:=ix d.Mons c zh; (oN (zgp a)<|cond (ieq (ln<|zcX a) 0) (oN (zgi a 0)<|oN (zj4 a (zdK a 0)<|zeN a 0)<|oN (zgp d)<|oN (inb 0<|ln<|zcX d)<|oN (inb c<|ln d.Mons)<|oN (inb b<|ln e.Out)<|oN (zgr d.Memory g<|ix e.Out b [])<|oN (inb c<|ln d.Mons)<|oN (inb b<|ln e.Out)<|share (up d.Mons c ({e with Out:=(up e.Out b [])}:Mon)) (λi=>let j:=({d with Memory:=(zfj d.Memory g<|ix e.Out b []),Mons:=i}:Host); (oN (zgc j c b (⟨g,3⟩:Slot))<|some [aH<|ziI j c b (⟨g,3⟩:Slot)])))<|oN (zgp a)<|oN (inb 0<|ln<|zcX a)<|oN (inb c<|ln a.Mons)<|oN (inb b<|ln f.Out)<|oN (zgr a.Memory h<|ix f.Out b [])<|oN (inb c<|ln a.Mons)<|oN (inb b<|ln f.Out)<|share (up a.Mons c ({f with Out:=(up f.Out b [])}:Mon)) (λi=>let k:=({a with Memory:=(zfj a.Memory h<|ix f.Out b []),Mons:=i}:Host); (oN (zgc k c b (⟨h,3⟩:Slot))<|some [aH<|ziI k c b (⟨h,3⟩:Slot)])))
theorem zZA (N:Nat)(a:Host)(b c:Int):zDr (cQ zrJ znW zZG z0f) (zq []) N 12 330 [true,true,true,true,false,false] 1 1 [[0],[1],[2],[4],[7]] .mon [aH a,aI b,aI c]=zBF N a b c:=by kernel_rfl
theorem zW9 (c:Host)(b d:Int)(z:zbt big [aH c,aI b,aI d])(u:zlk c b d=true):∃N,zBF N c b d=some [aH<|zl9 c b d]:=by
 obtain⟨h,v,i⟩:=zB.1 u;have e:∀r,Shape r->inb 0 (ln<|zdl r)=true->hasB b (ln r.Mons)=true->(cond (zgp r) (cond (inb 0<|ln<|zcX r) (cond (inb b<|ln r.Mons) (cond (inb d<|ln (ix r.Mons b zh).Out) (cond (zgr r.Memory (ix (zcX r) 0 0)<|ix (ix r.Mons b zh).Out d []) (cond (inb b<|ln r.Mons) (cond (inb d<|ln (ix r.Mons b zh).Out) (share (up r.Mons b ({ (ix r.Mons b zh) with Out:=(up (ix r.Mons b zh).Out d [])}:Mon)) λs=>cond (zgc ({r with Memory:=(zfj r.Memory (ix (zcX r) 0 0)<|ix (ix r.Mons b zh).Out d []),Mons:=s}:Host) b d (⟨ix (zcX r) 0 0,3⟩:Slot)) (some [AV.agg<|zbb<|ziI ({r with Memory:=(zfj r.Memory (ix (zcX r) 0 0)<|ix (ix r.Mons b zh).Out d []),Mons:=s}:Host) b d (⟨ix (zcX r) 0 0,3⟩:Slot)]) none) none) none) none) none) none) none) none)=some [AV.agg<|zbb<|zmB r b d<|ix (zdl r) 0 0]:=(by intro r j f a;obtain⟨y,l⟩:=zcr j a;have t:=zs9 (to:=ix (zdl r) 0 0) j a i;obtain⟨k,rfl,q⟩:=zd8 (n:=r.Mons.length) a;refine must (zbp j.1.1.1) (must f<|must (zy a)<|must (zy<|zdX l.2.1 i)<|must (zbp ⟨j.1.1,zVQ j a i⟩)<|must (zy a)<|must (zy<|zdX l.2.1 i)<|shr (must (zbp ⟨(zJ _).2 t.1,zfm a,?_,?_⟩) rfl));{simp only [zdE q];exact zdX l.1 i};{simp only [zdE q];exact k9 l.2.2.2});have g:=room h;have a:=zrl h v;refine⟨0,?_⟩;unfold zBF zl9 fetched oN;conv=>zeta
 refine must (zbp h.1.1.1.1) ?_;cases p:ieq (ln<|zcX c) 0;{have m:zeb c=c:=(by unfold zeb;rw[show ieq (ln<|zdl c) 0=false from p];rfl);rw[m]at g a ⊢;exact e c g.shape g.free a};{obtain⟨w,x⟩:=zDD h p;have m:zeb c=zg5 c (zez c 0).1 (zez c 0).2:=(by unfold zeb;rw[show ieq (ln<|zdl c) 0=true from p];rfl);rw[m]at g a ⊢;exact must rfl (must rfl (must (zbp ⟨h.1,w,x⟩)<|e _ g.shape g.free a))}
theorem zRA:zeK Tryz.prog 330 [true,true,true,true,false,false] (some (1,1,[[0],[1],[2],[4],[7]])) zwN:=by refine znj (kt:=.mon) (zhW zi3 zl zPk zPx) (zij (by kernel_rfl)) (by kernel_rfl) ?_;intro a g f e h;have c:=zkC e;unfold zwN at h;split at h;{obtain⟨d,rfl⟩:=zds h;obtain⟨N,b⟩:=zW9 _ _ _ (by exact c) d;exact⟨⟨_,rfl⟩,rfl,_,N,12,(zZA N _ _ _ ).trans b⟩};{cases h}
@[simp] abbrev zsV (h:Host):Bool:=pc (Shape h/\hasB (zez h 0).1 (ln h.Mons)=true/\hasB (zez h 0).2 8=true)
@[simp] abbrev zsW (h:Host):Host:=zg5 h (zez h 0).1 (zez h 0).2
def zo9:List CV->List AV->Option (Bool×List CV×List AV)
 |[.s (.sl .int) b,.s .mon c,.s .entry d,.s .entry e],[]=>some (zsV (⟨b,c,d,e⟩:Host),zbb<|zsW (⟨b,c,d,e⟩:Host),[])
 |_,_=>none
def zsP (N:Nat)(c:Host)  : OA :=
 (oN (zgi c 0)<|oN (zj4 c (zdK c 0)<|zeN c 0)<|some [aH<|zm1 c (zdK c 0)<|zeN c 0])
theorem zPe (N:Nat)(c:Host)  : zrL (cQ zrJ znW zZG z0f) (zq []) N 12 325 [true,true,true,true] (zbb c) []=zsP N c:=by kernel_rfl
theorem zLo (c:Host)(d:zbt big (.agg (zbb c)::[]))(a:zsV c=true):∃N,zsP N c=some (.agg (zbb<|zsW c)::[]):=by have b:=zB.1 a;refine⟨0,?_⟩;unfold zsP oN;exact must rfl (must (zbp b) rfl)
theorem zD1:zdA Tryz.prog 325 [true,true,true,true] zo9:=by refine ziR (zhW zi3 zl zPk zPx) (zij (by kernel_rfl)) ?_;intro g a b j i f h;have d:=zmy f;unfold zo9 at h;split at h;{obtain⟨e,rfl,rfl⟩:=zon h;obtain⟨N,c⟩:=zLo _ (by exact d) e;exact⟨rfl,_,N,12,(zPe N _ ).trans c⟩};{cases h}
def z3H:zdR:=[(325,[true,true,true,true],zo9)]++zZG
theorem zYi:zcI z3H:=zeI zPk (by
 intro x a;simp only[qH,qY,or_false]at a;rcases a with rfl
 .exact zD1)
def zVW:zfS:=[(330,[true,true,true,true,false,false],some (1,1,[[0],[1],[2],[4],[7]]),zwN)]++z0f
theorem zDK:zeL zVW:=zpm zPx (by
 intro x a;simp only[qH,qY,or_false]at a;rcases a with rfl
 .exact zRA)
theorem zYK {r:Host}{m p to:Int}(d:Shape r)(b:hasB m (ln r.Mons)=true):zyN {landing r m p to with Mons:=up (landing r m p to).Mons m {ix (landing r m p to).Mons m mZ with Outer:=up (ix (landing r m p to).Mons m mZ).Outer p ⟨to,3⟩}} m p (ix (ix (landing r m p to).Mons m mZ).Outer p sZ)=zmB r m p to:=by obtain⟨e,c⟩:=zcr d b;obtain⟨k,rfl,a⟩:=zd8 (n:=r.Mons.length) b;refine zy6 (h:=landing r (k:Int) p to) (by simpa [landing] using a) ?_;unfold landing;simp only[zdE a];exact c.2.2.2
theorem zXF {r:Host}{m p to:Int}(f:Shape r)(b:hasB m (ln r.Mons)=true)(e:hasB p 8=true):Shape {landing r m p to with Mons:=up (landing r m p to).Mons m {ix (landing r m p to).Mons m mZ with Outer:=up (ix (landing r m p to).Mons m mZ).Outer p ⟨to,3⟩}}:=by have a:=zs9 (to:=to) f b e;obtain⟨c,d⟩:=zcr a (zfm b);exact zkp a ⟨by simpa using c.1,c.2⟩ ⟨by simpa using d.1,d.2⟩
def zuT:List CV->List AV->Option (Bool×List CV×List AV)
 |[.s (.sl .int) b,.s .mon c,.s .entry d,.s .entry e],[.one<|.i .i64 f,.one<|.i .i64 g]=>some (zlk (⟨b,c,d,e⟩:Host) f g,zbb<|zl9 (⟨b,c,d,e⟩:Host) f g,[])
 |_,_=>none
def zBb (N:Nat)(c:Host)(b a:Int):OA:=
 let m:=ix (zcX c) 0 0;let d:=zsW c;let l:=ix (zcX d) 0 0;let f:=ix c.Mons b zh;let e:=ix d.Mons b zh; (oN (zgp c)<|cond (ieq (ln<|zcX c) 0) (oN (zsV c)<|oN (inb b<|ln d.Mons)<|oN (zgp d)<|oN (inb 0<|ln<|zcX d)<|oN (inb a<|ln e.Out)<|oN (zgr d.Memory l<|ix e.Out a [])<|oN (inb a<|ln e.Out)<|share (up d.Mons b ({e with Out:=(up e.Out a [])}:Mon)) (λg=>let i:=ix g b zh;let q:=ix i.Outer a zT; (oN (inb a<|ln i.Outer)<|oN (inb a<|ln i.Outer)<|share (up g b ({i with Outer:=(up i.Outer a (⟨l,3⟩:Slot))}:Mon)) (λk=>let n:=({d with Memory:=(zfj d.Memory l<|ix e.Out a []),Mons:=k}:Host); (oN (zfa n b a q)<|some [aH<|zfb n b a q])))))<|oN (inb b<|ln c.Mons)<|oN (zgp c)<|oN (inb 0<|ln<|zcX c)<|oN (inb a<|ln f.Out)<|oN (zgr c.Memory m<|ix f.Out a [])<|oN (inb a<|ln f.Out)<|share (up c.Mons b ({f with Out:=(up f.Out a [])}:Mon)) (λg=>let j:=ix g b zh;let h:=ix j.Outer a zT; (oN (inb a<|ln j.Outer)<|oN (inb a<|ln j.Outer)<|share (up g b ({j with Outer:=(up j.Outer a (⟨m,3⟩:Slot))}:Mon)) (λk=>let p:=({c with Memory:=(zfj c.Memory m<|ix f.Out a []),Mons:=k}:Host); (oN (zfa p b a h)<|some [aH<|zfb p b a h])))))
theorem zZz (N:Nat)(c:Host)(a b:Int):zrL (cQ zrJ znW z3H zVW) (zq []) N 12 245 [true,true,true,true] (zbb c) [aI a,aI b]=zBb N c a b:=by kernel_rfl
theorem zWY (c:Host)(b d:Int)(F:zbt big (.agg (zbb c)::[aI b,aI d]))(w:zlk c b d=true):∃N,zBb N c b d=some (.agg (zbb<|zl9 c b d)::[]):=by
 obtain⟨j,B,l⟩:=zB.1 w;have e:∀r,Shape r->inb 0 (ln<|zdl r)=true->hasB b (ln r.Mons)=true->(cond (inb b<|ln r.Mons) (cond (zgp r) (cond (inb 0<|ln<|zcX r) (cond (inb d<|ln (ix r.Mons b zh).Out) (cond (zgr r.Memory (ix (zcX r) 0 0)<|ix (ix r.Mons b zh).Out d []) (cond (inb d<|ln (ix r.Mons b zh).Out) (share (up r.Mons b ({ (ix r.Mons b zh) with Out:=(up (ix r.Mons b zh).Out d [])}:Mon)) λg=>cond (inb d<|ln (ix g b zh).Outer) (cond (inb d<|ln (ix g b zh).Outer) (share (up g b ({ (ix g b zh) with Outer:=(up (ix g b zh).Outer d (⟨ix (zcX r) 0 0,3⟩:Slot))}:Mon)) λu=>cond (zfa ({r with Memory:=(zfj r.Memory (ix (zcX r) 0 0)<|ix (ix r.Mons b zh).Out d []),Mons:=u}:Host) b d<|ix (ix g b zh).Outer d zT) (some [AV.agg<|zbb<|zfb ({r with Memory:=(zfj r.Memory (ix (zcX r) 0 0)<|ix (ix r.Mons b zh).Out d []),Mons:=u}:Host) b d<|ix (ix g b zh).Outer d zT]) none) none) none) none) none) none) none) none) none)=some [AV.agg<|zbb<|zmB r b d<|ix (zdl r) 0 0]:=(by intro r i f a;obtain⟨E,q⟩:=zcr i a;have v:=zXF (to:=ix (zdl r) 0 0) i a l;have hE:=zYK (p:=d) (to:=ix (zdl r) 0 0) i a;obtain⟨k,rfl,A⟩:=zd8 (n:=r.Mons.length) a;have z:∀(x y:Mon),hasB (k:Int) (ln<|up (up r.Mons (k:Int) x) (k:Int) y)=true:=λx y=>(by simpa [ln] using a);have t:inb d (ln (ix (up r.Mons (k:Int) {ix r.Mons (k:Int) mZ with Out:=up (ix r.Mons (k:Int) mZ).Out d []}) (k:Int) mZ).Outer)=true:=(by rw[zdE A];exact zy (zdX q.1 l));refine must (zy a) (must (zbp i.1.1.1)<|must f<|must (zy<|zdX q.2.1 l)<|must (zbp ⟨i.1.1,zVQ i a l⟩)<|must (zy<|zdX q.2.1 l)<|shr<|must t<|must t<|shr<|must (zbp ⟨v,z _ _⟩) ?_);exact congrArg (λx=>some [AV.agg<|zbb x]) hE);have h:=room j;have a:=zrl j B;refine⟨0,?_⟩;unfold zBb zl9 fetched oN;conv=>zeta
 refine must (zbp j.1.1.1.1) ?_;cases s:ieq (ln<|zcX c) 0;{have m:zeb c=c:=(by unfold zeb;rw[show ieq (ln<|zdl c) 0=false from s];rfl);rw[m]at h a ⊢;exact e c h.shape h.free a};{obtain⟨C,D⟩:=zDD j s;have m:zeb c=zg5 c (zez c 0).1 (zez c 0).2:=(by unfold zeb;rw[show ieq (ln<|zdl c) 0=true from s];rfl);rw[m]at h a ⊢;exact must rfl (must (zbp ⟨j.1,C,D⟩)<|e _ h.shape h.free a)}
theorem zRl:zdA Tryz.prog 245 [true,true,true,true] zuT:=by refine ziR (zhW zi3 zl zYi zDK) (zij (by kernel_rfl)) ?_;intro g a b j i f h;have d:=zmy f;unfold zuT at h;split at h;{obtain⟨e,rfl,rfl⟩:=zon h;obtain⟨N,c⟩:=zWY _ _ _ (by exact d) e;exact⟨rfl,_,N,12,(zZz N _ _ _ ).trans c⟩};{cases h}
def zZH:zdR:=[(245,[true,true,true,true],zuT)]++z3H
theorem zPl:zcI zZH:=zeI zYi (by
 intro x a;simp only[qH,qY,or_false]at a;rcases a with rfl
 .exact zRl)
def zb1 (h:Host)(m p:Int):Host:={h with Mons:=up h.Mons m {ix h.Mons m mZ with Dirty:=up (ix h.Mons m mZ).Dirty p true}}
def opened (h:Host)(m p:Int):Host:=bif ieq (wand .i64 (ix (ix h.Mons m mZ).Outer p sZ).Rights 2) 0 then zeQ h m p ⟨(ix (ix h.Mons m mZ).Outer p sZ).Page,3⟩ else h
def znp (h:Host)(m p n:Int):Host:=bif ieq (wand .i64 n 2) 0 then h else opened (zb1 h m p) m p
def mended (h:Host)(m p n:Int):Host:=bif ieq (ix (ix h.Mons m mZ).Outer p sZ).Page (-1) then znp (fetched h m p) m p n else znp h m p n
theorem z6S {r:Int}(a:0<=r)(b:r<=3):enough r 2 = !ieq (wand .i64 r 2) 0:=by have:r=0\/r=1\/r=2\/r=3:=(by omega);rcases this with rfl|rfl|rfl|rfl<;>rfl
structure SlotFit (s:Slot):Prop where
 no:zdP s noSlot=ieq s.Page (-1)
 lo:0<=s.Rights
 hi:s.Rights<=3
theorem zZ6 {s:Slot}{n:Int}(h:zgv s n=true):SlotFit s:=by refine⟨zQ0 h,?_,?_⟩<;>unfold zgv at h<;>cases a:zdP s noSlot;{rw [a]at h;simp only[cF,zdo]at h;have:=(ze4.1 h.2.2).1;omega};{unfold zdP at a;rw[qE]at a;have:s.Rights=0:=qD a.2;omega};{rw [a]at h;simp only[cF,zdo]at h;have:=(ze4.1 h.2.2).2;omega};{unfold zdP at a;rw[qE]at a;have:s.Rights=0:=qD a.2;omega}
theorem zoU {h:Host}{m p:Int}(c:Shape h)(d:hasB m (ln h.Mons)=true):Shape (zb1 h m p):=by obtain⟨a,b⟩:=zcr c d;exact zkp c ⟨a.1,a.2.1,by simpa using a.2.2.1,a.2.2.2⟩ ⟨b.1,b.2.1,by simpa using b.2.2.1,b.2.2.2⟩
theorem zVG {h:Host}{m p:Int}(b:Shape h)(a:hasB m (ln h.Mons)=true):Shape (opened h m p)/\hasB m (ln (opened h m p).Mons)=true:=by unfold opened;cases ieq (wand .i64 (ix (ix h.Mons m mZ).Outer p sZ).Rights 2) 0;{exact⟨b,a⟩};{exact⟨zta a b,zFY a⟩}
theorem zGs {h:Host}{m p n:Int}(b:Shape h)(a:hasB m (ln h.Mons)=true):Shape (znp h m p n)/\hasB m (ln (znp h m p n).Mons)=true:=by unfold znp;cases ieq (wand .i64 n 2) 0;{exact zVG (zoU b a) (zfm a)};{exact⟨b,a⟩}
theorem zu9 {h:Host}{m p n:Int}(a:Fit h)(b:hasB m (ln h.Mons)=true)(e:hasB p 8=true):Shape (mended h m p n)/\hasB m (ln (mended h m p n).Mons)=true:=by unfold mended;cases ieq (ix (ix h.Mons m mZ).Outer p sZ).Page (-1);{exact zGs a.1 b};{obtain⟨c,d⟩:=zlU a b e;exact zGs c d}
theorem zTR {h:Host}{m p:Int}(c:Fit h)(g:hasB m (ln h.Mons)=true)(j:hasB p 8=true):(ix (ix (fetched h m p).Mons m mZ).Outer p sZ).Rights=3:=by have f:=room c;have a:=zrl c g;obtain⟨r,e⟩:=zcr f.shape a;obtain⟨k,rfl,d⟩:=zd8 (n:=(zeb h).Mons.length) a;obtain⟨q,rfl,l⟩:=zd8 (n:=8) j;unfold fetched zmB;rw[(zhE _ _ _ _).1];have b:k<(landing (zeb h) (k:Int) (q:Int)<|ix (zdl<|zeb h) 0 0).Mons.length:=(by simpa [landing] using d);rw[zdE b];have i:q<(ix (landing (zeb h) (k:Int) (q:Int)<|ix (zdl<|zeb h) 0 0).Mons (k:Int) mZ).Outer.length:=(by unfold landing;rw[zdE d];show q<(ix (zeb h).Mons (k:Int) mZ).Outer.length;rw[e.1];exact l);show (ix (up (ix (landing (zeb h) (k:Int) (q:Int)<|ix (zdl<|zeb h) 0 0).Mons (k:Int) mZ).Outer (q:Int) ⟨_,3⟩) (q:Int) sZ).Rights=3;rw[zdE i]
def zTm (h:Host)(m p n:Int):Prop:=Fit h/\hasB m (ln h.Mons)=true/\hasB p 8=true/\(n=1\/n=2)/\SlotFit (ix (ix h.Mons m mZ).Outer p sZ)
@[simp] abbrev zhw (h:Host)(m p n:Int):Bool:=pc (zTm h m p n)
@[simp] abbrev zf2 (h:Host)(m p n:Int):Host:=mended h m p n
def zs3:List AV->Option (Bool×List AV)
 |[.agg [.s (.sl .int) b,.s .mon c,.s .entry d,.s .entry e],.one<|.i .i64 f,.one<|.i .i64 g,.one<|.i .i64 h]=>some (zhw (⟨b,c,d,e⟩:Host) f g h,[aH<|zf2 (⟨b,c,d,e⟩:Host) f g h])
 |_=>none
def zwA (N:Nat)(c:Host)(a b l:Int):OA:=
 let h:=zl9 c a b;let k:=ix h.Mons a zh;let e:=ix c.Mons a zh;let p:=ix e.Outer b zT; (oN (inb a<|ln c.Mons)<|oN (inb b<|ln e.Outer)<|oN zbE<|cond (cond (ieq p.Page zbj.Page) (ieq p.Rights zbj.Rights) false) (oN (zlk c a b)<|cond (ieq (wand .i64 l 2) 0) (some [aH h])<|oN (inb a<|ln h.Mons)<|oN (inb b<|ln k.Dirty)<|share (up h.Mons a ({k with Dirty:=(up k.Dirty b true)}:Mon)) (λd=>let q:=(ix d a zh).Outer;let i:=({h with Mons:=d}:Host);let m:=ix q b zT;let r:=({m with Rights:=3}:Slot); (oN (inb a<|ln d)<|oN (inb b<|ln q)<|cond (ieq (wand .i64 m.Rights 2) 0) (oN (zgc i a b r)<|some [aH<|ziI i a b r])<|some [aH i])))<|cond (ieq (wand .i64 l 2) 0) (some [aH c])<|oN (inb a<|ln c.Mons)<|oN (inb b<|ln e.Dirty)<|share (up c.Mons a ({e with Dirty:=(up e.Dirty b true)}:Mon)) (λd=>let f:=(ix d a zh).Outer;let j:=({c with Mons:=d}:Host);let n:=ix f b zT;let g:=({n with Rights:=3}:Slot); (oN (inb a<|ln d)<|oN (inb b<|ln f)<|cond (ieq (wand .i64 n.Rights 2) 0) (oN (zgc j a b g)<|some [aH<|ziI j a b g])<|some [aH j])))
theorem zU9 (N:Nat)(a:Host)(b c d:Int):zDr (cQ zrJ znW zZH zVW) (zq []) N 12 264 [true,true,true,true,false,false,false] 1 1 [[0],[1],[2],[4],[7]] .mon [aH a,aI b,aI c,aI d]=zwA N a b c d:=by kernel_rfl
theorem zSx (d:Host)(b a h:Int)(C:zbt big [aH d,aI b,aI a,aI h])(z:zhw d b a h=true):∃N,zwA N d b a h=some [aH<|zf2 d b a h]:=by
 obtain⟨l,j,i,D,A⟩:=zB.1 z;obtain⟨B,v⟩:=zcr l.1 j;have f:∀r,Shape r->hasB b (ln r.Mons)=true->(cond (ieq (wand .i64 h 2) 0) (some [AV.agg<|zbb r])<|cond (inb b<|ln r.Mons) (cond (inb a<|ln (ix r.Mons b zh).Dirty) (share (up r.Mons b ({ (ix r.Mons b zh) with Dirty:=(up (ix r.Mons b zh).Dirty a true)}:Mon)) λg=>cond (inb b<|ln g) (cond (inb a<|ln (ix g b zh).Outer) (cond (ieq (wand .i64 (ix (ix g b zh).Outer a zT).Rights 2) 0) (cond (zgc ({r with Mons:=g}:Host) b a ({ (ix (ix g b zh).Outer a zT) with Rights:=3}:Slot)) (some [AV.agg<|zbb<|ziI ({r with Mons:=g}:Host) b a ({ (ix (ix g b zh).Outer a zT) with Rights:=3}:Slot)]) none)<|some [AV.agg<|zbb ({r with Mons:=g}:Host)]) none) none) none) none)=some [AV.agg<|zbb<|znp r b a h]:=(by intro r u c;obtain⟨E,m⟩:=zcr u c;have y:=zoU (p:=a) u c;unfold znp;cases w:ieq (wand .i64 h 2) 0;{obtain⟨k,rfl,t⟩:=zd8 (n:=r.Mons.length) c;have q:ix (zb1 r (k:Int) a).Mons (k:Int) mZ={ix r.Mons (k:Int) mZ with Dirty:=up (ix r.Mons (k:Int) mZ).Dirty a true}:=zdE t _ _;refine zbA rfl (must (zy c)<|must (zy<|zdX m.2.2.1 i)<|shr<|must (zy<|zfm c)<|must ?_ ?_);{rw [zdE t];exact zy (zdX m.1 i)};{unfold opened;show (cond (ieq (wand .i64 (ix (ix (zb1 r (k:Int) a).Mons (k:Int) mZ).Outer a sZ).Rights 2) 0) _ _)=_;cases s:ieq (wand .i64 (ix (ix (zb1 r (k:Int) a).Mons (k:Int) mZ).Outer a sZ).Rights 2) 0;{rfl};{refine must rfl (must (zbp ⟨(zJ _).2 y.1,zfm c,?_,?_⟩) rfl);{show hasB a (ln (ix (zb1 r (k:Int) a).Mons (k:Int) mZ).Outer)=true;rw[q];exact zdX m.1 i};{show (ix (zb1 r (k:Int) a).Mons (k:Int) mZ).Tables.length<=(ix (zb1 r (k:Int) a).Mons (k:Int) mZ).Guests.length;rw[q];exact k9 m.2.2.2}}}};{rfl});refine⟨0,?_⟩;unfold zwA zf2 mended oN;conv=>zeta
 refine must (zy j) (must (zy<|zdX v.1 i) (must rfl ?_));have e:(cond (ieq (ix (ix d.Mons b mZ).Outer a sZ).Page zbj.Page) (ieq (ix (ix d.Mons b mZ).Outer a sZ).Rights zbj.Rights) false)=ieq (ix (ix d.Mons b mZ).Outer a sZ).Page (-1):=(by rw[<- A.no];unfold zdP zbj;cases ieq (ix (ix d.Mons b mZ).Outer a sZ).Page noSlot.Page<;>rfl);rw[e];cases w:ieq (ix (ix d.Mons b mZ).Outer a sZ).Page (-1);{exact f d l.1 j};{obtain⟨s,x⟩:=zlU (p:=a) l j i;exact must rfl (must (zbp ⟨l,j,i⟩)<|f _ s x)}
theorem zKZ:zeK Tryz.prog 264 [true,true,true,true,false,false,false] (some (1,1,[[0],[1],[2],[4],[7]])) zs3:=by refine znj (kt:=.mon) (zhW zi3 zl zPl zDK) (zij (by kernel_rfl)) (by kernel_rfl) ?_;intro a g f e h;have c:=zkC e;unfold zs3 at h;split at h;{obtain⟨d,rfl⟩:=zds h;obtain⟨N,b⟩:=zSx _ _ _ _ (by exact c) d;exact⟨⟨_,rfl⟩,rfl,_,N,12,(zU9 N _ _ _ _ ).trans b⟩};{cases h}
def zwL:List CV->List AV->Option (Bool×List CV×List AV)
 |[.s (.sl .int) b,.s .mon c,.s .entry d,.s .entry e],[.one<|.i .i64 f,.one<|.i .i64 g,.one<|.i .i64 h]=>some (zhw (⟨b,c,d,e⟩:Host) f g h,zbb<|zf2 (⟨b,c,d,e⟩:Host) f g h,[])
 |_,_=>none
def zGD (N:Nat)(c:Host)(b a k:Int):OA:=
 let e:=zl9 c b a;let m:=ix e.Mons b zh;let h:=ix c.Mons b zh; (oN (inb b<|ln c.Mons)<|oN (inb a<|ln h.Outer)<|cond (ieq (ix h.Outer a zT).Page<|-1) (oN (zlk c b a)<|oN (zZ k 2)<|cond (nB<|zcW k 2) (some [aH e])<|oN (inb b<|ln e.Mons)<|oN (inb a<|ln m.Dirty)<|share (up e.Mons b ({m with Dirty:=(up m.Dirty a true)}:Mon)) (λd=>let i:=ix d b zh;let f:=ix i.Outer a zT; (oN (inb a<|ln i.Outer)<|oN (zZ f.Rights 2)<|cond (nB<|zcW f.Rights 2) (oN (inb a<|ln i.Outer)<|share (up d b ({i with Outer:=(up i.Outer a ({f with Rights:=3}:Slot))}:Mon)) (λl=>let n:=({e with Mons:=l}:Host); (oN (zfa n b a f)<|some [aH<|zfb n b a f])))<|some [aH ({e with Mons:=d}:Host)])))<|oN (zZ k 2)<|cond (nB<|zcW k 2) (some [aH c])<|oN (inb b<|ln c.Mons)<|oN (inb a<|ln h.Dirty)<|share (up c.Mons b ({h with Dirty:=(up h.Dirty a true)}:Mon)) (λd=>let j:=ix d b zh;let g:=ix j.Outer a zT; (oN (inb a<|ln j.Outer)<|oN (zZ g.Rights 2)<|cond (nB<|zcW g.Rights 2) (oN (inb a<|ln j.Outer)<|share (up d b ({j with Outer:=(up j.Outer a ({g with Rights:=3}:Slot))}:Mon)) (λl=>let p:=({c with Mons:=l}:Host); (oN (zfa p b a g)<|some [aH<|zfb p b a g])))<|some [aH ({c with Mons:=d}:Host)])))
theorem z1E (N:Nat)(c:Host)(a b d:Int):zrL (cQ zrJ znW zZH zVW) (zq []) N 12 239 [true,true,true,true] (zbb c) [aI a,aI b,aI d]=zGD N c a b d:=by kernel_rfl
theorem zZq (c:Host)(b a f:Int)(R:zbt big (.agg (zbb c)::[aI b,aI a,aI f]))(M:zhw c b a f=true):∃N,zGD N c b a f=some (.agg (zbb<|zf2 c b a f)::[]):=by
 obtain⟨l,i,j,P,C⟩:=zB.1 M;obtain⟨Q,I⟩:=zcr l.1 i;have H:enough f 2 = !ieq (wand .i64 f 2) 0:=(by rcases P with rfl|rfl<;>rfl);have g:∀r,Shape r->hasB b (ln r.Mons)=true->enough (ix (ix r.Mons b mZ).Outer a sZ).Rights 2=(!ieq (wand .i64 (ix (ix r.Mons b mZ).Outer a sZ).Rights 2) 0)->(cond (zZ f 2) (cond (cond (zcW f 2) false true) (some [AV.agg<|zbb r])<|cond (inb b<|ln r.Mons) (cond (inb a<|ln (ix r.Mons b zh).Dirty) (share (up r.Mons b ({ (ix r.Mons b zh) with Dirty:=(up (ix r.Mons b zh).Dirty a true)}:Mon)) λe=>cond (inb a<|ln (ix e b zh).Outer) (cond (zZ (ix (ix e b zh).Outer a zT).Rights 2) (cond (cond (zcW (ix (ix e b zh).Outer a zT).Rights 2) false true) (cond (inb a<|ln (ix e b zh).Outer) (share (up e b ({ (ix e b zh) with Outer:=(up (ix e b zh).Outer a ({ (ix (ix e b zh).Outer a zT) with Rights:=3}:Slot))}:Mon)) λF=>cond (zfa ({r with Mons:=F}:Host) b a<|ix (ix e b zh).Outer a zT) (some [AV.agg<|zbb<|zfb ({r with Mons:=F}:Host) b a<|ix (ix e b zh).Outer a zT]) none) none)<|some [AV.agg<|zbb ({r with Mons:=e}:Host)]) none) none) none) none) none)=some [AV.agg<|zbb<|znp r b a f]:=(by intro r B d q;obtain⟨S,u⟩:=zcr B d;have w:=zoU (p:=a) B d;unfold znp;simp only[zZ,zcW,H,cT];cases J:ieq (wand .i64 f 2) 0;{obtain⟨k,rfl,A⟩:=zd8 (n:=r.Mons.length) d;have m:ix (zb1 r (k:Int) a).Mons (k:Int) mZ={ix r.Mons (k:Int) mZ with Dirty:=up (ix r.Mons (k:Int) mZ).Dirty a true}:=zdE A _ _;have t:k<(zb1 r (k:Int) a).Mons.length:=(by simpa [zb1] using A);have z:inb a (ln (ix (zb1 r (k:Int) a).Mons (k:Int) mZ).Outer)=true:=(by rw[m];exact zy (zdX u.1 j));refine zbA rfl (must (zy d)<|must (zy<|zdX u.2.2.1 j)<|shr<|must z ?_);unfold opened;show (cond (cond (enough (ix (ix (zb1 r (k:Int) a).Mons (k:Int) mZ).Outer a sZ).Rights 2) false true) _ _)=_;have G:(cond (enough (ix (ix (zb1 r (k:Int) a).Mons (k:Int) mZ).Outer a sZ).Rights 2) false true)=ieq (wand .i64 (ix (ix (zb1 r (k:Int) a).Mons (k:Int) mZ).Outer a sZ).Rights 2) 0:=(by rw[m];show (cond (enough (ix (ix r.Mons (k:Int) mZ).Outer a sZ).Rights 2) false true)=ieq (wand .i64 (ix (ix r.Mons (k:Int) mZ).Outer a sZ).Rights 2) 0;rw[q];cases ieq (wand .i64 (ix (ix r.Mons (k:Int) mZ).Outer a sZ).Rights 2) 0<;>rfl);rw[G];cases v:ieq (wand .i64 (ix (ix (zb1 r (k:Int) a).Mons (k:Int) mZ).Outer a sZ).Rights 2) 0;{rfl};{have L:Shape {zb1 r (k:Int) a with Mons:=up (zb1 r (k:Int) a).Mons (k:Int) {ix (zb1 r (k:Int) a).Mons (k:Int) mZ with Outer:=up (ix (zb1 r (k:Int) a).Mons (k:Int) mZ).Outer a ⟨(ix (ix (zb1 r (k:Int) a).Mons (k:Int) mZ).Outer a sZ).Page,3⟩}}:=(by obtain⟨D,E⟩:=zcr w (zfm d);exact zkp w ⟨by simpa using D.1,D.2⟩ ⟨by simpa using E.1,E.2⟩);have O:∀(x y:Mon),hasB (k:Int) (ln<|up (up r.Mons (k:Int) x) (k:Int) y)=true:=λx y=>(by simpa [ln] using d);refine must rfl (must z<|shr<|must (zbp ⟨L,O _ _⟩) ?_);exact congrArg (λx=>some [AV.agg<|zbb x]) (zy6 (h:=zb1 r (k:Int) a) (p:=a) (s:=⟨(ix (ix (zb1 r (k:Int) a).Mons (k:Int) mZ).Outer a sZ).Page,3⟩) t (by rw[m];exact u.2.2.2))}};{rfl});refine⟨0,?_⟩;unfold zGD zf2 mended oN nB;conv=>zeta
 refine must (zy i) (must (zy<|zdX I.1 j) ?_);cases J:ieq (ix (ix c.Mons b mZ).Outer a sZ).Page (-1);{exact g c l.1 i (z6S C.lo C.hi)};{obtain⟨v,K⟩:=zlU (p:=a) l i j;exact must rfl (must (zbp ⟨l,i,j⟩)<|g _ v K (by rw[zTR l i j];rfl))}
theorem zT3:zdA Tryz.prog 239 [true,true,true,true] zwL:=by refine ziR (zhW zi3 zl zPl zDK) (zij (by kernel_rfl)) ?_;intro g a b j i f h;have d:=zmy f;unfold zwL at h;split at h;{obtain⟨e,rfl,rfl⟩:=zon h;obtain⟨N,c⟩:=zZq _ _ _ _ (by exact d) e;exact⟨rfl,_,N,12,(z1E N _ _ _ _ ).trans c⟩};{cases h}
def zZI:zdR:=[(239,[true,true,true,true],zwL)]++zZH
theorem zbs:zcI zZI:=zeI zPl (by
 intro x a;simp only[qH,qY,or_false]at a;rcases a with rfl
 .exact zT3)
def z0g:zfS:=[(264,[true,true,true,true,false,false,false],some (1,1,[[0],[1],[2],[4],[7]]),zs3)]++zVW
theorem zx4:zeL z0g:=zpm zDK (by
 intro x a;simp only[qH,qY,or_false]at a;rcases a with rfl
 .exact zKZ)
theorem zZg {h:Host}(b:zbP h=true):h.Memory.length=12:=by unfold zbP at b;simp only[zdo]at b;have a:=b.1;unfold zlu at a;simp only[zdo]at a;have:ln h.Memory=12:=qD a.2;simp only[ln] at this;omega
theorem ziw {h:Host}(a:zbP h=true):∀x∈h.Mons,zfP x=true:=by unfold zbP at a;simp only[zdo]at a;exact zyI _ _ a.2.2.2.2
theorem zIk {x:Mon}(a:zfP x=true):ShM x:=by have e:=zsI (zn9 a);unfold zfP at a;simp only[zdo]at a;have b:ln x.Tables=ln x.Guests:=qD a.2.1;have c:ln x.Out=8:=qD a.2.2.2.1;have d:ln x.Dirty=8:=qD a.2.2.2.2.1;simp only[ln] at *;exact⟨by omega,by omega,by omega,by omega⟩
theorem ze9 {h:Host}(b:SmH h)(a:zbP h=true):Fit h:=by refine⟨⟨b,λx c=>zIk (ziw a x c)⟩,by rw[zZg a];decide,?_⟩;unfold zbP at a;simp only[zdo]at a;have:=zT8 _ _ rfl a.2.2.2.2;omega
theorem ztC {x:Mon}(b:zfP x=true){p:Int}(c:hasB p 8=true):SlotFit (ix x.Outer p sZ):=by have a:=zn9 b;unfold zeg at a;simp only[zdo]at a;exact zZ6 (qQ.1 a.1 _<|zbz (zdX (zIk b).1 c) _)
theorem zWH {h:Host}{m p:Int}(a:Fit h)(c:hasB m (ln h.Mons)=true):Fit (zb1 h m p):=by refine⟨zoU a.1 c,a.2.1,?_⟩;obtain⟨k,rfl,b⟩:=zd8 (n:=h.Mons.length) c;have:=zWs h.Mons k (ix h.Mons (k:Int) mZ) {ix h.Mons (k:Int) mZ with Dirty:=up (ix h.Mons (k:Int) mZ).Dirty p true} (by rw[zX b];exact qB b);have d:=a.2.2;unfold zb1;simp only[up,kC];dsimp only at this;simp only[up] at this;omega
abbrev gZ:Guest:=Ty.dflt .guest
@[simp] abbrev zcV (h:Host)(m:Int):Bool:=pc (zdJ h)
@[simp] abbrev zcz (h:Host)(m:Int):Mon:=bif hasB m (ln h.Mons) then ix h.Mons m mZ else mZ
@[simp] abbrev zmJ (h:Host)(m:Int):Bool:=hasB m (ln h.Mons)
def zGf:Run:=rF2 dH dI λb c=>(zcV b c,[aT .mon<|zcz b c,aB<|zmJ b c])
def zPX (N:Nat)(a:Host)(b:Int):OA:=
 let c:=ix a.Mons b zh; (oN (zZ b<|ln a.Mons)<|cond (nB<|zbH b<|ln a.Mons) (some [aT .mon (⟨[],[],[],[],[],0,0,[],0⟩:Mon),aB false])<|oN (inb b<|ln a.Mons)<|oN (zl2 c)<|some [aT .mon<|zmK c,aB true])
theorem zWT (a:Host)(b:Int)(d:zcV a b=true):∃N,zPX N a b=some [aT .mon<|zcz a b,aB<|zmJ a b]:=by
 have e:=(zJ a).1 (zB.1 d);refine⟨0,?_⟩;unfold zPX zcz zmJ oN nB;conv=>zeta
 refine must rfl ?_;rw[show zbH b (ln a.Mons)=hasB b (ln a.Mons) from rfl];cases c:hasB b (ln a.Mons);{rfl};{exact zbA rfl (must (zy c) (must (zbp<|e.2.1.2 _<|zbz c _) rfl))}
theorem zRg:vF 160 zGf:=kF2 zi3 zl zbs zx4 (zq []) zWT
def zcn (h:Host)(m g:Int):Bool:=bif zbP h then (cond (hasB m<|ln h.Mons) (hasB g<|ln (ix h.Mons m mZ).Guests) false) else false
@[simp] abbrev zcY (h:Host)(m g:Int):Bool:=pc (zdJ h)
@[simp] abbrev zk5 (h:Host)(m g:Int):Bool:=zcn h m g
def zGk:Run:=rF3 dH dI dI λb c d=>(zcY b c d,[aB<|zk5 b c d])
def zQi (N:Nat)(a:Host)(b c:Int):OA:=
 let d:=wsub .i64 (ln (ix a.Mons b zh).Guests) 1; (oN (zb2 a)<|cond (zb0 a) (oN (zD b 0<|wsub .i64 (ln a.Mons) 1)<|cond (zk b 0<|wsub .i64 (ln a.Mons) 1) (oN (inb b<|ln a.Mons)<|oN (zD c 0 d)<|some [aB<|zk c 0 d]) oF) oF)
theorem zXb (a:Host)(b c:Int)(f:zcY a b c=true):∃N,zQi N a b c=some [aB<|zk5 a b c]:=by
 have e:=(zJ a).1 (zB.1 f);refine⟨0,?_⟩;unfold zQi zk5 zcn oN;conv=>zeta
 refine must rfl ?_;rw[show zb0 a=zbP a from rfl];cases g:zbP a;{rfl};{rw [show zk b 0 (wsub .i64 (ln a.Mons) 1)=hasB b (ln a.Mons) from zrv e.2.1.1 b];refine must rfl (must rfl ?_);cases d:hasB b (ln a.Mons);{rfl};{have hg:(ix a.Mons b mZ).Guests.length<=1048576:=(e.2.1.2 _<|zbz d _).2.2.2.1.1;rw[show zk c 0 (wsub .i64 (ln (ix a.Mons b zh).Guests) 1)=hasB c (ln (ix a.Mons b mZ).Guests) from zrv hg c];exact must rfl (must (zy d) (must rfl rfl))}}
theorem zRC:vF 254 zGk:=kF3 zi3 zl zbs zx4 (zq []) zXb
def zjc (h:Host)(m:Int):Nat->Nat->List (List Int)
 | 0,_=>[]
 |n+1,i=>zjb h m (i:Int)::zjc h m n (i+1)
theorem zyY (h:Host)(m:Int):∀(n i:Nat),(zjc h m n i).length=n
 | 0,_=>rfl
 |n+1,i=>by simp[zjc,zyY h m n]
def zS (h:Host)(m:Int):Bare:=bif hasB m (ln h.Mons) then ⟨zjc h m 8 0,(ix h.Mons m mZ).Guests,(ix h.Mons m mZ).Outs,(ix h.Mons m mZ).Pending⟩ else ⟨[],[],[],0⟩
theorem zQC {c:Type}(h:Host)(m:Int)(K:List (List Int)->Option c):∀(n i:Nat) (a:List (List Int)),a.length+n<=2147483648->
 goN (λi a b=>bif few (ln<|ap a [zjb h m (i:Int)]) then b (ap a [zjb h m (i:Int)]) else none) K n i a=K (a++zjc h m n i)
 | 0,_,a,_=>by simp[goN,zjc]
 |n+1,i,a,d=>by simp only[goN,zjc];rw[zev (by simp[ap];omega),cT,zQC h m K n (i+1) _ (by simp[ap];omega)];simp[ap]
@[simp] abbrev zdT (h:Host)(m:Int):Bare:=zS h m
def z5l:zY:=[(160,zGf),(254,zGk)]++zrJ
theorem zTL:zK z5l:=zf zRg (zf zRC zi3)
def zCZ:Run:=rF2 dH dI λb c=>(zcV b c,[aT .bare<|zdT b c])
def zIX (N:Nat)(b:Host)(c:Int):OA:=
 (oN (zcV b c)<|cond (nB<|zmJ b c) (some [aT .bare (⟨[],[],[],0⟩:Bare)])<|iter (σ:=(Int×Int×Int×Int×lM×lN×lE×lE×lM×lG×(List Int)×lM×lG×(List Int)×Unit)) N (λh a=>let g:=a.2.2.2.2.2.2.2.2.2.2.2.2.1;let f:=a.2.2.2.2.2.2.2.2.2.2.2.2.2.1;let d:=(⟨a.2.2.2.2.1,a.2.2.2.2.2.1,a.2.2.2.2.2.2.1,a.2.2.2.2.2.2.2.1⟩:Host);let e:=ap a.2.2.2.2.2.2.2.2.2.2.2.1 [zyK d a.1 a.2.1]; (cond (ilt a.2.1 8) (oN (zyL d a.1 a.2.1)<|oN (few<|ln e)<|h (a.1,zG .i64 a.2.1 1,a.2.2.1,a.2.2.2.1,a.2.2.2.2.1,a.2.2.2.2.2.1,a.2.2.2.2.2.2.1,a.2.2.2.2.2.2.2.1,a.2.2.2.2.2.2.2.2.1,a.2.2.2.2.2.2.2.2.2.1,a.2.2.2.2.2.2.2.2.2.2.1,e,g,f,()))<|some [aT .bare (⟨a.2.2.2.2.2.2.2.2.2.2.2.1,g,f,a.2.2.2.1⟩:Bare)])) (c,0,0,(zcz b c).Pending,b.Memory,b.Mons,b.Buffer,b.IoBuffer,[],[],[],[],(zcz b c).Guests,(zcz b c).Outs,()))
def zV6:=zq [(146,0,{n:=39,tm:=[(1,ti),(2,.lp 0 0),(4,.lp 1 0),(7,.lp 2 0),(8,ti)],lo:=[(0,[.sl 0 [],.sl 1 [],.sl 2 [],.sl 3 []]),(1,[.sl 4 [],.sl 5 [],.sl 6 [],ti]),(2,[.sl 7 [],.sl 8 [],.sl 9 [],ti])],ro:=[(0,.sl .int,false),(1,.mon,false),(2,.entry,false),(3,.entry,false),(4,.sl .int,true),(5,.guest,true),(6,.int,true),(7,.sl .int,true),(8,.guest,true),(9,.int,true)]})]
theorem zUx (a:Host)(b:Int)(f:zcV a b=true):∃N,zIX N a b=some [aT .bare<|zdT a b]:=by
 have e:=zB.1 f;refine zbG λN d=>?_;unfold zIX zdT zS oN nB;conv=>zeta
 refine must (zbp e) ?_;rw[show zmJ a b=hasB b (ln a.Mons) from rfl];cases g:hasB b (ln a.Mons);{rfl};{refine zbA rfl ?_;refine(zyO 8 (λi (t:lM)=>(b,(i:Int),0,(zcz a b).Pending,a.Memory,a.Mons,a.Buffer,a.IoBuffer,[],[],[],t,(zcz a b).Guests,(zcz a b).Outs,())) _ (λi (c:List (List Int)) j=>bif few (ln<|ap c [zjb a b (i:Int)]) then j (ap c [zjb a b (i:Int)]) else none) (λ(t:lM)=>some [.agg<|Ty.cells .bare (⟨t,(zcz a b).Guests,(zcz a b).Outs,(zcz a b).Pending⟩:Bare)]) (λi h t rec=>?_) (λt rec=>?_) _ ([])<|d (by decide)).trans ?_;{simp only [show ilt (i:Int) 8=true from qL (by omega),zV h (show 8<=big by decide),cT];exact must (zbp e) rfl};{simp only [show ilt ((8:Nat):Int) 8=false from qI (by omega),cF]};rw[zQC a b _ 8 0 [] (by decide)];simp only[zcz,g,cT,jM]}
theorem zNw:vF 146 zCZ:=kF2 zTL zl zbs zx4 zV6 zUx
theorem zXi:zdB zzh=true:=by decide
theorem zXV {p:Nat->Bool}:∀{n i q:Nat},zuf p n i=true->i<=q->q<i+n->p q=true
 | 0,i,q,_,a,b=>by omega
 |n+1,i,q,h,a,b=>by simp only[zuf,qE]at h;by_cases c:i=q;{subst c;exact h.1};{exact zXV h.2 (by omega) (by omega)}
theorem z1N {h:Host}{m:Int}(e:zbP h=true)(l:hasB m (ln h.Mons)=true){p:Int}(j:hasB p 8=true):zdB (zjb h m p)=true:=by have i:=ziw e _ (zbz l mZ);have s:=zIk i;have f:h.Memory.all zdB=true:=(by unfold zbP at e;simp only[zdo]at e;have b:=e.1;unfold zlu at b;simp only[zdo]at b;exact b.1);unfold zjb;rw[l,j];simp only[cT];have t:ze3 (ix h.Mons m mZ).Outer p=ix (ix h.Mons m mZ).Outer p sZ:=(by unfold ze3;rw[zdX s.1 j];rfl);rw[t];have d:∀(g:List (List Int)) (q:Int),(hasB q (ln g)=true->zdB (ix g q [])=true)->zdB (zkQ g q)=true:=(by intro g q k;unfold zkQ;cases b:hasB q (ln g);{exact zXi};{exact k b});cases c:ine (ix (ix h.Mons m mZ).Outer p sZ).Page (-1);{refine d _ _ (λk=>?_);obtain⟨q,rfl,u⟩:=zd8 (n:=8) j;have a:fits (ix h.Mons m mZ) q=true:=(by unfold zfP at i;simp only[zdo]at i;exact zXV i.2.2.2.2.2.2.2.2.2.2 (by omega) (by omega));unfold fits zt0 at a;have r:zdP (ix (ix h.Mons m mZ).Outer (q:Int) sZ) noSlot=true:=(by rw[(ztC (ziw e _<|zbz l mZ) j).no];rw[zjE]at c;cases b:ieq (ix (ix h.Mons m mZ).Outer (q:Int) sZ).Page (-1);{rw [b]at c;cases c};{rfl});rw[r]at a;exact a};{exact d _ _ (λk=>qQ.1 f _ (zbz k _))}
theorem zQQ {h:Host}{m:Int}(a:zbP h=true)(b:hasB m (ln h.Mons)=true):∀(n i:Nat),i+n<=8->(zjc h m n i).all zdB=true
 | 0,_,_=>rfl
 |n+1,i,c=>by simp only[zjc,kW,qE];exact⟨z1N a b<|qL (by omega),zQQ a b n (i+1) (by omega)⟩
theorem zrG {h:Host}{m:Int}(c:zbP h=true)(b:hasB m (ln h.Mons)=true):zb7 (zS h m)=true:=by have a:=ziw c _ (zbz b mZ);unfold zfP at a;simp only[zdo]at a;unfold zS zb7 zlu;rw[b];simp only[cT,a.2.2.2.2.2.2.2.2.2.1,zQQ c b 8 0 (by decide),ln,zyY];simp only[ln]at a;rw[a.1,a.2.2.2.2.2.1,a.2.2.2.2.2.2.1];rfl
def zop:zY:=[(146,zCZ)]++z5l
theorem zi4:zK zop:=zf zNw zTL
def zeT (l:List Mon):List (List Guest):=l.map λx=>x.Guests
theorem zyE {l:List Mon}{m:Int}{x:Mon}(b:hasB m (ln l)=true)(c:x.Guests=(ix l m mZ).Guests):zeT (up l m x)=zeT l:=by obtain⟨k,rfl,a⟩:=zd8 (n:=l.length) b;unfold zeT up;rw[List.map_set,kC,c,zX a];have:=@uT _ (l.map λx=>x.Guests) k (by simpa using a);simpa using this
theorem zJZ {l b:List Mon}(h:zeT b=zeT l)(m:Int):(ix b m mZ).Guests=(ix l m mZ).Guests:=by unfold zeT at h;have a:(b.map λx=>x.Guests)[m.toNat]?=(l.map λx=>x.Guests)[m.toNat]?:=(by rw[h]);rw[qO,qO]at a;unfold ix;simp only[kE];cases c:b[m.toNat]? <;> cases d:l[m.toNat]? <;> rw [c,d]at a<;>simp at a ⊢;exact a
theorem zyD {h:Host}{m p:Int}{s:Slot}(a:hasB m (ln h.Mons)=true):zeT (zeQ h m p s).Mons=zeT h.Mons:=by rw[(zhE h m p s).1];exact zyE a rfl
theorem z6W {h:Host}{m p:Int}(a:hasB m (ln h.Mons)=true):zeT (zg5 h m p).Mons=zeT h.Mons:=(zyD (h:=zhg h m p)<|zfm a).trans (zyE a rfl)
theorem z6V {h:Host}(b:Fit h):zeT (zeb h).Mons=zeT h.Mons:=by unfold zeb;cases a:ieq (ln<|zdl h) 0;{rfl};{exact z6W (zDD b a).1}
theorem zZe {h:Host}{m p:Int}(a:Fit h)(c:hasB m (ln h.Mons)=true):zeT (fetched h m p).Mons=zeT h.Mons:=by have b:=zrl a c;exact((zyD (h:=landing (zeb h) m p (ix (zdl<|zeb h) 0 0))<|zfm b).trans (zyE b rfl)).trans (z6V a)
theorem zTY {h:Host}{m p n:Int}(b:hasB m (ln h.Mons)=true):zeT (znp h m p n).Mons=zeT h.Mons:=by have a:zeT (zb1 h m p).Mons=zeT h.Mons:=zyE b rfl;unfold znp;cases ieq (wand .i64 n 2) 0;{unfold opened;cases ieq (wand .i64 (ix (ix (zb1 h m p).Mons m mZ).Outer p sZ).Rights 2) 0;{exact a};{exact(zyD (h:=zb1 h m p)<|zfm b).trans a}};{rfl}
theorem z1k {h:Host}{m p n:Int}(b:Fit h)(a:hasB m (ln h.Mons)=true)(c:hasB p 8=true):zeT (mended h m p n).Mons=zeT h.Mons:=by unfold mended;cases ieq (ix (ix h.Mons m mZ).Outer p sZ).Page (-1);{exact zTY a};{exact(zTY (zlU b a c).2).trans (zZe b a)}
theorem z8s {l a:List Mon}(h:zeT a=zeT l):a.length=l.length:=by have:=congrArg List.length h;simpa [zeT] using this
abbrev kZ:Kept:=Ty.dflt .kept
theorem z9C {x:Guest}(f:zd7 x=true){p n:Int}(d:zie x.Live p n=true):hasB (zde x.Live p n) 8=true:=by have g:zeg x.Live 4 8=true:=(by unfold zd7 at f;simp only[qE]at f;exact f.2.2.2.2.1);unfold zde;rw[d];simp only[cT];unfold zie at d;cases a:ieq (ze3 x.Live p).Page (-1);{unfold ze3 at a ⊢;cases e:hasB p (ln x.Live);{rw [e]at a;cases a};{rw [e]at a;simp only[cT]at a ⊢;unfold zeg at g;simp only[zdo]at g;have c:=qQ.1 g.1 _ (zbz e sZ);unfold zgv at c;cases b:zdP (ix x.Live p sZ) noSlot;{rw [b]at c;simp only[cF,zdo]at c;have:=ze4.1 c.2.1;rw[show wsub .i64 8 1=7 from rfl] at this;show hasB (ix x.Live p sZ).Page 8=true;exact qL (by omega)};{unfold zdP at b;rw[qE]at b;have:(ix x.Live p sZ).Page = -1:=qD b.1;rw[show ieq (ix x.Live p zT).Page (-1)=true from qL this]at a;cases a}}};{rw [a]at d;cases d}
def zea (h:Host)(m g:Int):List Slot:=(ix (ix h.Mons m mZ).Guests g gZ).Live
def zdn (h:Host)(m g:Int):Kept:=ix (ix h.Mons m mZ).Tables g kZ
def ztl (h:Host)(a:Bool):List Entry:=bif a then h.IoBuffer else h.Buffer
def zuq (b:List Entry)(m g a:Int):Option Entry:=zJO b (ziu m g) a
def zl1 (b:List Entry)(m g a c:Int):Bool:=bif (zuq b m g a).isSome then enough ((zuq b m g a).getD ⟨0,0,0,0⟩).Rights c else false
def zfM (h:Host)(m g a b:Int):Bool:=bif zp0 (zdn h m g) a then (cond (ieq (zgP (zdn h m g) a).Page<|-1) true<|!enough (zgP (zdn h m g) a).Rights b) else true
def zdD (h:Host)(m g a:Int):Host:={h with Mons:=up h.Mons m {ix h.Mons m mZ with Tables:=up (ix h.Mons m mZ).Tables g (filled (zdn h m g) (zea h m g) (ix h.Mons m mZ).Outer a)}}
def z5v (h:Host)(m g a:Int):Entry:=⟨ziu m g,a,(zgP (zdn h m g) a).Page,(zgP (zdn h m g) a).Rights⟩
def zS4 (h:Host)(m g a:Int)(b:Bool):Host:=bif b then {h with IoBuffer:=zIo h.IoBuffer (z5v h m g a)} else {h with Buffer:=zIo h.Buffer (z5v h m g a)}
def zf5 (h:Host)(m g a:Int)(b:Bool):Host×Int×Bool:=(zS4 h m g a b,(zgP (zdn h m g) a).Page,true)
def zjX (h:Host)(b:List Entry)(m g a c q:Int)(d:Bool):Host×Int×Bool :=
 bif zl1 b m g a c then (h,((zuq b m g a).getD ⟨0,0,0,0⟩).Host,true)
 else (cond (zfM h m g a c) (zf5 (zdD (mended h m q c) m g a) m g a d)<|zf5 h m g a d)
def zi9 (a:Int):Bool:=bif ieq a 1 then true else ieq a 2
def zb8 (h:Host)(m g page a:Int):Bool:=bif zcn h m g then (cond (zi9 a) (zie (zea h m g) page a) false) else false
def lookOf (h:Host)(b:List Entry)(m g page need:Int)(io:Bool):Host×Int×Bool :=
 bif zb8 h m g page need then zjX (cond (ieq need 2) (zb1 h m<|zde (zea h m g) page need) h) b m g page need (zde (zea h m g) page need) io else (h,-1,false)
structure Kp (h r:Host):Prop where
 shape:Shape r
 gs:zeT r.Mons=zeT h.Mons
theorem Kp.has {h r:Host}(k:Kp h r){m:Int}(a:hasB m (ln h.Mons)=true):hasB m (ln r.Mons)=true:=by rw[ln,z8s k.gs];exact a
theorem zZ4 {h:Host}{m g c:Int}(d:Shape h)(e:hasB m (ln h.Mons)=true)(hg:hasB g (ln (ix h.Mons m mZ).Guests)=true):Shape (zdD h m g c):=by obtain⟨a,b⟩:=zcr d e;have f:hasB g (ln (ix h.Mons m mZ).Tables)=true:=(by rw[ln,b.2.2.2];exact hg);exact zkp d ⟨a.1,a.2.1,a.2.2.1,a.2.2.2.1,a.2.2.2.2.1,zt4 a.2.2.2.2.2<|zZ8<|a.2.2.2.2.2.2 _<|zbz f _⟩ ⟨b.1,b.2.1,b.2.2.1,by simpa using b.2.2.2⟩
theorem z1q {h r:Host}{m g a:Int}{i:Bool}(k:Kp h r):Kp h (zS4 r m g a i):=by obtain⟨⟨b,c,d,e⟩,f⟩:=k.shape;unfold zS4;cases i;{exact⟨⟨⟨b,c,(zy2 _ d).1,e⟩,f⟩,k.gs⟩};{exact⟨⟨⟨b,c,d,(zy2 _ e).1⟩,f⟩,k.gs⟩}
structure LookAt (h:Host) (m g q need:Int):Prop where
 fit:Fit h
 hm:hasB m (ln h.Mons)=true
 hg:hasB g (ln (ix h.Mons m mZ).Guests)=true
 hq:hasB q 8=true
 hn:need=1\/need=2
 hs:SlotFit (ix (ix h.Mons m mZ).Outer q sZ)
theorem LookAt.mend {h:Host}{m g q a:Int}(A:LookAt h m g q a):zTm h m q a:=⟨A.fit,A.hm,A.hq,A.hn,A.hs⟩
theorem LookAt.kp {h:Host}{m g q a:Int}(A:LookAt h m g q a):Kp h (mended h m q a):=⟨(zu9 A.fit A.hm A.hq).1,z1k A.fit A.hm A.hq⟩
theorem LookAt.fill {h:Host}{m g q a:Int}(A:LookAt h m g q a)(b:Int):Kp h (zdD (mended h m q a) m g b):=by have k:=A.kp;have hg:hasB g (ln (ix (mended h m q a).Mons m mZ).Guests)=true:=(by rw[zJZ k.gs];exact A.hg);have e:zeT (zdD (mended h m q a) m g b).Mons=zeT (mended h m q a).Mons:=zyE (k.has A.hm) rfl;exact⟨zZ4 k.shape (k.has A.hm) hg,e.trans k.gs⟩
theorem zUg {h:Host}{b:List Entry}{m g page a q:Int}{io:Bool}(A:LookAt h m g q a):Kp h (zjX h b m g page a q io).1:=by unfold zjX;cases zl1 b m g page a;{cases zfM h m g page a;{exact z1q ⟨A.fit.1,rfl⟩};{exact z1q (A.fill page)}};{exact⟨A.fit.1,rfl⟩}
theorem zdc {h:Host}{m g:Int}(a:zcn h m g=true):zbP h=true/\hasB m (ln h.Mons)=true/\hasB g (ln (ix h.Mons m mZ).Guests)=true:=by unfold zcn at a;simp only[zdo]at a;exact a
theorem zZf {h:Host}{m g:Int}(e:zcn h m g=true):zd7 (ix (ix h.Mons m mZ).Guests g gZ)=true:=by obtain⟨b,c,d⟩:=zdc e;have a:=ziw b _ (zbz c mZ);unfold zfP at a;simp only[zdo]at a;exact qQ.1 a.2.2.2.2.2.2.2.2.2.1 _ (zbz d _)
theorem zLL {n:Int}(h:zi9 n=true):n=1\/n=2:=by unfold zi9 at h;cases a:ieq n 1;{rw [a]at h;exact .inr (qD h)};{exact .inl (qD a)}
theorem zCM {h:Host}{m g page a:Int}(s:SmH h)(d:zb8 h m g page a=true) :
 LookAt h m g (zde (zea h m g) page a) a/\LookAt (zb1 h m<|zde (zea h m g) page a) m g (zde (zea h m g) page a) a:=by
 unfold zb8 at d;simp only[zdo]at d;obtain⟨l,p,r⟩:=d;obtain⟨i,b,j⟩:=zdc l;have f:hasB (zde (zea h m g) page a) 8=true:=z9C (zZf l) r;have c:=ztC (ziw i _<|zbz b mZ) f;have q:=ze9 s i;refine⟨⟨q,b,j,f,zLL p,c⟩,⟨zWH q b,zfm b,?_,f,zLL p,?_⟩⟩
 .have e:zeT (zb1 h m<|zde (zea h m g) page a).Mons=zeT h.Mons:=zyE b rfl;rw[zJZ e];exact j
 .obtain⟨k,rfl,hk⟩:=zd8 (n:=h.Mons.length) b;unfold zb1;rw[zdE hk];exact c
theorem ztX {h:Host}{b:List Entry}{m g page need:Int}{io:Bool}(a:SmH h)(f:zcn h m g=true):Kp h (lookOf h b m g page need io).1:=by have d:=ze9 a (zdc f).1;unfold lookOf;cases c:zb8 h m g page need;{exact⟨d.1,rfl⟩};{obtain⟨A,B⟩:=zCM a c;simp only[cT];cases ieq need 2;{exact zUg A};{have k:=zUg (b:=b) (page:=page) (io:=io) B;have e:zeT (zb1 h m<|zde (zea h m g) page need).Mons=zeT h.Mons:=zyE A.hm rfl;exact⟨k.shape,k.gs.trans e⟩}}
def zlw (x:Host×Int×Bool):List AV:=[.agg<|zbb x.1,.one<|.i .i64 x.2.1,.one<|.b x.2.2]
theorem ziU {h:Host}{b:List Entry}{m g c a:Int}{e:Bool}(d:zb8 h m g c a=false):lookOf h b m g c a e=(h,-1,false):=by unfold lookOf;rw[d];rfl
theorem zpy {h:Host}{m g b a:Int}(c:zcn h m g=false):zb8 h m g b a=false:=by unfold zb8;rw[c];rfl
theorem zM4 {h:Host}{m g:Int}(a:zbP h=false):zcn h m g=false:=by unfold zcn;rw[a];rfl
theorem zM5 {h:Host}{m g:Int}(a:hasB m (ln h.Mons)=false):zcn h m g=false:=by unfold zcn;rw[a];cases zbP h<;>rfl
theorem zM6 {h:Host}{m g:Int}(a:hasB g (ln (ix h.Mons m mZ).Guests)=false):zcn h m g=false:=by unfold zcn;rw[a];cases zbP h<;>cases hasB m (ln h.Mons)<;>rfl
theorem zM7 {h:Host}{m g:Int}(a:zbP h=true)(b:hasB m (ln h.Mons)=true)(c:hasB g (ln (ix h.Mons m mZ).Guests)=true):zcn h m g=true:=by unfold zcn;rw[a,b,c];rfl
structure LookF (r:Host) (m g:Int):Prop where
 hm:hasB m (ln r.Mons)=true
 hg:hasB g (ln (ix r.Mons m mZ).Guests)=true
 ht:hasB g (ln (ix r.Mons m mZ).Tables)=true
 hk:SmK (zdn r m g)
 hb:r.Buffer.length<=1048576
 hi:r.IoBuffer.length<=1048576
theorem zno {h r:Host}{m g:Int}(k:Kp h r)(b:hasB m (ln h.Mons)=true)(hg:hasB g (ln (ix h.Mons m mZ).Guests)=true):LookF r m g:=by obtain⟨d,e⟩:=zcr k.shape (k.has b);have a:hasB g (ln (ix r.Mons m mZ).Guests)=true:=(by rw[zJZ k.gs];exact hg);have c:hasB g (ln (ix r.Mons m mZ).Tables)=true:=(by rw[ln,e.2.2.2];exact a);exact⟨k.has b,a,c,d.2.2.2.2.2.2 _<|zbz c _,k.shape.1.2.2.1,k.shape.1.2.2.2⟩
@[simp] abbrev zmb (h:Host)(b:List Entry)(m g c a:Int)(d:Bool):Bool:=pc (zdJ h)
@[simp] abbrev zgd (h:Host)(b:List Entry)(m g page need:Int)(io:Bool):Host:=(lookOf h b m g page need io).1
@[simp] abbrev zma (h:Host)(b:List Entry)(m g c a:Int)(d:Bool):Int:=(lookOf h b m g c a d).2.1
@[simp] abbrev ziJ (h:Host)(b:List Entry)(m g c a:Int)(d:Bool):Bool:=(lookOf h b m g c a d).2.2
def zs5:List AV->Option (Bool×List AV)
 |[.agg [.s (.sl .int) c,.s .mon d,.s .entry e,.s .entry f],.one<|.s .entry g,.one<|.i .i64 h,.one<|.i .i64 j,.one<|.i .i64 k,.one<|.i .i64 l,.one<|.b m]=>some (zmb (⟨c,d,e,f⟩:Host) g h j k l m,[aH<|zgd (⟨c,d,e,f⟩:Host) g h j k l m,aI<|zma (⟨c,d,e,f⟩:Host) g h j k l m,aB<|ziJ (⟨c,d,e,f⟩:Host) g h j k l m])
 |_=>none
abbrev zQ7 (b:lM)(c:lN)(d:lE)(e:lE)(a:Int)(g:Int)(f:Int):Mon :=
 (ix (zf2 (⟨b,c,d,e⟩:Host) a g f).Mons a zh)
abbrev zQ8 (a:Host)(b c:Int)(d e:Int):Int :=
 (zdG (ix (ix a.Mons b zh).Guests c zu).Live d e)
def zMP (N:Nat)(a:Int)(b:lM)(c:lN)(d:lE)(e:lE):OA:=
 (some [aH (⟨b,c,d,e⟩:Host),aI a,aB true])
def zq2 (N:Nat)(l:Int)(m:Bool)(n:Int)(c:Int)(d:Int)(k:lM)(e:lN)(a:lE)(b:lE)(f:lM)(g:lN)(h:lE)(i:lE):OA:=
 let q:=(⟨n,l,c,d⟩:Entry); (share (λ(j:(Int×Int×lM×lN×lE×lE×lM×lN×lE×lE×Unit))=>zMP N j.1 j.2.2.1 j.2.2.2.1 j.2.2.2.2.1 j.2.2.2.2.2.1) λp=>cond m (oN (zjr b q)<|p (c,d,k,e,a,zis b q,f,g,h,i,()))<|oN (zjr a q)<|p (c,d,k,e,zis a q,b,f,g,h,i,()))
def zsQ (N:Nat)(d:lM)(e:lN)(f:lE)(g:lE)(b:Int)(i:Int)(h:Int)(a:Int)(c:Int)(y:(Int×Bool×Int×Int×Int×Int×Int×Int×Int×lM×lN×lE×lE×lM×lN×lE×lE×Unit)->OA)(r:Bool)(s:Int)(t:Int)(u:Int)(v:Int)(k:Int)(l:lM)(m:lN)(n:lE)(p:lE):OA:=
 let D:=(⟨d,e,f,g⟩:Host);let w:=zf2 D b i h;let x:=inb b<|ln w.Mons;let j:=zQ7 d e f g b i h;let C:=ix j.Tables a zdC;let A:=(ix j.Guests a zu).Live; (oN (zhw D b i h)<|oN x<|oN x<|oN (inb a<|ln j.Tables)<|oN x<|oN (inb a<|ln j.Guests)<|oN x<|oN (zu4 C A j.Outer c)<|oN (inb a<|ln j.Tables)<|share (up w.Mons b ({j with Tables:=(up j.Tables a<|zu3 C A j.Outer c)}:Mon)) (λq=>let B:=(ix q b zh).Tables;let z:=ix B a zdC; (oN (inb b<|ln q)<|oN (inb a<|ln B)<|oN (zcx z c)<|y (c,r,s,t,u,v,k,(zjM z c).Page,(zjM z c).Rights,w.Memory,q,w.Buffer,w.IoBuffer,l,m,n,p,()))))
def znb (N:Nat)(d:Int)(e:Int)(c:Int)(n:Int)(p:Bool)(v:Int)(q:Int)(r:Int)(s:Int)(t:Int)(f:Int)(g:lM)(b:lN)(h:lE)(i:lE)(j:lM)(k:lN)(l:lE)(m:lE):OA:=
 let z:=(ix b d zh).Tables;let x:=ix z e zdC;let w:=zjM x c; (oN (inb d<|ln b)<|oN (inb e<|ln z)<|oN (zcx x c)<|share (λ(a:(Int×Bool×Int×Int×Int×Int×Int×Int×Int×lM×lN×lE×lE×lM×lN×lE×lE×Unit))=>zq2 N a.1 a.2.1 a.2.2.1 a.2.2.2.2.2.2.2.1 a.2.2.2.2.2.2.2.2.1 a.2.2.2.2.2.2.2.2.2.1 a.2.2.2.2.2.2.2.2.2.2.1 a.2.2.2.2.2.2.2.2.2.2.2.1 a.2.2.2.2.2.2.2.2.2.2.2.2.1 a.2.2.2.2.2.2.2.2.2.2.2.2.2.1 a.2.2.2.2.2.2.2.2.2.2.2.2.2.2.1 a.2.2.2.2.2.2.2.2.2.2.2.2.2.2.2.1 a.2.2.2.2.2.2.2.2.2.2.2.2.2.2.2.2.1) (λu=>let y:=zsQ N g b h i d v n e c u p q r s t f j k l m; (cond (nB<|zpB x c) y<|cond (ieq w.Page<|-1) y<|oN (zZ w.Rights n)<|cond (nB<|zcW w.Rights n) y<|u (c,p,q,r,s,t,f,w.Page,w.Rights,g,b,h,i,j,k,l,m,()))))
def zsR (N:Nat)(g:Int)(a:Host)(h e f:Int)(l:lE)(n:Bool):OA:=
 let i:=zk1 g h;let k:=zQ8 a g h e f;let m:=ix a.Mons g zh;let s:=(ix m.Guests h zu).Live;let d:=zgH l i e;let j:=d.Rights; (oN (inb g<|ln a.Mons)<|oN (inb h<|ln m.Guests)<|oN (zew s e f)<|cond (nB<|zc7 s e f) (some [aH a,aI<|-1,aB false])<|oN (zhQ g h)<|cond (ieq f 2) (oN (inb g<|ln a.Mons)<|oN (inb k<|ln m.Dirty)<|share (up a.Mons g ({m with Dirty:=(up m.Dirty k true)}:Mon)) λp=>oN (zia l i e)<|share (λ(c:(Int×Int×Int×Int×Bool×Int×Int×Int×Int×Int×Int×lM×lN×lE×lE×lM×lN×lE×lE×Unit))=>znb N c.1 c.2.1 c.2.2.1 c.2.2.2.1 c.2.2.2.2.1 c.2.2.2.2.2.1 c.2.2.2.2.2.2.1 c.2.2.2.2.2.2.2.1 c.2.2.2.2.2.2.2.2.1 c.2.2.2.2.2.2.2.2.2.1 c.2.2.2.2.2.2.2.2.2.2.1 c.2.2.2.2.2.2.2.2.2.2.2.1 c.2.2.2.2.2.2.2.2.2.2.2.2.1 c.2.2.2.2.2.2.2.2.2.2.2.2.2.1 c.2.2.2.2.2.2.2.2.2.2.2.2.2.2.1 c.2.2.2.2.2.2.2.2.2.2.2.2.2.2.2.1 c.2.2.2.2.2.2.2.2.2.2.2.2.2.2.2.2.1 c.2.2.2.2.2.2.2.2.2.2.2.2.2.2.2.2.2.1 c.2.2.2.2.2.2.2.2.2.2.2.2.2.2.2.2.2.2.1) λr=>cond (zfR l i e) (oN (zZ j f)<|cond (zcW j f) (some [aH ({a with Mons:=p}:Host),aI d.Host,aB true])<|r (g,h,e,f,n,k,i,d.Tag,d.Page,d.Host,j,a.Memory,p,a.Buffer,a.IoBuffer,[],[],[],[],()))<|r (g,h,e,f,n,k,i,d.Tag,d.Page,d.Host,j,a.Memory,p,a.Buffer,a.IoBuffer,[],[],[],[],()))<|oN (zia l i e)<|share (λ(b:(Int×Int×Int×Int×Bool×Int×Int×Int×Int×Int×Int×lM×lN×lE×lE×lM×lN×lE×lE×Unit))=>znb N b.1 b.2.1 b.2.2.1 b.2.2.2.1 b.2.2.2.2.1 b.2.2.2.2.2.1 b.2.2.2.2.2.2.1 b.2.2.2.2.2.2.2.1 b.2.2.2.2.2.2.2.2.1 b.2.2.2.2.2.2.2.2.2.1 b.2.2.2.2.2.2.2.2.2.2.1 b.2.2.2.2.2.2.2.2.2.2.2.1 b.2.2.2.2.2.2.2.2.2.2.2.2.1 b.2.2.2.2.2.2.2.2.2.2.2.2.2.1 b.2.2.2.2.2.2.2.2.2.2.2.2.2.2.1 b.2.2.2.2.2.2.2.2.2.2.2.2.2.2.2.1 b.2.2.2.2.2.2.2.2.2.2.2.2.2.2.2.2.1 b.2.2.2.2.2.2.2.2.2.2.2.2.2.2.2.2.2.1 b.2.2.2.2.2.2.2.2.2.2.2.2.2.2.2.2.2.2.1) λq=>cond (zfR l i e) (oN (zZ j f)<|cond (zcW j f) (some [aH a,aI d.Host,aB true])<|q (g,h,e,f,n,k,i,d.Tag,d.Page,d.Host,j,a.Memory,a.Mons,a.Buffer,a.IoBuffer,[],[],[],[],()))<|q (g,h,e,f,n,k,i,d.Tag,d.Page,d.Host,j,a.Memory,a.Mons,a.Buffer,a.IoBuffer,[],[],[],[],()))
def zrz (N:Nat)(a:Host)(g:lE)(b c:Int)(h d:Int)(i:Bool):OA:=
 let f:=zsR N b a c h d g i;let e:=wsub .i64 (ln (ix a.Mons b zh).Guests) 1; (oN (zb2 a)<|cond (nB<|zb0 a) (some [aH a,aI<|-1,aB false])<|oN (zD b 0<|wsub .i64 (ln a.Mons) 1)<|cond (nB<|zk b 0<|wsub .i64 (ln a.Mons) 1) (some [aH a,aI<|-1,aB false])<|oN (inb b<|ln a.Mons)<|oN (zD c 0 e)<|cond (nB<|zk c 0 e) (some [aH a,aI<|-1,aB false])<|cond (ine d 1) (cond (ine d 2) (some [aH a,aI<|-1,aB false]) f) f)
def ztb:=zq [(265,999999,{n:=0,tm:=[],lo:=[],ro:=[]}),(265,1007023,{n:=210,tm:=[(2,ti),(3,ti),(4,ti),(5,ti),(6,.b),(7,.lp 0 0),(14,.lp 1 0),(17,ti),(19,ti),(20,.lp 2 0)],lo:=[(0,[.sl 0 [],.sl 1 [],.sl 2 [],.sl 3 []]),(1,[.sl 4 [],.sl 5 [],.sl 6 [],.sl 7 []]),(2,[ti,ti,ti,ti])],ro:=[(0,.sl .int,true),(1,.mon,true),(2,.entry,true),(3,.entry,true),(4,.sl .int,true),(5,.mon,true),(6,.entry,true),(7,.entry,true)],kr:=1}),(265,1009011,{n:=210,tm:=[(4,ti),(6,.b),(7,.lp 0 0),(14,.lp 1 0),(19,ti),(20,.lp 2 0),(22,.lp 3 0)],lo:=[(0,[.sl 0 [],.sl 1 [],.sl 2 [],.sl 3 []]),(1,[.sl 4 [],.sl 5 [],.sl 6 [],.sl 7 []]),(2,[ti,ti,ti,ti]),(3,[ti,ti])],ro:=[(0,.sl .int,true),(1,.mon,true),(2,.entry,true),(3,.entry,true),(4,.sl .int,true),(5,.mon,true),(6,.entry,true),(7,.entry,true)],kr:=1}),(265,1005003,{n:=210,tm:=[(7,.lp 0 0),(14,.lp 1 0),(22,.lp 2 0)],lo:=[(0,[.sl 0 [],.sl 1 [],.sl 2 [],.sl 3 []]),(1,[.sl 4 [],.sl 5 [],.sl 6 [],.sl 7 []]),(2,[ti,ti])],ro:=[(0,.sl .int,true),(1,.mon,true),(2,.entry,true),(3,.entry,true),(4,.sl .int,true),(5,.mon,true),(6,.entry,true),(7,.entry,true)],kr:=1})]
theorem zPf (N:Nat)(a:Host)(b c:Int)(d e:Int)(f:Bool):zS0 (cQ zop znW zZI z0g) ztb N 12 265 [true,true,true,true,false,false,false,false,false,false] [(4,2)] 1 1 [[0],[1],[2],[4],[7]] .mon [aH a,aS .entry a.Buffer,aI b,aI c,aI d,aI e,aB f]=zrz N a a.Buffer b c d e f:=by kernel_rfl
theorem zPg (N:Nat)(a:Host)(b c:Int)(d e:Int)(f:Bool):zS0 (cQ zop znW zZI z0g) ztb N 12 265 [true,true,true,true,false,false,false,false,false,false] [(4,3)] 1 1 [[0],[1],[2],[4],[7]] .mon [aH a,aS .entry a.IoBuffer,aI b,aI c,aI d,aI e,aB f]=zrz N a a.IoBuffer b c d e f:=by kernel_rfl
theorem zDs {N:Nat}{r:Host}{m g a:Int}{b:Bool}{z1 z2 z3 z4}(c:r.Buffer.length<=1048576)(d:r.IoBuffer.length<=1048576) :
 zq2 N a b (ziu m g) (zgP (zdn r m g) a).Page (zgP (zdn r m g) a).Rights r.Memory r.Mons r.Buffer r.IoBuffer z1 z2 z3 z4=some (zlw<|zf5 r m g a b):=by
 unfold zq2 oN
 conv=>zeta
 refine shr ?_;cases b
 .exact zbA rfl (must (zbp c) rfl)
 .exact must rfl (must (zbp d) rfl)
theorem zTS {N:Nat}{r:Host}{m g a b q:Int}{c:Bool}{R:OA}{r11}{u6 u7 u8 u9 u10 z1 z2 z3 z4}(A:LookAt r m g q b)(d:r11 (a,c,u6,u7,u8,u9,u10,(zgP (zdn (zdD (mended r m q b) m g a) m g) a).Page,(zgP (zdn (zdD (mended r m q b) m g a) m g) a).Rights,(zdD (mended r m q b) m g a).Memory,(zdD (mended r m q b) m g a).Mons,(zdD (mended r m q b) m g a).Buffer,(zdD (mended r m q b) m g a).IoBuffer,z1,z2,z3,z4,())=R) :
 zsQ N r.Memory r.Mons r.Buffer r.IoBuffer m q b g a r11 c u6 u7 u8 u9 u10 z1 z2 z3 z4=R:=by
 have M:=zno A.kp A.hm A.hg;have F:=zno (A.fill a) A.hm A.hg;unfold zsQ oN
 conv=>zeta
 exact must (zbp A.mend) (must (zy M.hm)<|must (zy M.hm)<|must (zy M.ht)<|must (zy M.hm)<|must (zy M.hg)<|must (zy M.hm)<|must (zbp M.hk)<|must (zy M.ht)<|shr<|must (zy F.hm)<|must (zy F.ht)<|must (zbp F.hk) d)
theorem zYr {r:Host}{m g a b:Int}(h:zp0 (zdn r m g) a=false):zfM r m g a b=true:=by unfold zfM;rw[h];rfl
theorem zYs {r:Host}{m g a b:Int}(h:ieq (zgP (zdn r m g) a).Page (-1)=true):zfM r m g a b=true:=by unfold zfM;rw[h];cases zp0 (zdn r m g) a<;>rfl
theorem zYt {r:Host}{m g a b:Int}(h:enough (zgP (zdn r m g) a).Rights b=false):zfM r m g a b=true:=by unfold zfM;rw[h];cases zp0 (zdn r m g) a<;>cases ieq (zgP (zdn r m g) a).Page (-1)<;>rfl
theorem zYu {r:Host}{m g a b:Int}(c:zp0 (zdn r m g) a=true)(d:ieq (zgP (zdn r m g) a).Page (-1)=false)(e:enough (zgP (zdn r m g) a).Rights b=true):zfM r m g a b=false:=by unfold zfM;rw[c,d,e];rfl
theorem ztY {r:Host}{m g a b q:Int}{c:Bool}(h:zfM r m g a b=true):(cond (zfM r m g a b) (zf5 (zdD (mended r m q b) m g a) m g a c)<|zf5 r m g a c)=zf5 (zdD (mended r m q b) m g a) m g a c:=by rw[h];rfl
theorem zYa {r:Host}{m g a b q:Int}{c:Bool}(h:zfM r m g a b=false):(cond (zfM r m g a b) (zf5 (zdD (mended r m q b) m g a) m g a c)<|zf5 r m g a c)=zf5 r m g a c:=by rw[h];rfl
theorem zDt {N:Nat}{r:Host}{m g a b q:Int}{f:Bool}{u7 u8 u9 u10 z1 z2 z3 z4}(A:LookAt r m g q b) :
 znb N m g a b f q (ziu m g) u7 u8 u9 u10 r.Memory r.Mons r.Buffer r.IoBuffer z1 z2 z3 z4=some (zlw<|cond (zfM r m g a b) (zf5 (zdD (mended r m q b) m g a) m g a f)<|zf5 r m g a f):=by
 have M:=zno ⟨A.fit.1,rfl⟩ A.hm A.hg;have F:=zno (A.fill a) A.hm A.hg;unfold znb oN nB
 conv=>zeta
 refine must (zy M.hm) (must (zy M.ht)<|must (zbp M.hk)<|shr<|brN (λc=>?_) λc=>br (λd=>?_) λd=>must rfl (brN (λe=>?_) λe=>?_))
 .rw [ztY<|zYr c];exact zTS A (zDs (r:=zdD (mended r m q b) m g a) (m:=m) (g:=g) F.hb F.hi)
 .rw [ztY<|zYs d];exact zTS A (zDs (r:=zdD (mended r m q b) m g a) (m:=m) (g:=g) F.hb F.hi)
 .rw [ztY<|zYt e];exact zTS A (zDs (r:=zdD (mended r m q b) m g a) (m:=m) (g:=g) F.hb F.hi)
 .rw [zYa<|zYu c d e];exact zDs (r:=r) (m:=m) (g:=g) M.hb M.hi
theorem zDw {b:List Entry}{m g a c:Int}(h:(zuq b m g a).isSome=false):zl1 b m g a c=false:=by unfold zl1;rw[h];rfl
theorem zps {b:List Entry}{m g a c:Int}{x:Bool}(d:(zuq b m g a).isSome=true)(h:enough ((zuq b m g a).getD ⟨0,0,0,0⟩).Rights c=x):zl1 b m g a c=x:=by unfold zl1;rw[d,h];rfl
theorem zpx {r:Host}{b:List Entry}{m g a c q:Int}{d:Bool}(h:zl1 b m g a c=false):zjX r b m g a c q d=bif zfM r m g a c then zf5 (zdD (mended r m q c) m g a) m g a d else zf5 r m g a d:=by unfold zjX;rw[h];rfl
theorem zDA {r:Host}{b:List Entry}{m g a c q:Int}{d:Bool}(h:zl1 b m g a c=true):zjX r b m g a c q d=(r,((zuq b m g a).getD ⟨0,0,0,0⟩).Host,true):=by unfold zjX;rw[h];rfl
theorem zIj {h:Host}{b:List Entry}{m g c a:Int}{d:Bool}(e:zb8 h m g c a=true):lookOf h b m g c a d=zjX (cond (ieq a 2) (zb1 h m<|zde (zea h m g) c a) h) b m g c a (zde (zea h m g) c a) d:=by unfold lookOf;rw[e];rfl
theorem z09 {N:Nat}{r:Host}{b:List Entry}{m g c a:Int}{f:Bool}(p:SmH r)(hg:zcn r m g=true)(k:zi9 a=true) :
 zsR N m r g c a b f=some (zlw (lookOf r b m g c a f)):=by
 obtain⟨q,h,l⟩:=zdc hg;unfold zsR oN nB
 conv=>zeta
 refine must (zy h) (must (zy l) (must rfl (brN (fun j=>?_) (fun j=>must rfl ?_))))
 .have:zb8 r m g c a=false:=by
   unfold zb8;rw[hg,k,show zie (zea r m g) c a=false from j];rfl
  rw[ziU this];rfl
 .have hl:zb8 r m g c a=true:=by
   unfold zb8;rw[hg,k,show zie (zea r m g) c a=true from j];rfl
  obtain⟨A,B⟩:=zCM p hl;rw[zIj hl];have n:hasB (zde (zea r m g) c a) (ln (ix r.Mons m mZ).Dirty)=true:=zdX (zcr A.fit.1 h).2.2.2.1 A.hq;refine br (fun i=>?_) (fun i=>?_)
  .rw [i]
   show _=some (zlw (zjX (zb1 r m (zde (zea r m g) c a)) b m g c a (zde (zea r m g) c a) f))
   refine must (zy h) (must (zy n) (shr (must rfl (shr (br (fun d=>must rfl (br (fun e=>?_) (fun e=>?_))) (fun d=>?_))))))
   .rw [zDA (zps d e)];rfl
   .rw [zpx (zps d e)];exact zDt (r:=zb1 r m (zde (zea r m g) c a)) B
   .rw [zpx (zDw d)];exact zDt (r:=zb1 r m (zde (zea r m g) c a)) B
  .rw [i]
   show _=some (zlw (zjX r b m g c a (zde (zea r m g) c a) f))
   refine must rfl (shr (br (fun d=>must rfl (br (fun e=>?_) (fun e=>?_))) (fun d=>?_)))
   .rw [zDA (zps d e)];rfl
   .rw [zpx (zps d e)];exact zDt A
   .rw [zpx (zDw d)];exact zDt A
theorem zSz (a:Host)(f:List Entry)(b c:Int)(e d:Int)(g:Bool)(t:zbt big [aH a,aS .entry f,aI b,aI c,aI e,aI d,aB g])(r:zmb a f b c e d g=true):∃N,zrz N a f b c e d g=some [aH<|zgd a f b c e d g,aI<|zma a f b c e d g,aB<|ziJ a f b c e d g]:=by
 have j:=(zJ a).1 (zB.1 r);refine⟨0,?_⟩;show _=some (zlw<|lookOf a f b c e d g);unfold zrz oN nB;conv=>zeta
 refine must rfl (brN (λk=>?_) λk=>must rfl ?_);{rw [ziU<|zpy<|zM4 k];rfl};rw[show zk b 0 (wsub .i64 (ln a.Mons) 1)=hasB b (ln a.Mons) from zrv j.2.1.1 b];refine brN (λi=>?_) (λi=>must (zy i) (must rfl ?_));{rw [ziU<|zpy<|zM5 i];rfl};have s:(ix a.Mons b mZ).Guests.length<=1048576:=(j.2.1.2 _<|zbz i _).2.2.2.1.1;rw[show zk c 0 (wsub .i64 (ln (ix a.Mons b zh).Guests) 1)=hasB c (ln (ix a.Mons b mZ).Guests) from zrv s c];refine brN (λl=>?_) (λl=>?_);{rw [ziU<|zpy<|zM6 l];rfl};have hg:=zM7 k i l;have p:∀{n:Int},zi9 n=false->zb8 a b c e n=false:=λ{n} h=>(by unfold zb8;rw[hg,h];rfl);rw[zjE,zjE];cases m:ieq d 1;{cases q:ieq d 2;{have:zi9 d=false:=(by unfold zi9;rw[m,q];rfl);rw[ziU<|p this];rfl};{exact z09 j hg (by unfold zi9;rw[m,q];rfl)}};{exact z09 j hg (by unfold zi9;rw[m];rfl)}
theorem zK2:zeK Tryz.prog 265 [true,true,true,true,false,false,false,false,false,false] (some (1,1,[[0],[1],[2],[4],[7]])) zs5:=by refine zM8 (kt:=.mon) (zhW zi4 zl zbs zx4) (zij (by kernel_rfl)) ?_;intro p s x f i w v h;have t:=zkC v;have g:p=[(4,2)]\/p=[(4,3)]:=(by rw[show zjQ 265=[[(4,2)],[(4,3)]] from by kernel_rfl]at f;simpa using f);unfold zs5 at h;split at h;{rename_i a b c d r j k l m n;obtain⟨u,rfl⟩:=zds h;obtain⟨N,q⟩:=zSz (⟨a,b,c,d⟩:Host) r j k l m n t u;refine⟨⟨_,rfl⟩,rfl,ztb,N,12,?_⟩;rcases g with rfl|rfl;{have e:=i 4 2 (by simp);simp only[zA,kA,AV.cvs] at e;cases e;exact(zPf N (⟨a,b,c,d⟩:Host) j k l m n).trans q};{have e:=i 4 3 (by simp);simp only[zA,kA,AV.cvs] at e;cases e;exact(zPg N (⟨a,b,c,d⟩:Host) j k l m n).trans q}};{cases h}
def z4d:zfS:=[(265,[true,true,true,true,false,false,false,false,false,false],some (1,1,[[0],[1],[2],[4],[7]]),zs5)]++z0g
theorem zh2:zeL z4d:=zpm zx4 (by
 intro x a;simp only[qH,qY,or_false]at a;rcases a with rfl
 .exact zK2)
end
end Go.Proofs.YtnnmbkjhakbicaaGreat.E
