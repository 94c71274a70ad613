/- What is proved here: a part of the proof that the statement of this claim holds (several texts of wip/, laid together). -/
import Derived.Test.YtjapbkodhfpbbaaGreatU5
import Derived.WalkKit
import Derived.Tactics2
import Derived.Deep.RegionWith
import Derived.Laws.Rows
namespace Go.Proofs.YtjapbkodhfpbbaaGreat.E
open Go
set_option linter.defProp false
set_option linter.constructorNameAsVariable false
set_option linter.unusedVariables false
set_option maxRecDepth 100000
set_option linter.unusedSimpArgs false
set_option linter.unusedSectionVars false
noncomputable section
def z9x:zbb:=[(161,zrW),(393,ztV)]++z1c
def zlp:zU z9x:=zi zvx (zi zwT zrD)
def zUO {a b:Bool}(h:(a=true)↔(b=true)):a=b:=by cases a<;>cases b<;>simp_all
@[simp] def zbc0 (x:Int):zk x 0 3=hasB x 4:=zUO (by rw[zfX];unfold hasB;rw[decide_eq_true_iff];omega)
@[simp] def zN9 (x:Int):zk x 0 7=hasB x 8:=zUO (by rw[zfX];unfold hasB;rw[decide_eq_true_iff];omega)
def ze0 (t:List Slot)(p:Int)(s:Slot):List Slot:=bif hasB p (ln t) then up t p s else t
@[simp] def zbc1 (t:List Slot)(p:Int)(s:Slot):(ze0 t p s).length=t.length:=by unfold ze0;cases hasB p (ln t)<;>simp
@[simp] abbrev zjn (t:List Slot)(p:Int)(s:Slot):Bool:=pc (t.length<=1048576)
@[simp] abbrev zg0 (t:List Slot)(p:Int)(s:Slot):List Slot:=ze0 t p s
def znY:Run:=rF3 (dS .slot) dI (dT .slot) λb c d=>(zjn b c d,[aS .slot<|zg0 b c d])
def zC1 (N:Nat)(a:lS)(b:Int)(c:Slot):OA:=
 (oN (few<|ln<|ap [] a)<|oN (zM b 0<|wsub .i64 (ln a) 1)<|cond (zk b 0<|wsub .i64 (ln a) 1) (oN (inb b<|ln<|ap [] a)<|share (up (ap [] a) b c) λd=>some [aS .slot d])<|some [aS .slot<|ap [] a])
def zQi (a:List Slot)(b:Int)(c:Slot)(d:zjn a b c=true):∃N,zC1 N a b c=some [aS .slot<|zg0 a b c]:=by have e:=zK.1 d;refine⟨0,?_⟩;unfold zC1 oN;refine mu (must rfl (br (λ_=>mu (shr ?_)) λ_=>?_));all_goals first|rfl|(simp only [*,zg0,ze0,cT,cF]<;>rfl)|simp_all[Ty.cells,zg0,ze0]
def zJb:vR 244 znY:=kF3 zlp zn zx zo (zq []) zQi
def zCA (N:Nat)(a:lS)(b:Int)(c:Slot):OA:=
 (oN (zhb a)<|oN (zbm b<|ln a)<|cond (zcj b<|ln a) (oN (inb b<|ln<|ze5 a)<|share (up (ze5 a) b c) λd=>some [aS .slot d])<|some [aS .slot<|ze5 a])
def zPU (a:List Slot)(b:Int)(c:Slot)(d:zjn a b c=true):∃N,zCA N a b c=some [aS .slot<|zg0 a b c]:=by have e:=zK.1 d;refine⟨0,?_⟩;unfold zCA oN;refine mu (must rfl (br (λ_=>mu (shr ?_)) λ_=>?_));all_goals first|rfl|(simp only [*,zg0,ze0,cT,cF]<;>rfl)|simp_all[Ty.cells,zg0,ze0]
def zIM:vR 307 znY:=kF3 zlp zn zx zo (zq []) zPU
def zh1 (p n:Int):Bool:=bif zeh p then zk n 0 7 else false
def zqe (p n:Int):Int:=bif zh1 p n then wor .i64 p (zms .i64 1 n) else p
def cv7 {n:Int}(h:hasB n 8=true):wcv .u64 n=n/\ile 0 n=true:=by have:=qD h;exact⟨zQ5 (by omega) (by omega),qK (by omega)⟩
@[simp] abbrev zf8 (p n:Int):Bool:=true
@[simp] abbrev zes (p n:Int):Int:=zqe p n
@[simp] abbrev zhJ (p n:Int):Bool:=zh1 p n
def zo1:Run:=rF2 dI dI λb c=>(zf8 b c,[aI<|zes b c,aB<|zhJ b c])
def zGT (N:Nat)(a b:Int):OA:=
 (oN (zcm a)<|cond (nB<|zeW a) (some [aI a,aB false])<|oN (zM b 0 7)<|cond (nB<|zk b 0 7) (some [aI a,aB false])<|oN (ile 0<|wcv .u64 b)<|some [aI<|wor .i64 a<|zms .i64 1<|wcv .u64 b,aB true])
def zTA (b a:Int)(c:zf8 b a=true):∃N,zGT N b a=some [aI<|zes b a,aB<|zhJ b a]:=by have d:=@cv7 a;refine⟨0,?_⟩;unfold zGT oN nB;refine must rfl (brN (λ_=>?_) λ_=>must rfl (brN (λ_=>?_) λ_=>mu ?_));all_goals first|rfl|(simp only [*,zes,zhJ,zqe,zh1,cT,cF]<;>rfl)|simp_all[Ty.cells,zes,zhJ,zqe,zh1]
def zL9:vR 247 zo1:=kF2 zlp zn zx zo (zq []) zTA
def zGt (N:Nat)(a b:Int):OA:=
 (oN (zcm a)<|cond (nB<|zeW a) (some [aI a,aB false])<|oN (zM b 0 7)<|cond (nB<|zk b 0 7) (some [aI a,aB false])<|oN (ile 0 b)<|some [aI<|wor .i64 a<|zms .i64 1 b,aB true])
def zTe (b a:Int)(c:zf8 b a=true):∃N,zGt N b a=some [aI<|zes b a,aB<|zhJ b a]:=by have d:=@cv7 a;refine⟨0,?_⟩;unfold zGt oN nB;refine must rfl (brN (λ_=>?_) λ_=>must rfl (brN (λ_=>?_) λ_=>mu ?_));all_goals first|rfl|(simp only [*,zes,zhJ,zqe,zh1,cT,cF]<;>rfl)|simp_all[Ty.cells,zes,zhJ,zqe,zh1]
def zLP:vR 315 zo1:=kF2 zlp zn zx zo (zq []) zTe
def posts (c:Ctl)(n:Int):Bool:=bif znt c then (cond (zk n 0 7) (ieq (wand .i64 (zlc .i64 c.Post n) 1) 1) false) else false
@[simp] abbrev zts (c:Ctl)(n:Int):Bool:=true
@[simp] abbrev zn1 (c:Ctl)(n:Int):Bool:=posts c n
def zsv:Run:=rF2 dC dI λb c=>(zts b c,[aB<|zn1 b c])
def zRp (N:Nat)(b:Ctl)(a:Int):OA:=
 (oN (zfx b)<|cond (znZ b) (oN (zM a 0 7)<|cond (zk a 0 7) (oN (ile 0<|wcv .u64 a)<|some [aB<|ieq (wand .i64 (zlc .i64 b.Post<|wcv .u64 a) 1) 1]) oF) oF)
def zY4 (b:Ctl)(a:Int)(c:zts b a=true):∃N,zRp N b a=some [aB<|zn1 b a]:=by have d:=@cv7 a;refine⟨0,?_⟩;unfold zRp oN;refine must rfl (br (λ_=>must rfl (br (λ_=>mu ?_) λ_=>?_)) λ_=>?_);all_goals first|rfl|(simp only [*,zn1,posts,cT,cF]<;>rfl)|simp_all[Ty.cells,zn1,posts]
def zSS:vR 355 zsv:=kF2 zlp zn zx zo (zq []) zY4
def zRd (N:Nat)(b:Ctl)(a:Int):OA:=
 (oN (zfx b)<|cond (znZ b) (oN (zM a 0 7)<|cond (zk a 0 7) (oN (ile 0 a)<|some [aB<|ieq (wand .i64 (zlc .i64 b.Post a) 1) 1]) oF) oF)
def zYU (b:Ctl)(a:Int)(c:zts b a=true):∃N,zRd N b a=some [aB<|zn1 b a]:=by have d:=@cv7 a;refine⟨0,?_⟩;unfold zRd oN;refine must rfl (br (λ_=>must rfl (br (λ_=>mu ?_) λ_=>?_)) λ_=>?_);all_goals first|rfl|(simp only [*,zn1,posts,cT,cF]<;>rfl)|simp_all[Ty.cells,zn1,posts]
def zSG:vR 382 zsv:=kF2 zlp zn zx zo (zq []) zYU
def zb1 (b:Bare)(g:Int):Bool:=bif zb0 b then hasB g (ln b.Guests) else false
def zeP {b:Bare}{g:Int}:(zb1 b g=true)↔zb0 b=true/\hasB g (ln b.Guests)=true:=by unfold zb1;cases zb0 b<;>simp
@[simp] abbrev zmn (b:Bare)(g:Int):Bool:=zb1 b g
def zHE:Run:=rF2 (dT .bare) dI λb c=>(zcD b c,[aB<|zmn b c])
def zRs (N:Nat)(a:Bare)(b:Int):OA:=
 (oN (zdD a)<|cond (zb9 a) (oN (zM b 0<|wsub .i64 (ln a.Guests) 1)<|some [aB<|zk b 0<|wsub .i64 (ln a.Guests) 1]) oF)
def zY6 (a:Bare)(b:Int)(c:zcD a b=true):∃N,zRs N a b=some [aB<|zmn a b]:=by have d:=zK.1 c;have e:a.Guests.length<=1048576:=d.2.1.1;refine⟨0,?_⟩;unfold zRs oN;refine must rfl (br (λ_=>must rfl ?_) λ_=>?_);all_goals first|rfl|(simp only [*,zmn,zb1,cT,cF]<;>rfl)|simp_all[Ty.cells,zmn,zb1]
def zSW:vR 242 zHE:=kF2 zlp zn zx zo (zq []) zY6
@[simp] abbrev zmP (b:Bare)(g:Int):GExit:=(gAt b g).Exit
def zEg:Run:=rF2 (dT .bare) dI λb c=>(zcD b c,[.agg<|zgz<|zmP b c])
def zKc (N:Nat)(c:Bare)(d:Int):OA:=
 let a:=zem c d; (oN (zeo c d)<|some [.agg [.i .i64 a.Exit.Kind,.i .i64 a.Exit.Page,.b a.Exit.Write,.i .i64 a.Exit.N]])
def zVW (a:Bare)(b:Int)(c:zcD a b=true):∃N,zKc N a b=some [.agg<|zgz<|zmP a b]:=by
 have d:=zK.1 c;refine⟨0,?_⟩;unfold zKc oN;conv=>zeta
 refine mu ?_;first|rfl|(simp only [*,zmP,cT,cF]<;>rfl)|simp_all[Ty.cells,zmP]
def zOy:vR 312 zEg:=kF2 zlp zn zx zo (zq []) zVW
def z9y:zbb:=[(244,znY),(307,znY),(247,zo1),(315,zo1),(355,zsv),(382,zsv),(242,zHE),(312,zEg)]++z9x
def zfV:zU z9y:=zi zJb (zi zIM<|zi zL9<|zi zLP<|zi zSS<|zi zSG<|zi zSW<|zi zOy zlp)
def zYj {b:Type}{l:List b}{i:Int}{d:b}(h:hasB i (ln l)=true):up l i (ix l i d)=l:=by obtain⟨k,rfl,a⟩:=zeI (n:=l.length) h;unfold up;rw[zbt a,kH];exact u4 a
def zvt {b:Bare}{g:Int}(h:hasB g (ln b.Guests)=true):gAt b g=ix b.Guests g zA:=by unfold gAt;rw[h];rfl
def z5A {b:Bare}{g:Int}(h:hasB g (ln b.Guests)=true):zeN b g (gAt b g)=b:=by unfold zeN;rw[zvt h,zYj h]
def chg (b:Bare)(g:Int)(c:Bool)(x:Guest):Bare:=bif (cond (zb1 b g) c false) then zeN b g x else b
def zb4 (b:Bare)(g:Int)(c:Bool):Bool:=bif zb1 b g then c else false
def zt4 (p:Int)(s:Slot):Bool:=bif hasB p 4 then zeT s 8 else false
def zwb (x:Guest)(p:Int)(s:Slot):Guest:={x with Written:=ze0 x.Written p s}
def zez (x:Guest)(p:Int):Guest:={x with Live:=ze0 x.Live p (zbK x.Written p)}
def zjb:GExit:=⟨0,0,false,0⟩
def ztM (x:Guest)(v:Int):Bool:=bif zk v 0 99 then (cond (ieq x.Exit.Kind 2) true<|ieq x.Exit.Kind 3) else false
def zvh (x:Guest)(v:Int):Guest:=zci (stopped (cond (ieq x.Exit.Kind 2) {x with A:=v} x) zjb)
def zxZ (x:Guest):Bool:=bif ieq x.Exit.Kind 1 then true else ieq x.Exit.Kind 4
def zvV (x:Guest):Guest:=bif ieq x.Exit.Kind 1 then stopped x zjb else held (stopped x zjb)
def zmS (x:Guest)(n:Int):Guest:={x with Pending:=zqe x.Pending n}
def zDg (x:Guest)(c:Ctl):Guest:={x with Ctl:=c}
def zbbg {x:Guest}{n:Int}(h:zh1 x.Pending n=false):zmS x n=x:=by unfold zmS zqe;rw[h];rfl
def zXD {x:Guest}(p:Int)(s:Slot)(h:SmG x):SmG (zwb x p s):=⟨h.1,by simpa [zwb] using h.2.1,h.2.2.1,h.2.2.2⟩
def zuR {x:Guest}(p:Int)(h:SmG x):SmG (zez x p):=⟨h.1,h.2.1,by simpa [zez] using h.2.2.1,h.2.2.2⟩
def z7X {x:Guest}(v:Int)(h:SmG x):SmG (zvh x v):=by unfold zvh;cases ieq x.Exit.Kind 2<;>exact zlk h
def z7Y {x:Guest}(h:SmG x):SmG (zvV x):=by unfold zvV;cases ieq x.Exit.Kind 1;{exact zXB (g:=stopped x zjb) h};{exact h}
def zpK {b:Bare}{g:Int}{c:Bool}{x:Guest}(h:SmB b)(a:SmG x):SmB (chg b g c x):=by unfold chg;cases (cond (zb1 b g) c false);{exact h};{exact zpt h a}
@[simp] abbrev zki (b:Bare)(g p:Int)(s:Slot):Bool:=pc (SmB b)
@[simp] abbrev zdH (b:Bare)(g p:Int)(s:Slot):Bare:=chg b g (zt4 p s) (zwb (gAt b g) p s)
@[simp] abbrev zdV (b:Bare)(g p:Int)(s:Slot):Bool:=zb4 b g (zt4 p s)
def zjJ:Run:=rF4 (dT .bare) dI dI (dT .slot) λb c d e=>(zki b c d e,[aT .bare<|zdH b c d e,aB<|zdV b c d e])
def zGE (N:Nat)(f:Bare)(b c:Int)(d:Slot):OA:=
 let a:=zY f;let e:=ix a.Guests b zA; (oN (zbo f)<|oN (zcD a b)<|cond (nB<|zmn a b) (some [aT .bare a,aB false])<|oN (zM c 0 3)<|cond (nB<|zk c 0 3) (some [aT .bare a,aB false])<|oN (zlM d 8)<|cond (nB<|zjm d 8) (some [aT .bare a,aB false])<|oN (inb b<|ln a.Guests)<|oN (zjn e.Written c d)<|oN (inb b<|ln a.Guests)<|share (up a.Guests b ({e with Written:=(zg0 e.Written c d)}:Guest)) λg=>some [aT .bare ({a with Guests:=g}:Bare),aB true])
def zTo (b:Bare)(a c:Int)(d:Slot)(e:zki b a c d=true):∃N,zGE N b a c d=some [aT .bare<|zdH b a c d,aB<|zdV b a c d]:=by
 have f:=zK.1 e;have g:=zgw a f;have k:zb1 b a=true->hasB a (ln b.Guests)=true:=λh=>(zeP.1 h).2;have i:zb1 b a=true->gAt b a=ix b.Guests a zA:=λh=>zvt (zeP.1 h).2;have j:=g.2.1;refine⟨0,?_⟩;unfold zGE oN nB;conv=>zeta
 refine mu (mu<|brN (λ_=>?_) λ_=>must rfl (brN (λ_=>?_) λ_=>must rfl (brN (λ_=>?_) λ_=>mu (mu<|mu<|shr ?_))));all_goals first|rfl|(simp only [*,zdH,zdV,chg,zb4,zt4,zwb,zeN,cT,cF]<;>rfl)|simp_all[Ty.cells,zdH,zdV,chg,zb4,zt4,zwb,zeN]
def zwS:vR 95 zjJ:=kF4 zfV zn zx zo (zq []) zTo
def zGj (N:Nat)(a:Bare)(b e:Int)(f:Slot):OA:=
 let d:=zbo a;let g:=({ (zem a b) with Written:=(zg0 (zem a b).Written e f)}:Guest);let c:=aT .bare<|zY a; (oN (zbm e 4)<|cond (zcj e 4) (oN (zlM f 8)<|oN (zeo a b)<|oN (zdD a)<|cond (nB<|zb9 a) (oN d<|some [c,aB false])<|cond (nB<|zen a b) (oN d<|some [c,aB false])<|cond (nB<|zjm f 8) (oN d<|some [c,aB false])<|oN (zjn (zem a b).Written e f)<|oN (cond (ieq a.Pending a.Pending) true false)<|oN (ieq b b)<|oN (zbL a b g)<|some [aT .bare<|zcO a b g,aB true])<|oN (zeo a b)<|oN (zdD a)<|cond (nB<|zb9 a) (oN d<|some [c,aB false])<|cond (nB<|zen a b) (oN d<|some [c,aB false])<|oN d<|some [c,aB false])
def zS4 (b:Bare)(a c:Int)(d:Slot)(f:zki b a c d=true):∃N,zGj N b a c d=some [aT .bare<|zdH b a c d,aB<|zdV b a c d]:=by
 have g:=zK.1 f;have e:=zgw a g;have i:_/\_/\_/\_:=e;have h:=λp s=>zXD (x:=gAt b a) p s e;unfold zwb at h;refine⟨0,?_⟩;unfold zGj oN nB;conv=>zeta
 refine must rfl (br (λ_=>must rfl (mu (must rfl (brN (λ_=>mu ?_) λ_=>brN (λ_=>mu ?_) λ_=>brN (λ_=>mu ?_) λ_=>mu (mu<|mu<|mu ?_))))) λ_=>mu (must rfl (brN (λ_=>mu ?_) λ_=>brN (λ_=>mu ?_) λ_=>mu ?_)));all_goals first|rfl|(simp only [*,zdH,zdV,chg,zb4,zt4,zwb,zb1,zeU,cT,cF]<;>rfl)|simp_all[Ty.cells,zdH,zdV,chg,zb4,zt4,zwb,zb1,zeU]
def zwO:vR 165 zjJ:=kF4 zfV zn zx zo (zq []) zS4
@[simp] abbrev zl3 (b:Bare)(g p:Int):Bool:=pc (SmB b)
@[simp] abbrev zdm (b:Bare)(g p:Int):Bare:=chg b g (hasB p 4) (zez (gAt b g) p)
@[simp] abbrev ze2 (b:Bare)(g p:Int):Bool:=zb4 b g (hasB p 4)
def zih:Run:=rF3 (dT .bare) dI dI λb c d=>(zl3 b c d,[aT .bare<|zdm b c d,aB<|ze2 b c d])
def zA7 (N:Nat)(f:Bare)(d b:Int):OA:=
 let a:=zY f;let e:=inb d<|ln a.Guests;let c:=ix a.Guests d zA; (oN (zbo f)<|oN (zcD a d)<|cond (nB<|zmn a d) (some [aT .bare a,aB false])<|oN (zM b 0 3)<|cond (nB<|zk b 0 3) (some [aT .bare a,aB false])<|oN e<|oN e<|oN (zgi c.Written b)<|oN (zjn c.Live b<|zeX c.Written b)<|oN e<|share (up a.Guests d ({c with Live:=(zg0 c.Live b<|zeX c.Written b)}:Guest)) λg=>some [aT .bare ({a with Guests:=g}:Bare),aB true])
def zMR (b:Bare)(a c:Int)(d:zl3 b a c=true):∃N,zA7 N b a c=some [aT .bare<|zdm b a c,aB<|ze2 b a c]:=by
 have e:=zK.1 d;have f:=zgw a e;have j:zb1 b a=true->hasB a (ln b.Guests)=true:=λh=>(zeP.1 h).2;have g:zb1 b a=true->gAt b a=ix b.Guests a zA:=λh=>zvt (zeP.1 h).2;have i:=f.2.2.1;refine⟨0,?_⟩;unfold zA7 oN nB;conv=>zeta
 refine mu (mu<|brN (λ_=>?_) λ_=>must rfl (brN (λ_=>?_) λ_=>mu (mu (must rfl (mu<|mu<|shr ?_)))));all_goals first|rfl|(simp only [*,zdm,ze2,chg,zb4,zez,zeN,cT,cF]<;>rfl)|simp_all[Ty.cells,zdm,ze2,chg,zb4,zez,zeN]
def zue:vR 96 zih:=kF3 zfV zn zx zo (zq []) zMR
def zAW (N:Nat)(a:Bare)(b c:Int):OA:=
 let e:=aT .bare<|zY a;let d:=zem a b;let f:=({d with Live:=(zg0 d.Live c<|zeX d.Written c)}:Guest); (oN (zbm c 4)<|oN (zeo a b)<|oN (zdD a)<|cond (nB<|zb9 a) (oN (zbo a)<|some [e,aB false])<|cond (nB<|zen a b) (oN (zbo a)<|some [e,aB false])<|cond (nB<|zcj c 4) (oN (zbo a)<|some [e,aB false])<|oN (zgi d.Written c)<|oN (zjn d.Live c<|zeX d.Written c)<|oN (cond (ieq a.Pending a.Pending) true false)<|oN (ieq b b)<|oN (zbL a b f)<|some [aT .bare<|zcO a b f,aB true])
def zMF (b:Bare)(a c:Int)(e:zl3 b a c=true):∃N,zAW N b a c=some [aT .bare<|zdm b a c,aB<|ze2 b a c]:=by
 have f:=zK.1 e;have d:=zgw a f;have h:_/\_/\_/\_:=d;have g:=λp=>zuR (x:=gAt b a) p d;unfold zez at g;refine⟨0,?_⟩;unfold zAW oN nB;conv=>zeta
 refine must rfl (mu (must rfl (brN (λ_=>mu ?_) λ_=>brN (λ_=>mu ?_) λ_=>brN (λ_=>mu ?_) λ_=>must rfl (mu<|mu<|mu<|mu ?_))));all_goals first|rfl|(simp only [*,zdm,ze2,chg,zb4,zez,zb1,zeU,cT,cF]<;>rfl)|simp_all[Ty.cells,zdm,ze2,chg,zb4,zez,zb1,zeU]
def zua:vR 167 zih:=kF3 zfV zn zx zo (zq []) zMF
@[simp] abbrev zhv (b:Bare)(g v:Int):Bool:=pc (SmB b)
@[simp] abbrev zcq (b:Bare)(g v:Int):Bare:=chg b g (ztM (gAt b g) v) (zvh (gAt b g) v)
@[simp] abbrev zcz (b:Bare)(g v:Int):Bool:=zb4 b g (ztM (gAt b g) v)
def zhs:Run:=rF3 (dT .bare) dI dI λb c d=>(zhv b c d,[aT .bare<|zcq b c d,aB<|zcz b c d])
def zyq (N:Nat)(i:Bare)(b e:Int):OA:=
 let a:=zY i;let h:=inb b<|ln a.Guests;let d:=(⟨0,0,false,0⟩:GExit);let c:=ix a.Guests b zA;let g:=({c with A:=e}:Guest); (oN (zbo i)<|oN (zcD a b)<|cond (nB<|zmn a b) (some [aT .bare a,aB false])<|oN (zM e 0 99)<|cond (nB<|zk e 0 99) (some [aT .bare a,aB false])<|oN h<|cond (ieq c.Exit.Kind 2) (oN (zcF g d)<|oN (zO<|zcG g d)<|oN h<|share (up a.Guests b<|zch<|zcG g d) λf=>some [aT .bare ({a with Guests:=f}:Bare),aB true])<|cond (ieq c.Exit.Kind 3) (oN (zcF c d)<|oN (zO<|zcG c d)<|oN h<|share (up a.Guests b<|zch<|zcG c d) λf=>some [aT .bare ({a with Guests:=f}:Bare),aB true])<|some [aT .bare a,aB false])
def zJw (b:Bare)(a c:Int)(d:zhv b a c=true):∃N,zyq N b a c=some [aT .bare<|zcq b a c,aB<|zcz b a c]:=by
 have e:=zK.1 d;have f:=zgw a e;have j:zb1 b a=true->hasB a (ln b.Guests)=true:=λh=>(zeP.1 h).2;have g:zb1 b a=true->gAt b a=ix b.Guests a zA:=λh=>zvt (zeP.1 h).2;have i:_/\_/\_/\_:=f;refine⟨0,?_⟩;unfold zyq oN nB;conv=>zeta
 refine mu (mu<|brN (λ_=>?_) λ_=>must rfl (brN (λ_=>?_) λ_=>mu (br (λ_=>mu (mu<|mu<|shr ?_)) λ_=>br (λ_=>mu (mu<|mu<|shr ?_)) λ_=>?_)));all_goals first|rfl|(simp only [*,zcq,zcz,chg,zb4,ztM,zvh,zjb,zeN,SmG,stopped,cT,cF]<;>rfl)|simp_all[Ty.cells,zcq,zcz,chg,zb4,ztM,zvh,zjb,zeN,SmG,stopped]
def ztf:vR 97 zhs:=kF3 zfV zn zx zo (zq []) zJw
def zyi (N:Nat)(a:Bare)(b g:Int):OA:=
 let c:=zem a b;let l:=ieq (zmP a b).Kind 2;let e:=zbo a;let j:=ieq a.Pending a.Pending;let d:=aT .bare<|zY a;let k:=({c with A:=g}:Guest);let f:=(⟨0,0,false,0⟩:GExit);let i:=zcG k f;let m:=aT .bare<|zcO a b<|zch i;let h:=zcG c f;let n:=aT .bare<|zcO a b<|zch h; (oN (zcD a b)<|cond l (oN (zM g 0 99)<|oN (zeo a b)<|oN (zdD a)<|cond (nB<|zb9 a) (oN e<|some [d,aB false])<|cond (nB<|zen a b) (oN e<|some [d,aB false])<|cond (nB<|zk g 0 99) (oN e<|some [d,aB false])<|cond l (oN (zcF k f)<|oN (zO i)<|oN (cond j true false)<|oN (ieq b b)<|oN (zbL a b<|zch i)<|some [m,aB true])<|oN (zcF c f)<|oN (zO h)<|oN (cond j true false)<|oN (ieq b b)<|oN (zbL a b<|zch h)<|some [n,aB true])<|cond (ieq (zmP a b).Kind 3) (oN (zM g 0 99)<|oN (zeo a b)<|oN (zdD a)<|cond (nB<|zb9 a) (oN e<|some [d,aB false])<|cond (nB<|zen a b) (oN e<|some [d,aB false])<|cond (nB<|zk g 0 99) (oN e<|some [d,aB false])<|cond l (oN (zcF k f)<|oN (zO i)<|oN (cond j true false)<|oN (ieq b b)<|oN (zbL a b<|zch i)<|some [m,aB true])<|oN (zcF c f)<|oN (zO h)<|oN (cond j true false)<|oN (ieq b b)<|oN (zbL a b<|zch h)<|some [n,aB true])<|oN (zeo a b)<|oN (zdD a)<|cond (nB<|zb9 a) (oN e<|some [d,aB false])<|cond (nB<|zen a b) (oN e<|some [d,aB false])<|oN e<|some [d,aB false])
def zJn (b:Bare)(a c:Int)(f:zhv b a c=true):∃N,zyi N b a c=some [aT .bare<|zcq b a c,aB<|zcz b a c]:=by
 have g:=zK.1 f;have d:=zgw a g;have j:_/\_/\_/\_:=d;have h:SmG ({gAt b a with A:=c}:Guest):=d;have i:∀e,SmG (zci<|stopped (gAt b a) e):=λe=>zlk (zZH e d);refine⟨0,?_⟩;unfold zyi oN nB;conv=>zeta
 refine mu (br (λ_=>must rfl (mu (must rfl (brN (λ_=>mu ?_) λ_=>brN (λ_=>mu ?_) λ_=>brN (λ_=>mu ?_) λ_=>br (λ_=>mu (mu<|mu<|mu<|mu ?_)) λ_=>mu (mu<|mu<|mu<|mu ?_))))) λ_=>br (λ_=>must rfl (mu (must rfl (brN (λ_=>mu ?_) λ_=>brN (λ_=>mu ?_) λ_=>brN (λ_=>mu ?_) λ_=>br (λ_=>mu (mu<|mu<|mu<|mu ?_)) λ_=>mu (mu<|mu<|mu<|mu ?_))))) λ_=>mu (must rfl (brN (λ_=>mu ?_) λ_=>brN (λ_=>mu ?_) λ_=>mu ?_)));all_goals first|rfl|(simp only [*,zcq,zcz,chg,zb4,ztM,zvh,zjb,zb1,zeU,cT,cF]<;>rfl)|simp_all[Ty.cells,zcq,zcz,chg,zb4,ztM,zvh,zjb,zb1,zeU]
def ztc:vR 172 zhs:=kF3 zfV zn zx zo (zq []) zJn
@[simp] abbrev zcs (b:Bare)(g:Int):Bare:=chg b g (zxZ<|gAt b g) (zvV<|gAt b g)
@[simp] abbrev zcB (b:Bare)(g:Int):Bool:=zb4 b g (zxZ<|gAt b g)
def zhu:Run:=rF2 (dT .bare) dI λb c=>(zcD b c,[aT .bare<|zcs b c,aB<|zcB b c])
def zys (N:Nat)(g:Bare)(c:Int):OA:=
 let a:=zY g;let f:=inb c<|ln a.Guests;let d:=(⟨0,0,false,0⟩:GExit);let b:=ix a.Guests c zA; (oN (zbo g)<|oN (zcD a c)<|cond (nB<|zmn a c) (some [aT .bare a,aB false])<|oN f<|cond (ieq b.Exit.Kind 1) (oN (zcF b d)<|oN f<|share (up a.Guests c<|zcG b d) λe=>some [aT .bare ({a with Guests:=e}:Bare),aB true])<|cond (ieq b.Exit.Kind 4) (oN (zcF b d)<|oN (zO<|zcG b d)<|oN f<|share (up a.Guests c<|zjg<|zcG b d) λe=>some [aT .bare ({a with Guests:=e}:Bare),aB true])<|some [aT .bare a,aB false])
def zJy (b:Bare)(a:Int)(c:zcD b a=true):∃N,zys N b a=some [aT .bare<|zcs b a,aB<|zcB b a]:=by
 have d:=zK.1 c;have e:=zgw a d;have i:zb1 b a=true->hasB a (ln b.Guests)=true:=λh=>(zeP.1 h).2;have f:zb1 b a=true->gAt b a=ix b.Guests a zA:=λh=>zvt (zeP.1 h).2;have g:_/\_/\_/\_:=e;refine⟨0,?_⟩;unfold zys oN nB;conv=>zeta
 refine mu (mu<|brN (λ_=>?_) λ_=>mu (br (λ_=>mu (mu<|shr ?_)) λ_=>br (λ_=>mu (mu<|mu<|shr ?_)) λ_=>?_));all_goals first|rfl|(simp only [*,zcs,zcB,chg,zb4,zxZ,zvV,zjb,zeN,SmG,stopped,cT,cF]<;>rfl)|simp_all[Ty.cells,zcs,zcB,chg,zb4,zxZ,zvV,zjb,zeN,SmG,stopped]
def zth:vR 98 zhu:=kF2 zfV zn zx zo (zq []) zJy
def zyk (N:Nat)(a:Bare)(b:Int):OA:=
 let f:=ieq (zmP a b).Kind 4;let e:=ieq a.Pending a.Pending;let d:=aT .bare<|zY a;let c:=({ (zem a b) with Exit:=(⟨0,0,false,0⟩:GExit)}:Guest);let g:=aT .bare<|zcO a b<|zjg c; (oN (zcD a b)<|cond (ieq (zmP a b).Kind 1) (oN (zeo a b)<|oN (zdD a)<|cond (nB<|zb9 a) (oN (zbo a)<|some [d,aB false])<|cond (nB<|zen a b) (oN (zbo a)<|some [d,aB false])<|cond f (oN (zO c)<|oN (cond e true false)<|oN (ieq b b)<|oN (zbL a b<|zjg c)<|some [g,aB true])<|oN (cond e true false)<|oN (ieq b b)<|oN (zbL a b c)<|some [aT .bare<|zcO a b c,aB true])<|oN (zeo a b)<|oN (zdD a)<|cond (nB<|zb9 a) (oN (zbo a)<|some [d,aB false])<|cond (nB<|zen a b) (oN (zbo a)<|some [d,aB false])<|cond (nB f) (oN (zbo a)<|some [d,aB false])<|cond f (oN (zO c)<|oN (cond e true false)<|oN (ieq b b)<|oN (zbL a b<|zjg c)<|some [g,aB true])<|oN (cond e true false)<|oN (ieq b b)<|oN (zbL a b c)<|some [aT .bare<|zcO a b c,aB true])
def zJp (b:Bare)(a:Int)(d:zcD b a=true):∃N,zyk N b a=some [aT .bare<|zcs b a,aB<|zcB b a]:=by
 have e:=zK.1 d;have f:=zgw a e;have g:_/\_/\_/\_:=f;have c:ieq (gAt b a).Exit.Kind 1=true->ieq (gAt b a).Exit.Kind 4=false:=λh=>zPA h (by decide);refine⟨0,?_⟩;unfold zyk oN nB;conv=>zeta
 refine mu (br (λ_=>mu (must rfl (brN (λ_=>mu ?_) λ_=>brN (λ_=>mu ?_) λ_=>br (λ_=>mu (mu<|mu<|mu ?_)) λ_=>mu (mu<|mu ?_)))) λ_=>mu (must rfl (brN (λ_=>mu ?_) λ_=>brN (λ_=>mu ?_) λ_=>brN (λ_=>mu ?_) λ_=>br (λ_=>mu (mu<|mu<|mu ?_)) λ_=>mu (mu<|mu ?_))));all_goals first|rfl|(simp only [*,zcs,zcB,chg,zb4,zxZ,zvV,zjb,zb1,zeU,SmG,stopped,cT,cF]<;>rfl)|simp_all[Ty.cells,zcs,zcB,chg,zb4,zxZ,zvV,zjb,zb1,zeU,SmG,stopped]
def zte:vR 174 zhu:=kF2 zfV zn zx zo (zq []) zJp
def zbb7 {b:Bare}{g:Int}{c:Bool}{x:Guest}(h:zb1 b g=false):chg b g c x=b:=by unfold chg;rw[h];rfl
def zbaD {b:Bare}{g n:Int}(h:zb1 b g=true):chg b g (zh1 (gAt b g).Pending n) (zmS (gAt b g) n)=zeN b g (zmS (gAt b g) n):=by unfold chg;rw[h];cases a:zh1 (gAt b g).Pending n;{rw [zbbg a,z5A (zeP.1 h).2];rfl};{rfl}
@[simp] abbrev zhw (b:Bare)(g n:Int):Bool:=pc (SmB b)
@[simp] abbrev zcr (b:Bare)(g n:Int):Bare:=chg b g (zh1 (gAt b g).Pending n) (zmS (gAt b g) n)
@[simp] abbrev zcA (b:Bare)(g n:Int):Bool:=zb4 b g (zh1 (gAt b g).Pending n)
def zht:Run:=rF3 (dT .bare) dI dI λb c d=>(zhw b c d,[aT .bare<|zcr b c d,aB<|zcA b c d])
def zyr (N:Nat)(e:Bare)(b d:Int):OA:=
 let a:=zY e;let c:=ix a.Guests b zA; (oN (zbo e)<|oN (zcD a b)<|cond (nB<|zmn a b) (some [aT .bare a,aB false])<|oN (inb b<|ln a.Guests)<|oN (zf8 c.Pending d)<|oN (inb b<|ln a.Guests)<|share (up a.Guests b ({c with Pending:=(zes c.Pending d)}:Guest)) λf=>some [aT .bare ({a with Guests:=f}:Bare),aB<|zhJ c.Pending d])
def zJx (a:Bare)(b c:Int)(d:zhw a b c=true):∃N,zyr N a b c=some [aT .bare<|zcr a b c,aB<|zcA a b c]:=by
 have i:=zK.1 d;have j:zb1 a b=true->hasB b (ln a.Guests)=true:=λh=>(zeP.1 h).2;have f:zb1 a b=true->gAt a b=ix a.Guests b zA:=λh=>zvt (zeP.1 h).2;have g:=@zbaD a b c;have e:=@zbb7 a b (zh1 (gAt a b).Pending c) (zmS (gAt a b) c);refine⟨0,?_⟩;unfold zyr oN nB;conv=>zeta
 refine mu (mu<|brN (λ_=>?_) λ_=>mu (must rfl (mu<|shr ?_)));all_goals first|rfl|(simp only [*,zcr,zcA,zb4,zeN,zmS,cT,cF]<;>rfl)|simp_all[Ty.cells,zcr,zcA,zb4,zeN,zmS]
def ztg:vR 99 zht:=kF3 zfV zn zx zo (zq []) zJx
def zyj (N:Nat)(a:Bare)(b c:Int):OA:=
 let e:=(zem a b).Pending;let d:=aT .bare<|zY a;let f:=({ (zem a b) with Pending:=(zes e c)}:Guest); (oN (zeo a b)<|oN (zf8 e c)<|oN (zeo a b)<|oN (zdD a)<|cond (nB<|zb9 a) (oN (zbo a)<|some [d,aB false])<|cond (nB<|zen a b) (oN (zbo a)<|some [d,aB false])<|cond (nB<|zhJ e c) (oN (zbo a)<|some [d,aB false])<|oN (cond (ieq a.Pending a.Pending) true false)<|oN (ieq b b)<|oN (zbL a b f)<|some [aT .bare<|zcO a b f,aB true])
def zJo (b:Bare)(a c:Int)(d:zhw b a c=true):∃N,zyj N b a c=some [aT .bare<|zcr b a c,aB<|zcA b a c]:=by
 have e:=zK.1 d;have f:=zgw a e;have g:_/\_/\_/\_:=f;refine⟨0,?_⟩;unfold zyj oN nB;conv=>zeta
 refine mu (must rfl (mu (must rfl (brN (λ_=>mu ?_) λ_=>brN (λ_=>mu ?_) λ_=>brN (λ_=>mu ?_) λ_=>mu (mu<|mu ?_)))));all_goals first|rfl|(simp only [*,zcr,zcA,chg,zb4,zmS,zb1,zeU,cT,cF]<;>rfl)|simp_all[Ty.cells,zcr,zcA,chg,zb4,zmS,zb1,zeU]
def ztd:vR 176 zht:=kF3 zfV zn zx zo (zq []) zJo
@[simp] abbrev zkh (b:Bare)(g:Int)(c:Ctl):Bool:=pc (SmB b)
@[simp] abbrev zde (b:Bare)(g:Int)(c:Ctl):Bare:=chg b g (znt c) (zDg (gAt b g) c)
@[simp] abbrev zdq (b:Bare)(g:Int)(c:Ctl):Bool:=zb4 b g (znt c)
def zjI:Run:=rF3 (dT .bare) dI dC λb c d=>(zkh b c d,[aT .bare<|zde b c d,aB<|zdq b c d])
def zGD (N:Nat)(d:Bare)(b:Int)(c:Ctl):OA:=
 let a:=zY d; (oN (zbo d)<|oN (zcD a b)<|cond (nB<|zmn a b) (some [aT .bare a,aB false])<|oN (zfx c)<|cond (nB<|znZ c) (some [aT .bare a,aB false])<|oN (inb b<|ln a.Guests)<|share (up a.Guests b ({ (ix a.Guests b zA) with Ctl:=c}:Guest)) λe=>some [aT .bare ({a with Guests:=e}:Bare),aB true])
def zTn (a:Bare)(b:Int)(c:Ctl)(d:zkh a b c=true):∃N,zGD N a b c=some [aT .bare<|zde a b c,aB<|zdq a b c]:=by
 have f:=zK.1 d;have g:zb1 a b=true->hasB b (ln a.Guests)=true:=λh=>(zeP.1 h).2;have e:zb1 a b=true->gAt a b=ix a.Guests b zA:=λh=>zvt (zeP.1 h).2;refine⟨0,?_⟩;unfold zGD oN nB;conv=>zeta
 refine mu (mu<|brN (λ_=>?_) λ_=>must rfl (brN (λ_=>?_) λ_=>mu (shr ?_)));all_goals first|rfl|(simp only [*,zde,zdq,chg,zb4,zDg,zeN,cT,cF]<;>rfl)|simp_all[Ty.cells,zde,zdq,chg,zb4,zDg,zeN]
def zwR:vR 100 zjI:=kF3 zfV zn zx zo (zq []) zTn
def zGi (N:Nat)(a:Bare)(b:Int)(c:Ctl):OA:=
 let d:=aT .bare<|zY a;let e:=({ (zem a b) with Ctl:=c}:Guest); (oN (zfx c)<|oN (zeo a b)<|oN (zdD a)<|cond (nB<|zb9 a) (oN (zbo a)<|some [d,aB false])<|cond (nB<|zen a b) (oN (zbo a)<|some [d,aB false])<|cond (nB<|znZ c) (oN (zbo a)<|some [d,aB false])<|oN (cond (ieq a.Pending a.Pending) true false)<|oN (ieq b b)<|oN (zbL a b e)<|some [aT .bare<|zcO a b e,aB true])
def zS3 (b:Bare)(a:Int)(c:Ctl)(d:zkh b a c=true):∃N,zGi N b a c=some [aT .bare<|zde b a c,aB<|zdq b a c]:=by
 have e:=zK.1 d;have f:=zgw a e;have g:_/\_/\_/\_:=f;refine⟨0,?_⟩;unfold zGi oN nB;conv=>zeta
 refine must rfl (mu (must rfl (brN (λ_=>mu ?_) λ_=>brN (λ_=>mu ?_) λ_=>brN (λ_=>mu ?_) λ_=>mu (mu<|mu ?_))));all_goals first|rfl|(simp only [*,zde,zdq,chg,zb4,zDg,zb1,zeU,cT,cF]<;>rfl)|simp_all[Ty.cells,zde,zdq,chg,zb4,zDg,zb1,zeU]
def zwN:vR 178 zjI:=kF3 zfV zn zx zo (zq []) zS3
def zNi (p c v:Int):Bool:=bif hasB p 8 then (cond (hasB c 4) (zk v 0 99) false) else false
def zkR (b:Bare)(p c v:Int):Bool:=bif zb0 b then zNi p c v else false
def zoQ (b:Bare)(p c v:Int):Bare:=bif zkR b p c v then {b with Memory:=zbX b.Memory p c v} else b
def zlm (b:Bare):Bare:=bif zb0 b then {b with Pending:=zhr b.Pending} else b
def zrz (b:Bare):Int:=bif zb0 b then zmT b.Pending else -1
def zkx (b:Bare):Bool:=bif zb0 b then !ilt (zeB b.Pending) 0 else false
def zpX (b:Bare)(g a n:Int):Bool:=bif zb1 b g then (cond (zk a 0 15) (zfv (gAt b g).Live (zbn a) n) false) else false
def zEU (b:Bare)(g a n:Int):Int:=zcI (gAt b g).Live (zbn a) n
def zz1 (b:Bare)(g a v:Int):Bool:=bif zpX b g a 2 then zk v 0 99 else false
def z1q (b:Bare)(g a v:Int):Bare:=bif zz1 b g a v then {b with Memory:=zbX b.Memory (zEU b g a 2) (zd9 a) v} else b
def zUr (b:Bare)(g a:Int):Int:=bif zpX b g a 1 then cellAt b.Memory (zEU b g a 1) (zd9 a) else 0
@[simp] abbrev zdp (b:Bare):Bare:=zlm b
@[simp] abbrev zer (b:Bare):Int:=zrz b
@[simp] abbrev zdG (b:Bare):Bool:=zkx b
def zjH:Run:=rF1 (dT .bare) λb=>(zbo b,[aT .bare<|zdp b,aI<|zer b,aB<|zdG b])
def zGC (N:Nat)(b:Bare):OA:=
 let a:=zY b; (oN (zbo b)<|oN (zdD a)<|cond (nB<|zb9 a) (some [aT .bare a,aI<|-1,aB false])<|oN (zcm a.Pending)<|some [aT .bare ({a with Pending:=(zf9 a.Pending)}:Bare),aI<|zga a.Pending,aB<|zhM a.Pending])
def zTm (a:Bare)(b:zbo a=true):∃N,zGC N a=some [aT .bare<|zdp a,aI<|zer a,aB<|zdG a]:=by
 have c:=zK.1 b;refine⟨0,?_⟩;unfold zGC oN nB;conv=>zeta
 refine mu (must rfl (brN (λ_=>?_) λ_=>must rfl ?_));all_goals first|rfl|(simp only [*,zdp,zer,zdG,zlm,zrz,zkx,zhr,zmT,cT,cF]<;>rfl)|simp_all[Ty.cells,zdp,zer,zdG,zlm,zrz,zkx,zhr,zmT]
def zwQ:vR 103 zjH:=kF1 zfV zn zx zo (zq []) zTm
@[simp] abbrev zvD (b:Bare)(p c v:Int):Bool:=pc (SmB b)
@[simp] abbrev zhX (b:Bare)(p c v:Int):Bare:=zoQ b p c v
@[simp] abbrev zkK (b:Bare)(p c v:Int):Bool:=zkR b p c v
def zrV:Run:=rF4 (dT .bare) dI dI dI λb c d e=>(zvD b c d e,[aT .bare<|zhX b c d e,aB<|zkK b c d e])
def zCm (N:Nat)(a:Bare)(b c d:Int):OA:=
 let e:=aT .bare<|zY a; (oN (zbo a)<|oN (zdD a)<|cond (nB<|zb9 a) (some [e,aB false])<|oN (zbm b 8)<|cond (nB<|zcj b 8) (some [e,aB false])<|oN (zbm c 4)<|cond (nB<|zcj c 4) (some [e,aB false])<|oN (zM d 0 99)<|cond (nB<|zk d 0 99) (some [e,aB false])<|oN (zek a.Memory b c d)<|some [aT .bare ({ (zY a) with Memory:=(zeH a.Memory b c d)}:Bare),aB true])
def zPG (a:Bare)(b c d:Int)(e:zvD a b c d=true):∃N,zCm N a b c d=some [aT .bare<|zhX a b c d,aB<|zkK a b c d]:=by
 have f:=zK.1 e;have g:_/\_/\_:=f;refine⟨0,?_⟩;unfold zCm oN nB;conv=>zeta
 refine mu (must rfl (brN (λ_=>?_) λ_=>must rfl (brN (λ_=>?_) λ_=>must rfl (brN (λ_=>?_) λ_=>must rfl (brN (λ_=>?_) λ_=>mu ?_)))));all_goals first|rfl|(simp only [*,zhX,zkK,zoQ,zkR,zNi,cT,cF]<;>rfl)|simp_all[Ty.cells,zhX,zkK,zoQ,zkR,zNi]
def zvv:vR 180 zrV:=kF4 zfV zn zx zo (zq []) zPG
def zGh (N:Nat)(a:Bare):OA:=
 (oN (zbo a)<|oN (zcm a.Pending)<|oN (zdD a)<|cond (nB<|zb9 a) (some [aT .bare<|zY a,aI<|-1,aB false])<|cond (nB<|zhM a.Pending) (some [aT .bare<|zY a,aI<|-1,aB false])<|some [aT .bare ({ (zY a) with Pending:=(zf9 a.Pending)}:Bare),aI<|zga a.Pending,aB true])
def zS2 (a:Bare)(b:zbo a=true):∃N,zGh N a=some [aT .bare<|zdp a,aI<|zer a,aB<|zdG a]:=by have c:=zK.1 b;refine⟨0,?_⟩;unfold zGh oN nB;refine mu (must rfl (must rfl (brN (λ_=>?_) λ_=>brN (λ_=>?_) λ_=>?_)));all_goals first|rfl|(simp only [*,zdp,zer,zdG,zlm,zrz,zkx,zhr,zmT,cT,cF]<;>rfl)|simp_all[Ty.cells,zdp,zer,zdG,zlm,zrz,zkx,zhr,zmT]
def zwM:vR 185 zjH:=kF1 zfV zn zx zo (zq []) zS2
def z9z:zbb:=z9y
def zIh:zU z9z:=zfV
def zfe (l:List Guest)(n:Int):LI:=idxs (λ(x:Guest)=>posts x.Ctl n) l 0
def zVO {d:Type}(p:d->Bool):∀(l:List d) (i:Nat),∀k∈idxs p l i,(i:Int)<=k/\k<(i:Int)+l.length
 |[],_,k,a=>by cases a
 |x::l,i,k,a=>by have c:=zVO p l (i+1);simp only[jB];unfold idxs at a;cases b:p x;{rw [b]at a;have:=c k a;omega};{rw [b]at a;rcases qG.1 a with rfl|a;{omega};{have:=c k a;omega}}
@[simp] abbrev zfM (b:Bare)(n:Int):LI:=zfe b.Guests n
def znS:Run:=rF2 (dT .bare) dI λb c=>(zeF b c,[aS .int<|zfM b c])
def zCS (N:Nat)(c:Bare)(f:Int):OA:=
 (iter (σ:=(Int×Int×Int×LI×lM×lG×LI×Unit)) N (λd a=>let b:=a.2.2.2.2.2.1;let e:=(ix b a.2.1 zA).Ctl; (cond (ilt a.2.1<|ln b) (oN (inb a.2.1<|ln b)<|oN (zts e a.1)<|cond (zn1 e a.1) (oN (few<|ln<|ap a.2.2.2.1 [a.2.1])<|d (a.1,zQ .i64 a.2.1 1,a.2.2.1,ap a.2.2.2.1 [a.2.1],a.2.2.2.2.1,b,a.2.2.2.2.2.2.1,()))<|d (a.1,zQ .i64 a.2.1 1,a.2.2.1,a.2.2.2.1,a.2.2.2.2.1,b,a.2.2.2.2.2.2.1,()))<|some [aS .int a.2.2.2.1])) (f,0,c.Pending,[],c.Memory,c.Guests,c.Outs,()))
def zQU:=zq [(249,0,{n:=28,tm:=[(1,ti),(2,.lp 0 0),(5,.sl 0 []),(6,ti)],lo:=[(0,[.sl 1 [],.sl 2 [],.sl 3 [],ti])],ro:=[(0,.int,true),(1,.sl .int,false),(2,.guest,false),(3,.int,false)]})]
def zP9 (a:Bare)(b:Int)(g:zeF a b=true):∃N,zCS N a b=some [aS .int<|zfM a b]:=by
 have h:=zK.1 g;have e:=zcR h.2.1.1;refine zcw λN d=>?_;unfold zCS oN;conv=>zeta
 refine(zbp a.Guests (λi (t:LI)=>(b,(i:Int),a.Pending,t,a.Memory,a.Guests,a.Outs,())) _ (λi (x:Guest) (t:LI) f=>bif posts x.Ctl b then (cond (few<|ln<|ap t [(i:Int)]) (f<|ap t [(i:Int)]) none) else f t) (λ(t:LI)=>some [.one<|.s .int t]) (λi c t rec=>?_) (λt rec=>?_) _ ([])<|d e.1).trans ?_;{simp only [zbF c,zbk c,zbt c,zbh c e.1,cT]};{simp only [zbx,cF]};exact zrJ (λ(x:Guest)=>posts x.Ctl b) _ a.Guests 0 [] (by simpa using e.2)
def zI2:vR 249 znS:=kF2 zIh zn zx zo zQU zP9
def zCv (N:Nat)(d:Bare)(g:Int):OA:=
 (iter (σ:=(Int×Int×Int×LI×lG×Unit)) N (λe a=>let c:=a.2.2.2.2.1;let b:=a.2.2.1;let f:=(ix c b zA).Ctl; (cond (ilt b a.2.1) (oN (inb b<|ln c)<|oN (zts f a.1)<|cond (zn1 f a.1) (oN (few<|ln<|ap a.2.2.2.1 [b])<|e (a.1,a.2.1,zQ .i64 b 1,ap a.2.2.2.1 [b],c,()))<|e (a.1,a.2.1,zQ .i64 b 1,a.2.2.2.1,c,()))<|some [aS .int a.2.2.2.1])) (g,ln d.Guests,0,[],d.Guests,()))
def zQN:=zq [(319,0,{n:=27,tm:=[(1,ti),(5,.sl 0 []),(10,.sl 1 []),(11,ti),(12,ti)],lo:=[],ro:=[(0,.int,true),(1,.guest,false)]})]
def zPP (a:Bare)(b:Int)(g:zeF a b=true):∃N,zCv N a b=some [aS .int<|zfM a b]:=by
 have h:=zK.1 g;have e:=zcR h.2.1.1;refine zcw λN d=>?_;unfold zCv oN;conv=>zeta
 refine(zbp a.Guests (λi (t:LI)=>(b,ln a.Guests,(i:Int),t,a.Guests,())) _ (λi (x:Guest) (t:LI) f=>bif posts x.Ctl b then (cond (few<|ln<|ap t [(i:Int)]) (f<|ap t [(i:Int)]) none) else f t) (λ(t:LI)=>some [.one<|.s .int t]) (λi c t rec=>?_) (λt rec=>?_) _ ([])<|d e.1).trans ?_;{simp only [zbF c,zbk c,zbt c,zbh c e.1,cT]};{simp only [zbx,cF]};exact zrJ (λ(x:Guest)=>posts x.Ctl b) _ a.Guests 0 [] (by simpa using e.2)
def zIF:vR 319 znS:=kF2 zIh zn zx zo zQN zPP
def z9A:zbb:=[(249,znS),(319,znS)]++z9z
def zIi:zU z9A:=zi zI2 (zi zIF zIh)
def zFb (n:Int)(l:List Guest)(k:Int):List Guest:=up l k (zmS (ix l k zA) n)
def znI (n:Int)(a:LI)(l:List Guest):List Guest:=a.foldl (zFb n) l
def zEb (n:Int)(l:List Guest)(k:Int):(zFb n l k).length=l.length:=zgy _ _ _
def z2W {n:Int}{l:List Guest}{k:Int}(a:hasB k (ln l)=true)(h:zmE l):zmE (zFb n l k):=zFg h (zXC h a _)
def zEA {n:Int}:∀(a:LI) {l:List Guest},(∀k∈a,hasB k (ln l)=true)->zmE l->zmE (znI n a l)/\(znI n a l).length=l.length
 |[],_,_,h=>⟨h,rfl⟩
 |k::a,l,b,h=>by have e:=z2W (n:=n) (b k (by simp)) h;obtain⟨c,d⟩:=zEA (n:=n) a (l:=zFb n l k) (λj f=>by rw[ln,zEb];exact b j (by simp[f])) e;exact⟨c,d.trans<|zEb _ _ _⟩
def zIt {e:Type}(n:Int)(K:List Guest->Option e):∀(a:LI) (i:Nat) (l:List Guest),(∀k∈a,hasB k (ln l)=true)->
 goL (λ_ k (t:List Guest) d=>bif inb k (ln t) then (cond (inb k<|ln t) (d<|up t k<|zmS (ix t k zA) n) none) else none) K a i l=K (znI n a l)
 |[],_,_,_=>rfl
 |k::a,i,l,h=>by have c:inb k (ln l)=true:=h k (by simp);simp only[goL,c,cT];exact zIt n K a (i+1) (zFb n l k) (λj b=>by rw[ln,zEb];exact h j (by simp[b]))
def zFc (b:Bare)(n:Int):Bare:=bif ieq (ln<|zfe b.Guests n) 0 then {b with Pending:=zqe b.Pending n} else {b with Guests:=znI n (zfe b.Guests n) b.Guests}
def zf3 (b:Bare)(n:Int):Bool:=bif zb0 b then hasB n 8 else false
def zjY (b:Bare)(n:Int):Bare:=bif zf3 b n then zFc b n else b
def zAw {b:Bare}{n:Int}:∀k∈zfe b.Guests n,hasB k (ln b.Guests)=true:=λk a=>by have:=zVO _ _ _ k a;exact qK (by simp only[ln];omega)
def z2l {b:Bare}{n:Int}(h:ieq (ln<|zfe b.Guests n) 0=true):znI n (zfe b.Guests n) b.Guests=b.Guests:=by have a:((zfe b.Guests n).length:Int)=0:=qD h;have:zfe b.Guests n=[]:=uW.1 (by omega);rw[this];rfl
def zNj {b:Bare}{n:Int}:(cond (ieq (ln<|zfe b.Guests n) 0) (some [AV.agg<|Ty.cells .bare ⟨b.Memory,znI n (zfe b.Guests n) b.Guests,b.Outs,zqe b.Pending n⟩,AV.one<|.b true])<|some [AV.agg<|Ty.cells .bare ⟨b.Memory,znI n (zfe b.Guests n) b.Guests,b.Outs,b.Pending⟩,AV.one<|.b true])=some [AV.agg<|Ty.cells .bare<|zFc b n,AV.one<|.b true]:=by unfold zFc;cases h:ieq (ln<|zfe b.Guests n) 0;{rfl};{simp only [cT,z2l h]}
@[simp] abbrev zdu (b:Bare)(n:Int):Bare:=zjY b n
@[simp] abbrev zdN (b:Bare)(n:Int):Bool:=zf3 b n
def zi3:Run:=rF2 (dT .bare) dI λb c=>(zeF b c,[aT .bare<|zdu b c,aB<|zdN b c])
def zCJ (N:Nat)(i:Bare)(e:Int):OA:=
 let b:=zY i; (oN (zbo i)<|oN (zdD b)<|cond (nB<|zb9 b) (some [aT .bare b,aB false])<|oN (zM e 0 7)<|cond (nB<|zk e 0 7) (some [aT .bare b,aB false])<|oN (zeF b e)<|iter (σ:=(Int×Int×Int×Int×LI×lM×lG×LI×lM×lG×LI×Unit)) N (λj a=>let h:=a.2.2.2.2.2.2.2.1;let d:=a.2.2.2.2.1;let c:=a.2.2.2.2.2.2.1;let f:=ix d a.2.1 0;let g:=ix c f zA; (cond (ilt a.2.1<|ln d) (oN (inb a.2.1<|ln d)<|oN (inb a.2.1<|ln d)<|oN (inb f<|ln c)<|oN (zf8 g.Pending a.1)<|oN (inb f<|ln c)<|j (a.1,zQ .i64 a.2.1 1,a.2.2.1,a.2.2.2.1,d,a.2.2.2.2.2.1,up c f ({g with Pending:=(zes g.Pending a.1)}:Guest),h,a.2.2.2.2.2.2.2.2.1,a.2.2.2.2.2.2.2.2.2.1,a.2.2.2.2.2.2.2.2.2.2.1,()))<|cond (ieq (ln d) 0) (oN (zf8 a.2.2.1 a.1)<|some [aT .bare (⟨a.2.2.2.2.2.1,c,h,zes a.2.2.1 a.1⟩:Bare),aB true])<|some [aT .bare (⟨a.2.2.2.2.2.1,c,h,a.2.2.1⟩:Bare),aB true])) (e,0,b.Pending,0,zfM b e,b.Memory,b.Guests,b.Outs,[],[],[],()))
def zQP:=zq [(102,0,{n:=62,tm:=[(1,ti),(2,.lp 0 0),(4,.lp 1 0),(6,.sl 0 []),(7,ti)],lo:=[(0,[.sl 1 [],.sl 2 [],.sl 3 [],ti]),(1,[.sl 4 [],.sl 5 [],.sl 6 [],ti])],ro:=[(0,.int,true),(1,.sl .int,true),(2,.guest,true),(3,.int,true),(4,.sl .int,true),(5,.guest,true),(6,.int,true)]})]
def zP0 (a:Bare)(c:Int)(l:zeF a c=true):∃N,zCJ N a c=some [aT .bare<|zdu a c,aB<|zdN a c]:=by
 have h:=zK.1 l;have j:(zfe a.Guests c).length<=big:=qS (zvF _ _ _) (zcR h.2.1.1).1;refine zcw λN g=>?_;unfold zCJ zdu zdN zjY zf3 oN nB;conv=>zeta
 refine must (zbg h) (must rfl (brN (λe=>?_) λe=>must rfl (brN (λd=>?_) λd=>must (zbg h) ?_)));{simp only [show zb0 a=false from e,cF]};{simp only [show zb0 a=true from e,show hasB c 8=false from by first|exact d|exact(zN9 c).symm.trans d,cT,cF]};simp only[show zb0 a=true from e,show hasB c 8=true from by first|exact d|exact(zN9 c).symm.trans d,cT];refine(zbp (zfM (zY a) c) (λi (t:lG)=>(c,(i:Int),(zY a).Pending,0,zfM (zY a) c,(zY a).Memory,t,(zY a).Outs,[],[],[],())) _ (λ_ k (t:List Guest) m=>bif inb k (ln t) then (cond (inb k<|ln t) (m<|up t k<|zmS (ix t k zA) c) none) else none) (λ(t:lG)=>cond (ieq (ln<|zfM (zY a) c) 0) (cond (zf8 (zY a).Pending c) (some [.agg<|Ty.cells .bare (⟨(zY a).Memory,t,(zY a).Outs,zes (zY a).Pending c⟩:Bare),.one<|.b true]) none)<|some [.agg<|Ty.cells .bare (⟨(zY a).Memory,t,(zY a).Outs,(zY a).Pending⟩:Bare),.one<|.b true]) (λi f t rec=>?_) (λt rec=>?_) _ ((zY a).Guests)<|g j).trans ?_;{simp only [zbF f,zbk f,zbt f,zbh f j,cT];rfl};{simp only [zbx,cF];rfl};exact(zIt c _ _ 0 _ zAw).trans zNj
def zvy:vR 102 zi3:=kF2 zIi zn zx zo zQP zP0
def zCn (N:Nat)(b:Bare)(c:Int):OA:=
 let e:=zY b; (oN (zbo b)<|oN (zdD b)<|cond (nB<|zb9 b) (some [aT .bare e,aB false])<|oN (zM c 0 7)<|cond (nB<|zk c 0 7) (some [aT .bare e,aB false])<|oN (zeF b c)<|iter (σ:=(Int×Int×Int×Int×Int×LI×lM×lG×LI×lM×lG×LI×Unit)) N (λl a=>let h:=a.2.2.2.2.1;let g:=a.2.2.2.2.2.1;let k:=a.2.2.2.2.2.2.2.2.2.1;let i:=a.2.2.2.2.2.2.2.2.2.2.2.1;let f:=ix g a.2.2.1 0;let d:=a.2.2.2.2.2.2.2.2.2.2.1;let j:=ix d f zA; (cond (ilt a.2.2.1 a.2.1) (oN (inb a.2.2.1<|ln g)<|oN (inb f<|ln d)<|oN (zf8 j.Pending a.1)<|oN (inb f<|ln d)<|l (a.1,a.2.1,zQ .i64 a.2.2.1 1,a.2.2.2.1,h,g,a.2.2.2.2.2.2.1,a.2.2.2.2.2.2.2.1,a.2.2.2.2.2.2.2.2.1,k,up d f ({j with Pending:=(zes j.Pending a.1)}:Guest),i,()))<|cond (ieq (ln g) 0) (oN (zf8 h a.1)<|some [aT .bare (⟨k,d,i,zes h a.1⟩:Bare),aB true])<|some [aT .bare (⟨k,d,i,h⟩:Bare),aB true])) (c,ln<|zfM b c,0,0,e.Pending,zfM b c,[],[],[],e.Memory,e.Guests,e.Outs,()))
def zQL:=zq [(183,0,{n:=59,tm:=[(1,ti),(4,.lp 0 0),(6,.lp 1 0),(7,.sl 0 []),(24,.sl 0 []),(25,ti),(26,ti)],lo:=[(0,[.sl 1 [],.sl 2 [],.sl 3 [],ti]),(1,[.sl 4 [],.sl 5 [],.sl 6 [],ti])],ro:=[(0,.int,true),(1,.sl .int,true),(2,.guest,true),(3,.int,true),(4,.sl .int,true),(5,.guest,true),(6,.int,true)]})]
def zPH (a:Bare)(c:Int)(l:zeF a c=true):∃N,zCn N a c=some [aT .bare<|zdu a c,aB<|zdN a c]:=by
 have h:=zK.1 l;have j:(zfe a.Guests c).length<=big:=qS (zvF _ _ _) (zcR h.2.1.1).1;refine zcw λN g=>?_;unfold zCn zdu zdN zjY zf3 oN nB;conv=>zeta
 refine must (zbg h) (must rfl (brN (λe=>?_) λe=>must rfl (brN (λd=>?_) λd=>must (zbg h) ?_)));{simp only [show zb0 a=false from e,cF]};{simp only [show zb0 a=true from e,show hasB c 8=false from by first|exact d|exact(zN9 c).symm.trans d,cT,cF]};simp only[show zb0 a=true from e,show hasB c 8=true from by first|exact d|exact(zN9 c).symm.trans d,cT];refine(zbp (zfM a c) (λi (t:lG)=>(c,ln<|zfM a c,(i:Int),0,(zY a).Pending,zfM a c,[],[],[],(zY a).Memory,t,(zY a).Outs,())) _ (λ_ k (t:List Guest) m=>bif inb k (ln t) then (cond (inb k<|ln t) (m<|up t k<|zmS (ix t k zA) c) none) else none) (λ(t:lG)=>cond (ieq (ln<|zfM a c) 0) (cond (zf8 (zY a).Pending c) (some [.agg<|Ty.cells .bare (⟨(zY a).Memory,t,(zY a).Outs,zes (zY a).Pending c⟩:Bare),.one<|.b true]) none)<|some [.agg<|Ty.cells .bare (⟨(zY a).Memory,t,(zY a).Outs,(zY a).Pending⟩:Bare),.one<|.b true]) (λi f t rec=>?_) (λt rec=>?_) _ ((zY a).Guests)<|g j).trans ?_;{simp only [zbF f,zbk f,zbt f,zbh f j,cT];rfl};{simp only [zbx,cF];rfl};exact(zIt c _ _ 0 _ zAw).trans zNj
def zvw:vR 183 zi3:=kF2 zIi zn zx zo zQL zPH
def z3x:zbb:=[(95,zjJ),(165,zjJ),(96,zih),(167,zih),(97,zhs),(172,zhs),(98,zhu),(174,zhu),(99,zht),(176,zht),(100,zjI),(178,zjI),(180,zrV),(103,zjH),(185,zjH),(102,zi3),(183,zi3)]++z9A
def zDh:zU z3x:=zi zwS (zi zwO<|zi zue<|zi zua<|zi ztf<|zi ztc<|zi zth<|zi zte<|zi ztg<|zi ztd<|zi zwR<|zi zwN<|zi zvv<|zi zwQ<|zi zwM<|zi zvy<|zi zvw zIi)
def z5O {n:Int}(h:(ieq n 4||ieq n 8)=true):n=4\/n=8:=by rcases jW _ _ ▸ h with h|h;{exact .inl (qD h)};{exact .inr (qD h)}
def z4J {n:Int}(h:(ieq n 8||ieq n 12)=true):n=8\/n=12:=by rcases jW _ _ ▸ h with h|h;{exact .inl (qD h)};{exact .inr (qD h)}
@[simp] abbrev zk2 (n:Int):Bool:=ieq n 4||ieq n 8
@[simp] abbrev ziC (n:Int):List Slot:=List.replicate n.toNat ⟨-1,0⟩
def zrY:Run:=rF1 dI λb=>(zk2 b,[aS .slot<|ziC b])
def zUE (N:Nat)(b:Int):OA:=
 (oN (zsA b 0 24)<|iter (σ:=(Int×lS×Unit)) N (λc a=>cond (igt a.1 0) (oN zbW<|oN (few<|ln<|ap a.2.1 [zbl])<|c (wsub .i64 a.1 1,ap a.2.1 [zbl],()))<|some [aS .slot a.2.1]) (ztq b 0 24,[],()))
def zQW:=zq [(394,0,{n:=17,tm:=[(3,.sl 0 []),(4,ti)],lo:=[],ro:=[(0,.slot,true)]})]
def zQf (a:Int)(b:zk2 a=true):∃N,zUE N a=some [aS .slot<|ziC a]:=by refine⟨30,?_⟩;have h:a=4\/a=8:=z5O b;rcases h with rfl|rfl<;>(change _=_;kernel_rfl)
def zvB:vR 394 zrY:=kF1 zDh zn zx zo zQW zQf
@[simp] abbrev zqP (n:Int):Bool:=ieq n 8||ieq n 12
@[simp] abbrev zlJ (n:Int):List LI:=List.replicate n.toNat [0,0,0,0]
def zvX:Run:=rF1 dI λb=>(zqP b,[aS (.sl .int)<|zlJ b])
def z0S (N:Nat)(b:Int):OA:=
 (oN (zsA b 0 24)<|iter (σ:=(Int×lM×Unit)) N (λc a=>cond (igt a.1 0) (oN (cond (few 4) (ieq 4 4) false)<|oN (few<|ln<|ap a.2.1 [rp 4 0])<|c (wsub .i64 a.1 1,ap a.2.1 [rp 4 0],()))<|some [aS (.sl .int) a.2.1]) (ztq b 0 24,[],()))
def zX3:=zq [(343,0,{n:=17,tm:=[(3,.sl 0 []),(4,ti)],lo:=[],ro:=[(0,.sl .int,true)]})]
def zWm (a:Int)(b:zqP a=true):∃N,z0S N a=some [aS (.sl .int)<|zlJ a]:=by refine⟨30,?_⟩;have h:a=8\/a=12:=z4J b;rcases h with rfl|rfl<;>(change _=_;kernel_rfl)
def zyI:vR 343 zvX:=kF1 zDh zn zx zo zX3 zWm
def z3y:zbb:=[(394,zrY),(343,zvX)]++z3x
def zRE:zU z3y:=zi zvB (zi zyI zDh)
def zni:List Slot:=List.replicate 4 ⟨-1,0⟩
def zgk (p:List Ins):Guest:=⟨p,0,0,zni,zni,⟨0,0,false⟩,0,⟨0,0,false,0⟩,false,[]⟩
@[simp] abbrev zkX (p:List Ins):Bool:=pc (p.length<=1048576)
@[simp] abbrev zcY (p:List Ins):Guest:=zgk p
def znO:Run:=rF1 (dS .ins) λb=>(zkX b,[aT .guest<|zcY b])
def zCM (N:Nat)(a:lI):OA:=
 (oN (few<|ln<|ap [] a)<|oN (zk2 4)<|oN (zk2 4)<|some [aT .guest (⟨ap [] a,0,0,ziC 4,ziC 4,⟨0,0,false⟩,0,⟨0,0,false,0⟩,false,[]⟩:Guest)])
def zP3 (a:List Ins)(b:zkX a=true):∃N,zCM N a=some [aT .guest<|zcY a]:=by have c:=zK.1 b;refine⟨0,?_⟩;unfold zCM oN;refine mu (must rfl (must rfl ?_));first|rfl|(simp only [*,zcY,zgk,zni,cT,cF]<;>rfl)|simp_all[Ty.cells,zcY,zgk,zni]
def zpj:vR 347 znO:=kF1 zRE zn zx zo (zq []) zP3
def zbcj:zbb:=[(347,znO)]++z3y
def zs3:zU zbcj:=zi zpj zRE
def zQo:List LI:=List.replicate 8 [0,0,0,0]
def SmPs (a:List (List Ins)):Prop:=a.length<=1048576/\∀p∈a,p.length<=1048576
def zR1 {d c j:Type}(m:Nat)(f:d->c)(K:List c->Option j):∀(l:List d) (i:Nat) (a:List c),a.length+l.length<=2147483648->
 goL (λ(i:Nat) x a k=>bif ilt (i:Int) (m:Int) then (cond (few<|ln<|ap a [f x]) (k<|ap a [f x]) none) else K a) K l i a=K (a++(l.take<|m-i).map f)
 |[],i,a,_=>by simp[goL]
 |x::l,i,a,g=>by simp only[jB]at g;have e:few (ln<|ap a [f x])=true:=zhW (by simp[ap];omega);by_cases h:i<m;{have b:ilt (i:Int) (m:Int)=true:=qK (by omega);simp only[goL,b,e,cT];rw[zR1 m f K l (i+1) (ap a [f x]) (by simp[ap];omega)];rw[show m-i=m-(i+1)+1 by omega];simp[ap]};{have b:ilt (i:Int) (m:Int)=false:=qH (by omega);simp only[goL,b,cF];rw[show m-i=0 by omega];simp}
@[simp] abbrev zm4 (a:GAct):Bool:=true
@[simp] abbrev zzp (a:GAct):Bool:=zk a.Kind 1 17
def zHC:Run:=rF1 (dT .act) λb=>(zm4 b,[aB<|zzp b])
def zRf (N:Nat)(a:GAct):OA:=
 (oN (zM a.Kind 1 17)<|some [aB<|zk a.Kind 1 17])
def zYX (a:GAct)(b:zm4 a=true):∃N,zRf N a=some [aB<|zzp a]:=by refine⟨0,?_⟩;unfold zRf oN;refine must rfl ?_;first|rfl|(simp only [*,zzp,cT,cF]<;>rfl)|simp_all[Ty.cells,zzp]
def zSJ:vR 25 zHC:=kF1 zs3 zn zx zo (zq []) zYX
@[simp] abbrev ziM (k:Int):Bool:=true
@[simp] abbrev ziL (k:Int):Bool:=zk k 13 17
def zjK:Run:=rF1 dI λb=>(ziM b,[aB<|ziL b])
def zGO (N:Nat)(a:Int):OA:=
 (oN (zM a 13 17)<|some [aB<|zk a 13 17])
def zBr (a:Int)(b:zbS big [aI a])(c:ziM a=true):∃N,zGO N a=some [aB<|ziL a]:=by refine⟨0,?_⟩;unfold zGO oN;refine must rfl ?_;first|rfl|(simp only [*,ziL,cT,cF]<;>rfl)|simp_all[Ty.cells,ziL]
def zwV:vR 13 zjK:=hF1 zs3 zn zx zo (zq []) zBr
@[simp] abbrev zml (a:GAct):Ctl:=⟨a.X,a.Y,ieq a.Z 1⟩
def zsq:Run:=rF1 (dT .act) λb=>(zm4 b,[.agg<|zoh<|zml b])
def zRg (N:Nat)(a:GAct):OA:=
 (some [.agg [.i .i64 a.X,.i .i64 a.Y,.b<|ieq a.Z 1]])
def zHo (a:GAct)(b:zbS big [aT .act a])(c:zm4 a=true):∃N,zRg N a=some [.agg<|zoh<|zml a]:=by refine⟨0,?_⟩;unfold zRg;first|rfl|(simp only [*,zml,cT,cF]<;>rfl)|simp_all[Ty.cells,zml]
def zSK:vR 23 zsq:=hF1 zs3 zn zx zo (zq []) zHo
def zwP:vR 10 zjK:=hF1 zs3 zn zx zo (zq []) zBr
def zSx:vR 22 zsq:=hF1 zs3 zn zx zo (zq []) zHo
def zU4:zbb:=[(95,zjJ),(165,zjJ),(96,zih),(167,zih),(97,zhs),(172,zhs),(98,zhu),(174,zhu),(99,zht),(176,zht),(100,zjI),(178,zjI),(180,zrV),(103,zjH),(185,zjH),(102,zi3),(183,zi3),(343,zvX)]++z9w
def zDi:zU zU4:=zi zwS (zi zwO<|zi zue<|zi zua<|zi ztf<|zi ztc<|zi zth<|zi zte<|zi ztg<|zi ztd<|zi zwR<|zi zwN<|zi zvv<|zi zwQ<|zi zwM<|zi zvy<|zi zvw<|zi zyI z6N)
def zdP (x:Mon):Bare:=⟨zQo,x.Guests,x.Outs,x.Pending⟩
def zsc (x:Mon)(b:Bare):Mon:={x with Guests:=b.Guests,Pending:=b.Pending}
def zcK (h:Host)(m:Int)(b:Bare):Host:={h with Mons:=up h.Mons m (zsc (ix h.Mons m mZ) b)}
@[simp] abbrev zgc (x:Mon):Bool:=pc (zfC x)
@[simp] abbrev zb5 (x:Mon):Bare:=zdP x
def zBQ:Run:=rF1 (dT .mon) λb=>(zgc b,[aT .bare<|zb5 b])
def zG5 (N:Nat)(a:Mon):OA:=
 (oN (zqP 8)<|oN (zhh a.Guests)<|oN (few<|ln<|ap [] a.Outs)<|some [aT .bare (⟨zlJ 8,zhR a.Guests,ap [] a.Outs,a.Pending⟩:Bare)])
def zTQ (a:Mon)(c:zgc a=true):∃N,zG5 N a=some [aT .bare<|zb5 a]:=by have b:=zK.1 c;refine⟨0,?_⟩;unfold zG5 oN;exact must rfl (must (zbg<|(zwC _).2 b.2.2.2.1) (must (zpz b.2.2.2.2.1) rfl))
def zMw:vR 210 zBQ:=kF1 zDi zn zbH zik (zq []) zTQ
@[simp] abbrev zgb (h:Host)(m:Int)(b:Bare):Bool:=pc (hasB m (ln h.Mons)=true/\zmE b.Guests)
@[simp] abbrev ziU (h:Host)(m:Int)(b:Bare):Host:=zcK h m b
def zN4 {l:List Mon}{m:Int}(a:hasB m (ln l)=true)(b:Bare):inb m (ln<|up l m {ix l m mZ with Guests:=b.Guests})=true/\
 up (up l m {ix l m mZ with Guests:=b.Guests}) m {ix (up l m {ix l m mZ with Guests:=b.Guests}) m mZ with Pending:=b.Pending}=up l m (zsc (ix l m mZ) b):=by
 obtain⟨k,rfl,c⟩:=zeI (n:=l.length) a;refine⟨zC (by rw[ln,zgy];exact a),?_⟩
 rw[zrn,zd8 c];rfl
def zt0:LW
 |[.agg [.s (.sl .int) b,.s .mon c,.s .entry d,.s .entry e],.one<|.i .i64 f,.agg [.s (.sl .int) g,.s .guest h,.s .int j,.i .i64 k]]=>some (zgb (⟨b,c,d,e⟩:Host) f (⟨g,h,j,k⟩:Bare),[aH<|ziU (⟨b,c,d,e⟩:Host) f (⟨g,h,j,k⟩:Bare)])
 |_=>none
def zxM (N:Nat)(b:Host)(a:Int)(c:Bare):OA:=
 (oN (zhh c.Guests)<|oN (inb a<|ln b.Mons)<|share (up b.Mons a ({ (ix b.Mons a zh) with Guests:=(zhR c.Guests)}:Mon)) λd=>oN (inb a<|ln d)<|share (up d a ({ (ix d a zh) with Pending:=c.Pending}:Mon)) λe=>some [aH ({b with Mons:=e}:Host)])
def zWO (N:Nat)(a:Host)(b:Int)(c:Bare):z1s (cQ zU4 zp8 z2k z8k) (zq []) N 12 211 [true,true,true,true,false,false,false,false,false] [aH a,aI b,aT .bare c]=zxM N a b c:=by kernel_rfl
def zTP (b:Host)(c:Int)(a:Bare)(i:zbS big [aH b,aI c,aT .bare a])(h:zgb b c a=true):∃N,zxM N b c a=some [aH<|ziU b c a]:=by obtain⟨d,hg⟩:=zK.1 h;obtain⟨f,g⟩:=zN4 d a;refine⟨0,?_⟩;unfold zxM oN;refine must (zbg<|(zwC _).2 hg) (must (zC d)<|shr<|must f<|shr ?_);have e:zhR a.Guests=a.Guests:=rfl;rw[e];show some [AV.agg<|zbi {b with Mons:=_}]=some [AV.agg<|zbi {b with Mons:=_}];rw[show zh=mZ from rfl,g]
def zMv:zfn Tryz.prog 211 [true,true,true,true,false,false,false,false,false] none zt0:=by refine zOt (zid zDi zn zbH zik) (zkz (by kernel_rfl)) (by kernel_rfl) ?_;intro a g f e h;have c:=zkF e;unfold zt0 at h;split at h;{obtain⟨d,rfl⟩:=zfd h;obtain⟨N,b⟩:=zTP _ _ _ (by exact c) d;exact⟨_,N,12,(zWO N _ _ _ ).trans b⟩};{cases h}
def z3D:zbb:=[(210,zBQ)]++zU4
def zfp:zU z3D:=zi zMw zDi
def zbdD:zgB:=[(211,[true,true,true,true,false,false,false,false,false],none,zt0)]++z8k
def zca:zfg zbdD:=zr3 zik (by
 intro x a;simp only[qG,qO,or_false]at a;rcases a with rfl
 .exact zMv)
def zbak (h:Host)(m:Int)(c:Bool)(B:Bare)(ok:Bool)(a b:Host->Ans):OA:=
 bif zT h then (cond (zct h) (cond (cond (zcn h) false true) (some<|a h)<|cond (zbm m<|ln h.Mons) (cond (cond (zcj m<|ln h.Mons) false true) (some<|a h)<|cond (zc3 h m) (cond c (cond ok (cond (zdk B.Guests) (cond (inb m<|ln h.Mons) (share (up h.Mons m {ix h.Mons m mZ with Guests:=B.Guests}) λx=>cond (inb m<|ln x) (share (up x m {ix x m mZ with Pending:=B.Pending}) λy=>some (b {h with Mons:=y})) none) none) none)<|some<|b h) none) none) none) none) else none
def zbap (h:Host)(m:Int)(a:Bool)(B:Bare)(b c:Host->Ans):OA:=
 bif zT h then (cond (zg3 h m) (cond (cond (zg2 h m) false true) (some<|b h)<|cond (inb m<|ln h.Mons) (cond (zgc<|ix h.Mons m mZ) (cond a (cond (zgb h m B) (some<|c<|zcK h m B) none) none) none) none) none) else none
def zbu {h:Host}{m:Int}:(zcl h m=true)↔zb2 h=true/\hasB m (ln h.Mons)=true:=by unfold zcl;cases zb2 h<;>simp
def zpn {h:Host}{m:Int}{cB:Bool}{B:Bare}{ok:Bool}{o0 o1:Host->Ans}(l:SmH h)(k:zcl h m=true->cB=true)(j:zcl h m=true->SmB B)(c:zcl h m=true->ok=false->zcK h m B=h) :
 zbak h m cB B ok o0 o1=some (cond (zcl h m) (o1<|zcK h m B)<|o0 h):=by
 have i:zdz h:=(zS h).2 l;unfold zbak;refine must (zbg i) (must rfl ?_);rw[show zcn h=zb2 h from rfl]
 have g:zb2 h=true->hasB m (ln h.Mons)=true->cB=true:=λa b=>k (zbu.2 ⟨a,b⟩);have f:zb2 h=true->hasB m (ln h.Mons)=true->SmB B:=λa b=>j (zbu.2 ⟨a,b⟩);unfold zcl at c ⊢;cases e:zb2 h
 .rfl
 .refine zcf rfl (must rfl ?_);rw[show zcj m (ln h.Mons)=hasB m (ln h.Mons) from rfl]
  rw[e]at c;cases d:hasB m (ln h.Mons)
  .rfl
  .rw [d]at c;refine zcf rfl (must (zbs i)<|must (g e d) ?_);cases ok
   .simp only [cT,cF,c rfl rfl]
   .obtain⟨e1,e2⟩:=zN4 d B;refine must rfl (must (zbg (f e d).2.1)<|must (zC d)<|shr<|must e1<|shr ?_)
    show some (o1 {h with Mons:=_})=_
    rw[e2];rfl
def zpx {h:Host}{m:Int}{cB:Bool}{B:Bare}{o0 o1:Host->Ans}(c:SmH h)(e:zcl h m=true->cB=true)(d:zcl h m=true->SmB B):zbap h m cB B o0 o1=some (cond (zcl h m) (o1<|zcK h m B)<|o0 h):=by unfold zbap;refine must (zbg<|(zS h).2 c) (must rfl ?_);rw[show zg2 h m=zcl h m from rfl];cases a:zcl h m;{rfl};{have b:=(zbu.1 a).2;exact zcf rfl (must (zC b)<|must (zbg<|c.2.1.2 _<|zbM b _)<|must (e a) (must (zbg ⟨b,(d a).2.1⟩) rfl))}
structure SameB (b c:Bare):Prop where
 g:b.Guests=c.Guests
 p:b.Pending=c.Pending
 o:zb0 b=zb0 c
def SameB.at {b c:Bare}(h:SameB b c)(g:Int):gAt b g=gAt c g:=by unfold gAt;rw[h.g]
def SameB.has {b c:Bare}(h:SameB b c)(g:Int):zb1 b g=zb1 c g:=by unfold zb1;rw[h.g,h.o]
def back_eq {h:Host}{m:Int}{b c:Bare}(hg:b.Guests=c.Guests)(a:b.Pending=c.Pending):zcK h m b=zcK h m c:=by unfold zcK zsc;rw[hg,a]
def zrA {b c:Bare}(a:SameB b c)(h:Host)(m g:Int)(k:Bool)(x:Guest):zcK h m (chg b g k x)=zcK h m (chg c g k x):=by unfold chg;rw[a.has];cases (cond (zb1 c g) k false);{exact back_eq a.g a.p};{exact back_eq (by simp only[cT,zeN,a.g]) a.p}
def zns {b c:Bare}(a:SameB b c)(g:Int)(k:Bool):zb4 b g k=zb4 c g k:=by unfold zb4;rw[a.has]
def zld {h:Host}{m:Int}(a:hasB m (ln h.Mons)=true):zcK h m (zB h m)=h:=by unfold zcK zsc zB;rw[a,cT];simp only;rw[zYj a]
def zlj {h:Host}{m:Int}(b:zcl h m=true)(d:zb0 (zdP<|ix h.Mons m mZ)=true):SameB (zdP<|ix h.Mons m mZ) (zB h m):=by obtain⟨c,a⟩:=zbu.1 b;refine⟨?_,?_,d.trans (zsd c a).symm⟩<;>unfold zB zdP<;>rw [a]<;>rfl
def zbbj:zjW zQo 8=true:=by decide
def zpM {h:Host}{m:Int}(b:zcl h m=true):zb0 (zdP<|ix h.Mons m mZ)=true:=by obtain⟨c,a⟩:=zbu.1 b;have:=zsd c a;unfold zB at this;rw[a,cT] at this;unfold zb0 at this ⊢;simp only[zdP,zbbj] at *;simp_all
def zgl {x:Mon}(h:zfC x):SmB (zdP x):=⟨show SmM zQo from ⟨by decide,by decide⟩,h.2.2.2.1,h.2.2.2.2.1⟩
def zvm {b:Bare}{g:Int}{k:Bool}{x:Guest}(h:zb4 b g k=false):chg b g k x=b:=by unfold chg;unfold zb4 at h;rw[h];rfl
def zgg (h:Host)(m:Int)(b:Bare):Host:=bif zcl h m then zcK h m b else h
def zfl (h:Host)(m:Int)(ok:Bool):Bool:=bif zcl h m then ok else false
@[simp] abbrev zgE (h:Host)(m:Int)(g p:Int)(s:Slot):Host:=zgg h m (zdH (zB h m) g p s)
@[simp] abbrev zhI (h:Host)(m:Int)(g p:Int)(s:Slot):Bool:=zfl h m (zdV (zB h m) g p s)
@[simp] abbrev ze6 (h:Host)(m:Int)(g v:Int):Host:=zgg h m (zcq (zB h m) g v)
@[simp] abbrev zfH (h:Host)(m:Int)(g v:Int):Bool:=zfl h m (zcz (zB h m) g v)
@[simp] abbrev ze8 (h:Host)(m:Int)(g:Int):Host:=zgg h m (zcs (zB h m) g)
@[simp] abbrev zfJ (h:Host)(m:Int)(g:Int):Bool:=zfl h m (zcB (zB h m) g)
@[simp] abbrev ze7 (h:Host)(m:Int)(g n:Int):Host:=zgg h m (zcr (zB h m) g n)
@[simp] abbrev zfI (h:Host)(m:Int)(g n:Int):Bool:=zfl h m (zcA (zB h m) g n)
@[simp] abbrev zhG (h:Host)(m:Int)(g:Int)(x:Ctl):Host:=zgg h m (zde (zB h m) g x)
@[simp] abbrev zhH (h:Host)(m:Int)(g:Int)(x:Ctl):Bool:=zfl h m (zdq (zB h m) g x)
@[simp] abbrev zf6 (h:Host)(m:Int)(n:Int):Host:=zgg h m (zdu (zB h m) n)
@[simp] abbrev zgV (h:Host)(m:Int)(n:Int):Bool:=zfl h m (zdN (zB h m) n)
@[simp] abbrev zgD (h:Host)(m:Int):Host:=zgg h m (zdp<|zB h m)
@[simp] abbrev zhE (h:Host)(m:Int):Int:=bif zcl h m then zer (zB h m) else -1
@[simp] abbrev zhF (h:Host)(m:Int):Bool:=zfl h m (zdG<|zB h m)
@[simp] abbrev zge (h:Host)(m g p:Int):Bool:=zfl h m (zb4 (zB h m) g<|hasB p 4)
def z5h {b c:Bare}(a:SameB b c)(n:Int):(zjY b n).Guests=(zjY c n).Guests/\(zjY b n).Pending=(zjY c n).Pending/\zf3 b n=zf3 c n:=by have e:zf3 b n=zf3 c n:=(by unfold zf3;rw[a.o]);unfold zjY;rw[e];cases zf3 c n;{exact⟨a.g,a.p,rfl⟩};{unfold zFc;rw[a.g];cases ieq (ln<|zfe c.Guests n) 0;{exact⟨by simp only[cT,cF],by simp only[cT,cF,a.p],rfl⟩};{exact⟨by simp only[cT,a.g],by simp only[cT,a.p],rfl⟩}}
def z5g {b:Bare}{n:Int}(h:zf3 b n=false):zjY b n=b:=by unfold zjY;rw[h];rfl
def z5X {b c:Bare}(a:SameB b c):(zlm b).Guests=(zlm c).Guests/\(zlm b).Pending=(zlm c).Pending/\zrz b=zrz c/\zkx b=zkx c:=by unfold zlm zrz zkx;rw[a.o,a.p];cases zb0 c;{exact⟨a.g,a.p,rfl,rfl⟩};{exact⟨a.g,rfl,rfl,rfl⟩}
def z5W {b:Bare}(h:zkx b=false):zlm b=b:=by unfold zlm;unfold zkx at h;cases c:zb0 b;{rfl};{rw [c]at h;have a:ilt (zeB b.Pending) 0=true:=(by simpa using h);unfold zhr;simp only[a,cT]}
def z5G {b:Bare}{n:Int}(h:SmB b):SmB (zjY b n):=by unfold zjY;cases zf3 b n;{exact h};{unfold zFc;cases ieq (ln<|zfe b.Guests n) 0;{exact⟨h.1,(zEA _ zAw h.2.1).1,h.2.2⟩};{exact h}}
def z7W {b:Bare}(h:SmB b):SmB (zlm b):=by unfold zlm;cases zb0 b;{exact h};{exact h}
def zuT {H a:Host}{x y:Bool}(c:H=a)(d:x=y):some [AV.agg<|zbi H,AV.one<|.b x]=some [AV.agg<|zbi a,AV.one<|.b y]:=by rw[c,d]
def zbaG {H a:Host}{n k:Int}{x y:Bool}(c:H=a)(d:n=k)(e:x=y):some [AV.agg<|zbi H,AV.one<|.i .i64 n,AV.one<|.b x]=some [AV.agg<|zbi a,AV.one<|.i .i64 k,AV.one<|.b y]:=by rw[c,d,e]
def zQF {b:Bare}(g p:Int)(s:Slot)(a:SmB b):SmB (zdH b g p s):=zpK a (zXD _ _<|zgw _ a)
def z7x {b:Bare}(g p:Int)(s:Slot)(a:zdV b g p s=false):zdH b g p s=b:=zvm a
def z7S {b c:Bare}(a:SameB b c)(h:Host)(m:Int)(g p:Int)(s:Slot):zcK h m (zdH b g p s)=zcK h m (zdH c g p s)/\zdV b g p s=zdV c g p s:=by have e:=a.at g;simp only[zdH,zdV,e];exact⟨zrA a _ _ _ _ _,zns a _ _⟩
@[simp] abbrev zoD (h:Host)(m:Int)(g p:Int)(s:Slot):Bool:=pc (zdz h)
def zoY:Run:=rF5 dH dI dI dI (dT .slot) λb c d e f=>(zoD b c d e f,[aH<|zgE b c d e f,aB<|zhI b c d e f])
def zGN (N:Nat)(g:Host)(b d e:Int)(f:Slot):OA:=
 let a:=zl g;let c:=ix a.Mons b zh; (oN (zT g)<|oN (zg3 a b)<|cond (nB<|zg2 a b) (some [aH a,aB false])<|oN (inb b<|ln a.Mons)<|oN (zgc c)<|oN (zki (zb5 c) d e f)<|oN (zgb a b<|zdH (zb5 c) d e f)<|some [aH<|ziU a b<|zdH (zb5 c) d e f,aB<|zdV (zb5 c) d e f])
def zTw (a:Host)(c d e:Int)(f:Slot)(n:zoD a c d e f=true):∃N,zGN N a c d e f=some [aH<|zgE a c d e f,aB<|zhI a c d e f]:=by
 have i:=(zS a).1 (zK.1 n);refine⟨0,?_⟩;have j:=zpx (h:=a) (m:=c) (cB:=zki (zdP<|ix a.Mons c mZ) d e f) (B:=zdH (zdP<|ix a.Mons c mZ) d e f) (o0:=λH=>[.agg<|zbi H,.one<|.b false]) (o1:=λH=>[.agg<|zbi H,.one<|.b<|zdV (zdP<|ix a.Mons c mZ) d e f]) i
  (λg=>zbg (zgl<|i.2.1.2 _<|zbM (zbu.1 g).2 _)) (λg=>zQF _ _ _ (zgl<|i.2.1.2 _<|zbM (zbu.1 g).2 _))
 refine(show zGN 0 a c d e f=_ from j).trans ?_;unfold zgE zhI zgg zfl;cases g:zcl a c;{rfl};{obtain⟨k,l⟩:=z7S (zlj g<|zpM g) a c d e f;simp only[cT];exact zuT k l}
def zL4:vR 76 zoY:=kF5 zfp zn zbH zca (zq []) zTw
def zGq (N:Nat)(b:Host)(a d e:Int)(f:Slot):OA:=
 let c:=zl b;let h:=zdj b a;let j:=zdH h d e f;let i:=zdV h d e f; (oN (zT b)<|oN (zct b)<|cond (nB<|zcn b) (some [aH c,aB false])<|oN (zbm a<|ln b.Mons)<|cond (nB<|zcj a<|ln b.Mons) (some [aH c,aB false])<|oN (zc3 b a)<|oN (zki h d e f)<|cond i (oN (zdk j.Guests)<|oN (inb a<|ln c.Mons)<|share (up c.Mons a ({ (ix c.Mons a zh) with Guests:=(zdZ j.Guests)}:Mon)) λg=>oN (inb a<|ln g)<|share (up g a ({ (ix g a zh) with Pending:=j.Pending}:Mon)) λk=>some [aH ({c with Mons:=k}:Host),aB i])<|some [aH c,aB i])
def zTb (a:Host)(c d e:Int)(f:Slot)(k:zoD a c d e f=true):∃N,zGq N a c d e f=some [aH<|zgE a c d e f,aB<|zhI a c d e f]:=by
 have i:=(zS a).1 (zK.1 k);refine⟨0,?_⟩;have j:=zpn (h:=a) (m:=c) (cB:=zki (zB a c) d e f) (B:=zdH (zB a c) d e f) (ok:=zdV (zB a c) d e f) (o0:=λH=>[.agg<|zbi H,.one<|.b false]) (o1:=λH=>[.agg<|zbi H,.one<|.b<|zdV (zB a c) d e f]) i
  (λg=>zbg (zeY i (zbu.1 g).2)) (λg=>zQF _ _ _ (zeY i (zbu.1 g).2)) (λg l=>(congrArg (zcK a c)<|z7x _ _ _ l).trans (zld (zbu.1 g).2))
 refine(show zGq 0 a c d e f=_ from j).trans ?_;unfold zgE zhI zgg zfl;cases zcl a c<;>rfl
def zLK:vR 53 zoY:=kF5 zfp zn zbH zca (zq []) zTb
def zAK {b:Bare}(g v:Int)(a:SmB b):SmB (zcq b g v):=zpK a (z7X _<|zgw _ a)
def zZb {b:Bare}(g v:Int)(a:zcz b g v=false):zcq b g v=b:=zvm a
def zZA {b c:Bare}(a:SameB b c)(h:Host)(m:Int)(g v:Int):zcK h m (zcq b g v)=zcK h m (zcq c g v)/\zcz b g v=zcz c g v:=by have e:=a.at g;simp only[zcq,zcz,e];exact⟨zrA a _ _ _ _ _,zns a _ _⟩
@[simp] abbrev zkY (h:Host)(m:Int)(g v:Int):Bool:=pc (zdz h)
def zlF:Run:=rF4 dH dI dI dI λb c d e=>(zkY b c d e,[aH<|ze6 b c d e,aB<|zfH b c d e])
def zyv (N:Nat)(f:Host)(b d e:Int):OA:=
 let a:=zl f;let c:=ix a.Mons b zh; (oN (zT f)<|oN (zg3 a b)<|cond (nB<|zg2 a b) (some [aH a,aB false])<|oN (inb b<|ln a.Mons)<|oN (zgc c)<|oN (zhv (zb5 c) d e)<|oN (zgb a b<|zcq (zb5 c) d e)<|some [aH<|ziU a b<|zcq (zb5 c) d e,aB<|zcz (zb5 c) d e])
def zJA (a:Host)(c d e:Int)(l:zkY a c d e=true):∃N,zyv N a c d e=some [aH<|ze6 a c d e,aB<|zfH a c d e]:=by
 have g:=(zS a).1 (zK.1 l);refine⟨0,?_⟩;have i:=zpx (h:=a) (m:=c) (cB:=zhv (zdP<|ix a.Mons c mZ) d e) (B:=zcq (zdP<|ix a.Mons c mZ) d e) (o0:=λH=>[.agg<|zbi H,.one<|.b false]) (o1:=λH=>[.agg<|zbi H,.one<|.b<|zcz (zdP<|ix a.Mons c mZ) d e]) g
  (λf=>zbg (zgl<|g.2.1.2 _<|zbM (zbu.1 f).2 _)) (λf=>zAK _ _ (zgl<|g.2.1.2 _<|zbM (zbu.1 f).2 _))
 refine(show zyv 0 a c d e=_ from i).trans ?_;unfold ze6 zfH zgg zfl;cases f:zcl a c;{rfl};{obtain⟨j,k⟩:=zZA (zlj f<|zpM f) a c d e;simp only[cT];exact zuT j k}
def zDG:vR 78 zlF:=kF4 zfp zn zbH zca (zq []) zJA
def zym (N:Nat)(b:Host)(a c d:Int):OA:=
 let f:=zl b;let e:=zdj b a; (oN (zT b)<|oN (zct b)<|cond (nB<|zcn b) (some [aH f,aB false])<|oN (zbm a<|ln b.Mons)<|cond (nB<|zcj a<|ln b.Mons) (some [aH f,aB false])<|oN (zc3 b a)<|oN (zhv e c d)<|cond (zcz e c d) (oN (zdk (zcq e c d).Guests)<|oN (inb a<|ln f.Mons)<|share (up f.Mons a ({ (ix f.Mons a zh) with Guests:=(zdZ (zcq e c d).Guests)}:Mon)) λg=>oN (inb a<|ln g)<|share (up g a ({ (ix g a zh) with Pending:=(zcq e c d).Pending}:Mon)) λh=>some [aH ({f with Mons:=h}:Host),aB<|zcz e c d])<|some [aH f,aB<|zcz e c d])
def zJr (a:Host)(c d e:Int)(j:zkY a c d e=true):∃N,zym N a c d e=some [aH<|ze6 a c d e,aB<|zfH a c d e]:=by
 have g:=(zS a).1 (zK.1 j);refine⟨0,?_⟩;have i:=zpn (h:=a) (m:=c) (cB:=zhv (zB a c) d e) (B:=zcq (zB a c) d e) (ok:=zcz (zB a c) d e) (o0:=λH=>[.agg<|zbi H,.one<|.b false]) (o1:=λH=>[.agg<|zbi H,.one<|.b<|zcz (zB a c) d e]) g
  (λf=>zbg (zeY g (zbu.1 f).2)) (λf=>zAK _ _ (zeY g (zbu.1 f).2)) (λf k=>(congrArg (zcK a c)<|zZb _ _ k).trans (zld (zbu.1 f).2))
 refine(show zym 0 a c d e=_ from i).trans ?_;unfold ze6 zfH zgg zfl;cases zcl a c<;>rfl
def zDz:vR 55 zlF:=kF4 zfp zn zbH zca (zq []) zJr
def zAM {b:Bare}(g:Int)(a:SmB b):SmB (zcs b g):=zpK a (z7Y<|zgw _ a)
def zZd {b:Bare}(g:Int)(a:zcB b g=false):zcs b g=b:=zvm a
def zZC {b c:Bare}(a:SameB b c)(h:Host)(m:Int)(g:Int):zcK h m (zcs b g)=zcK h m (zcs c g)/\zcB b g=zcB c g:=by have e:=a.at g;simp only[zcs,zcB,e];exact⟨zrA a _ _ _ _ _,zns a _ _⟩
@[simp] abbrev zk0 (h:Host)(m:Int)(g:Int):Bool:=pc (zdz h)
def zlH:Run:=rF3 dH dI dI λb c d=>(zk0 b c d,[aH<|ze8 b c d,aB<|zfJ b c d])
def zyx (N:Nat)(e:Host)(b d:Int):OA:=
 let a:=zl e;let c:=ix a.Mons b zh; (oN (zT e)<|oN (zg3 a b)<|cond (nB<|zg2 a b) (some [aH a,aB false])<|oN (inb b<|ln a.Mons)<|oN (zgc c)<|oN (zcD (zb5 c) d)<|oN (zgb a b<|zcs (zb5 c) d)<|some [aH<|ziU a b<|zcs (zb5 c) d,aB<|zcB (zb5 c) d])
def zJC (a:Host)(c d:Int)(k:zk0 a c d=true):∃N,zyx N a c d=some [aH<|ze8 a c d,aB<|zfJ a c d]:=by
 have f:=(zS a).1 (zK.1 k);refine⟨0,?_⟩;have g:=zpx (h:=a) (m:=c) (cB:=zcD (zdP<|ix a.Mons c mZ) d) (B:=zcs (zdP<|ix a.Mons c mZ) d) (o0:=λH=>[.agg<|zbi H,.one<|.b false]) (o1:=λH=>[.agg<|zbi H,.one<|.b<|zcB (zdP<|ix a.Mons c mZ) d]) f
  (λe=>zbg (zgl<|f.2.1.2 _<|zbM (zbu.1 e).2 _)) (λe=>zAM _ (zgl<|f.2.1.2 _<|zbM (zbu.1 e).2 _))
 refine(show zyx 0 a c d=_ from g).trans ?_;unfold ze8 zfJ zgg zfl;cases e:zcl a c;{rfl};{obtain⟨i,j⟩:=zZC (zlj e<|zpM e) a c d;simp only[cT];exact zuT i j}
def zDI:vR 79 zlH:=kF3 zfp zn zbH zca (zq []) zJC
def zyo (N:Nat)(b:Host)(a c:Int):OA:=
 let e:=zl b;let d:=zdj b a; (oN (zT b)<|oN (zct b)<|cond (nB<|zcn b) (some [aH e,aB false])<|oN (zbm a<|ln b.Mons)<|cond (nB<|zcj a<|ln b.Mons) (some [aH e,aB false])<|oN (zc3 b a)<|oN (zcD d c)<|cond (zcB d c) (oN (zdk (zcs d c).Guests)<|oN (inb a<|ln e.Mons)<|share (up e.Mons a ({ (ix e.Mons a zh) with Guests:=(zdZ (zcs d c).Guests)}:Mon)) λf=>oN (inb a<|ln f)<|share (up f a ({ (ix f a zh) with Pending:=(zcs d c).Pending}:Mon)) λg=>some [aH ({e with Mons:=g}:Host),aB<|zcB d c])<|some [aH e,aB<|zcB d c])
def zJt (a:Host)(c d:Int)(i:zk0 a c d=true):∃N,zyo N a c d=some [aH<|ze8 a c d,aB<|zfJ a c d]:=by
 have f:=(zS a).1 (zK.1 i);refine⟨0,?_⟩;have g:=zpn (h:=a) (m:=c) (cB:=zcD (zB a c) d) (B:=zcs (zB a c) d) (ok:=zcB (zB a c) d) (o0:=λH=>[.agg<|zbi H,.one<|.b false]) (o1:=λH=>[.agg<|zbi H,.one<|.b<|zcB (zB a c) d]) f
  (λe=>zbg (zeY f (zbu.1 e).2)) (λe=>zAM _ (zeY f (zbu.1 e).2)) (λe j=>(congrArg (zcK a c)<|zZd _ j).trans (zld (zbu.1 e).2))
 refine(show zyo 0 a c d=_ from g).trans ?_;unfold ze8 zfJ zgg zfl;cases zcl a c<;>rfl
def zDB:vR 56 zlH:=kF3 zfp zn zbH zca (zq []) zJt
def zAL {b:Bare}(g n:Int)(a:SmB b):SmB (zcr b g n):=zpK a (zgw (b:=b) _ a)
def zZc {b:Bare}(g n:Int)(a:zcA b g n=false):zcr b g n=b:=zvm a
def zZB {b c:Bare}(a:SameB b c)(h:Host)(m:Int)(g n:Int):zcK h m (zcr b g n)=zcK h m (zcr c g n)/\zcA b g n=zcA c g n:=by have e:=a.at g;simp only[zcr,zcA,e];exact⟨zrA a _ _ _ _ _,zns a _ _⟩
@[simp] abbrev zkZ (h:Host)(m:Int)(g n:Int):Bool:=pc (zdz h)
def zlG:Run:=rF4 dH dI dI dI λb c d e=>(zkZ b c d e,[aH<|ze7 b c d e,aB<|zfI b c d e])
def zyw (N:Nat)(f:Host)(b d e:Int):OA:=
 let a:=zl f;let c:=ix a.Mons b zh; (oN (zT f)<|oN (zg3 a b)<|cond (nB<|zg2 a b) (some [aH a,aB false])<|oN (inb b<|ln a.Mons)<|oN (zgc c)<|oN (zhw (zb5 c) d e)<|oN (zgb a b<|zcr (zb5 c) d e)<|some [aH<|ziU a b<|zcr (zb5 c) d e,aB<|zcA (zb5 c) d e])
def zJB (a:Host)(c d e:Int)(l:zkZ a c d e=true):∃N,zyw N a c d e=some [aH<|ze7 a c d e,aB<|zfI a c d e]:=by
 have g:=(zS a).1 (zK.1 l);refine⟨0,?_⟩;have i:=zpx (h:=a) (m:=c) (cB:=zhw (zdP<|ix a.Mons c mZ) d e) (B:=zcr (zdP<|ix a.Mons c mZ) d e) (o0:=λH=>[.agg<|zbi H,.one<|.b false]) (o1:=λH=>[.agg<|zbi H,.one<|.b<|zcA (zdP<|ix a.Mons c mZ) d e]) g
  (λf=>zbg (zgl<|g.2.1.2 _<|zbM (zbu.1 f).2 _)) (λf=>zAL _ _ (zgl<|g.2.1.2 _<|zbM (zbu.1 f).2 _))
 refine(show zyw 0 a c d e=_ from i).trans ?_;unfold ze7 zfI zgg zfl;cases f:zcl a c;{rfl};{obtain⟨j,k⟩:=zZB (zlj f<|zpM f) a c d e;simp only[cT];exact zuT j k}
def zDH:vR 80 zlG:=kF4 zfp zn zbH zca (zq []) zJB
def zyn (N:Nat)(b:Host)(a c d:Int):OA:=
 let f:=zl b;let e:=zdj b a; (oN (zT b)<|oN (zct b)<|cond (nB<|zcn b) (some [aH f,aB false])<|oN (zbm a<|ln b.Mons)<|cond (nB<|zcj a<|ln b.Mons) (some [aH f,aB false])<|oN (zc3 b a)<|oN (zhw e c d)<|cond (zcA e c d) (oN (zdk (zcr e c d).Guests)<|oN (inb a<|ln f.Mons)<|share (up f.Mons a ({ (ix f.Mons a zh) with Guests:=(zdZ (zcr e c d).Guests)}:Mon)) λg=>oN (inb a<|ln g)<|share (up g a ({ (ix g a zh) with Pending:=(zcr e c d).Pending}:Mon)) λh=>some [aH ({f with Mons:=h}:Host),aB<|zcA e c d])<|some [aH f,aB<|zcA e c d])
def zJs (a:Host)(c d e:Int)(j:zkZ a c d e=true):∃N,zyn N a c d e=some [aH<|ze7 a c d e,aB<|zfI a c d e]:=by
 have g:=(zS a).1 (zK.1 j);refine⟨0,?_⟩;have i:=zpn (h:=a) (m:=c) (cB:=zhw (zB a c) d e) (B:=zcr (zB a c) d e) (ok:=zcA (zB a c) d e) (o0:=λH=>[.agg<|zbi H,.one<|.b false]) (o1:=λH=>[.agg<|zbi H,.one<|.b<|zcA (zB a c) d e]) g
  (λf=>zbg (zeY g (zbu.1 f).2)) (λf=>zAL _ _ (zeY g (zbu.1 f).2)) (λf k=>(congrArg (zcK a c)<|zZc _ _ k).trans (zld (zbu.1 f).2))
 refine(show zyn 0 a c d e=_ from i).trans ?_;unfold ze7 zfI zgg zfl;cases zcl a c<;>rfl
def zDA:vR 57 zlG:=kF4 zfp zn zbH zca (zq []) zJs
def zQE {b:Bare}(g:Int)(x:Ctl)(a:SmB b):SmB (zde b g x):=zpK a (zgw (b:=b) _ a)
def z7w {b:Bare}(g:Int)(x:Ctl)(a:zdq b g x=false):zde b g x=b:=zvm a
def z7R {b c:Bare}(a:SameB b c)(h:Host)(m:Int)(g:Int)(x:Ctl):zcK h m (zde b g x)=zcK h m (zde c g x)/\zdq b g x=zdq c g x:=by have e:=a.at g;simp only[zde,zdq,e];exact⟨zrA a _ _ _ _ _,zns a _ _⟩
@[simp] abbrev zoB (h:Host)(m:Int)(g:Int)(x:Ctl):Bool:=pc (zdz h)
def zoW:Run:=rF4 dH dI dI dC λb c d e=>(zoB b c d e,[aH<|zhG b c d e,aB<|zhH b c d e])
def zGK (N:Nat)(f:Host)(b d:Int)(e:Ctl):OA:=
 let a:=zl f;let c:=ix a.Mons b zh; (oN (zT f)<|oN (zg3 a b)<|cond (nB<|zg2 a b) (some [aH a,aB false])<|oN (inb b<|ln a.Mons)<|oN (zgc c)<|oN (zkh (zb5 c) d e)<|oN (zgb a b<|zde (zb5 c) d e)<|some [aH<|ziU a b<|zde (zb5 c) d e,aB<|zdq (zb5 c) d e])
def zTt (a:Host)(c d:Int)(e:Ctl)(l:zoB a c d e=true):∃N,zGK N a c d e=some [aH<|zhG a c d e,aB<|zhH a c d e]:=by
 have g:=(zS a).1 (zK.1 l);refine⟨0,?_⟩;have i:=zpx (h:=a) (m:=c) (cB:=zkh (zdP<|ix a.Mons c mZ) d e) (B:=zde (zdP<|ix a.Mons c mZ) d e) (o0:=λH=>[.agg<|zbi H,.one<|.b false]) (o1:=λH=>[.agg<|zbi H,.one<|.b<|zdq (zdP<|ix a.Mons c mZ) d e]) g
  (λf=>zbg (zgl<|g.2.1.2 _<|zbM (zbu.1 f).2 _)) (λf=>zQE _ _ (zgl<|g.2.1.2 _<|zbM (zbu.1 f).2 _))
 refine(show zGK 0 a c d e=_ from i).trans ?_;unfold zhG zhH zgg zfl;cases f:zcl a c;{rfl};{obtain⟨j,k⟩:=z7R (zlj f<|zpM f) a c d e;simp only[cT];exact zuT j k}
def zL1:vR 81 zoW:=kF4 zfp zn zbH zca (zq []) zTt
def zGo (N:Nat)(b:Host)(a c:Int)(d:Ctl):OA:=
 let f:=zl b;let e:=zdj b a; (oN (zT b)<|oN (zct b)<|cond (nB<|zcn b) (some [aH f,aB false])<|oN (zbm a<|ln b.Mons)<|cond (nB<|zcj a<|ln b.Mons) (some [aH f,aB false])<|oN (zc3 b a)<|oN (zkh e c d)<|cond (zdq e c d) (oN (zdk (zde e c d).Guests)<|oN (inb a<|ln f.Mons)<|share (up f.Mons a ({ (ix f.Mons a zh) with Guests:=(zdZ (zde e c d).Guests)}:Mon)) λg=>oN (inb a<|ln g)<|share (up g a ({ (ix g a zh) with Pending:=(zde e c d).Pending}:Mon)) λh=>some [aH ({f with Mons:=h}:Host),aB<|zdq e c d])<|some [aH f,aB<|zdq e c d])
def zS9 (a:Host)(c d:Int)(e:Ctl)(j:zoB a c d e=true):∃N,zGo N a c d e=some [aH<|zhG a c d e,aB<|zhH a c d e]:=by
 have g:=(zS a).1 (zK.1 j);refine⟨0,?_⟩;have i:=zpn (h:=a) (m:=c) (cB:=zkh (zB a c) d e) (B:=zde (zB a c) d e) (ok:=zdq (zB a c) d e) (o0:=λH=>[.agg<|zbi H,.one<|.b false]) (o1:=λH=>[.agg<|zbi H,.one<|.b<|zdq (zB a c) d e]) g
  (λf=>zbg (zeY g (zbu.1 f).2)) (λf=>zQE _ _ (zeY g (zbu.1 f).2)) (λf k=>(congrArg (zcK a c)<|z7w _ _ k).trans (zld (zbu.1 f).2))
 refine(show zGo 0 a c d e=_ from i).trans ?_;unfold zhG zhH zgg zfl;cases zcl a c<;>rfl
def zLI:vR 58 zoW:=kF4 zfp zn zbH zca (zq []) zS9
def zJZ {b:Bare}(n:Int)(a:SmB b):SmB (zdu b n):=z5G a
def z4R {b:Bare}(n:Int)(a:zdN b n=false):zdu b n=b:=z5g a
def z5x {b c:Bare}(f:SameB b c)(h:Host)(m n:Int):zcK h m (zdu b n)=zcK h m (zdu c n)/\zdN b n=zdN c n:=by obtain⟨a,d,e⟩:=z5h f n;exact⟨back_eq a d,e⟩
@[simp] abbrev zm7 (h:Host)(m:Int)(n:Int):Bool:=pc (zdz h)
def znQ:Run:=rF3 dH dI dI λb c d=>(zm7 b c d,[aH<|zf6 b c d,aB<|zgV b c d])
def zCP (N:Nat)(e:Host)(b d:Int):OA:=
 let a:=zl e;let c:=ix a.Mons b zh; (oN (zT e)<|oN (zg3 a b)<|cond (nB<|zg2 a b) (some [aH a,aB false])<|oN (inb b<|ln a.Mons)<|oN (zgc c)<|oN (zeF (zb5 c) d)<|oN (zgb a b<|zdu (zb5 c) d)<|some [aH<|ziU a b<|zdu (zb5 c) d,aB<|zdN (zb5 c) d])
def zP6 (a:Host)(c d:Int)(k:zm7 a c d=true):∃N,zCP N a c d=some [aH<|zf6 a c d,aB<|zgV a c d]:=by
 have f:=(zS a).1 (zK.1 k);refine⟨0,?_⟩;have g:=zpx (h:=a) (m:=c) (cB:=zeF (zdP<|ix a.Mons c mZ) d) (B:=zdu (zdP<|ix a.Mons c mZ) d) (o0:=λH=>[.agg<|zbi H,.one<|.b false]) (o1:=λH=>[.agg<|zbi H,.one<|.b<|zdN (zdP<|ix a.Mons c mZ) d]) f
  (λe=>zbg (zgl<|f.2.1.2 _<|zbM (zbu.1 e).2 _)) (λe=>zJZ _ (zgl<|f.2.1.2 _<|zbM (zbu.1 e).2 _))
 refine(show zCP 0 a c d=_ from g).trans ?_;unfold zf6 zgV zgg zfl;cases e:zcl a c;{rfl};{obtain⟨i,j⟩:=z5x (zlj e<|zpM e) a c d;simp only[cT];exact zuT i j}
def zIY:vR 83 znQ:=kF3 zfp zn zbH zca (zq []) zP6
def zCr (N:Nat)(b:Host)(a c:Int):OA:=
 let e:=zl b;let d:=zdj b a; (oN (zT b)<|oN (zct b)<|cond (nB<|zcn b) (some [aH e,aB false])<|oN (zbm a<|ln b.Mons)<|cond (nB<|zcj a<|ln b.Mons) (some [aH e,aB false])<|oN (zc3 b a)<|oN (zeF d c)<|cond (zdN d c) (oN (zdk (zdu d c).Guests)<|oN (inb a<|ln e.Mons)<|share (up e.Mons a ({ (ix e.Mons a zh) with Guests:=(zdZ (zdu d c).Guests)}:Mon)) λf=>oN (inb a<|ln f)<|share (up f a ({ (ix f a zh) with Pending:=(zdu d c).Pending}:Mon)) λg=>some [aH ({e with Mons:=g}:Host),aB<|zdN d c])<|some [aH e,aB<|zdN d c])
def zPL (a:Host)(c d:Int)(i:zm7 a c d=true):∃N,zCr N a c d=some [aH<|zf6 a c d,aB<|zgV a c d]:=by
 have f:=(zS a).1 (zK.1 i);refine⟨0,?_⟩;have g:=zpn (h:=a) (m:=c) (cB:=zeF (zB a c) d) (B:=zdu (zB a c) d) (ok:=zdN (zB a c) d) (o0:=λH=>[.agg<|zbi H,.one<|.b false]) (o1:=λH=>[.agg<|zbi H,.one<|.b<|zdN (zB a c) d]) f
  (λe=>zbg (zeY f (zbu.1 e).2)) (λe=>zJZ _ (zeY f (zbu.1 e).2)) (λe j=>(congrArg (zcK a c)<|z4R _ j).trans (zld (zbu.1 e).2))
 refine(show zCr 0 a c d=_ from g).trans ?_;unfold zf6 zgV zgg zfl;cases zcl a c<;>rfl
def zIB:vR 60 znQ:=kF3 zfp zn zbH zca (zq []) zPL
def zQD {b:Bare}(a:SmB b):SmB (zdp b):=z7W a
def z7v {b:Bare}(a:zdG b=false):zdp b=b:=z5W a
def z7Q {b c:Bare}(g:SameB b c)(h:Host)(m:Int):zcK h m (zdp b)=zcK h m (zdp c)/\zer b=zer c/\zdG b=zdG c:=by obtain⟨a,d,e,f⟩:=z5X g;exact⟨back_eq a d,e,f⟩
def zoV:Run:=rF2 dH dI λb c=>(zc3 b c,[aH<|zgD b c,aI<|zhE b c,aB<|zhF b c])
def zGI (N:Nat)(d:Host)(b:Int):OA:=
 let a:=zl d;let c:=ix a.Mons b zh; (oN (zT d)<|oN (zg3 a b)<|cond (nB<|zg2 a b) (some [aH a,aI<|-1,aB false])<|oN (inb b<|ln a.Mons)<|oN (zgc c)<|oN (zbo<|zb5 c)<|oN (zgb a b<|zdp<|zb5 c)<|some [aH<|ziU a b<|zdp<|zb5 c,aI<|zer<|zb5 c,aB<|zdG<|zb5 c])
def zTr (a:Host)(c:Int)(l:zc3 a c=true):∃N,zGI N a c=some [aH<|zgD a c,aI<|zhE a c,aB<|zhF a c]:=by
 have e:=(zS a).1 (zK.1 l);refine⟨0,?_⟩;have f:=zpx (h:=a) (m:=c) (cB:=zbo (zdP<|ix a.Mons c mZ)) (B:=zdp (zdP<|ix a.Mons c mZ)) (o0:=λH=>[.agg<|zbi H,.one<|.i .i64<|-1,.one<|.b false]) (o1:=λH=>[.agg<|zbi H,.one<|.i .i64<|zer<|zdP<|ix a.Mons c mZ,.one<|.b<|zdG<|zdP<|ix a.Mons c mZ]) e
  (λd=>zbg (zgl<|e.2.1.2 _<|zbM (zbu.1 d).2 _)) (λd=>zQD (zgl<|e.2.1.2 _<|zbM (zbu.1 d).2 _))
 refine(show zGI 0 a c=_ from f).trans ?_;unfold zgD zhE zhF zgg zfl;cases d:zcl a c;{rfl};{obtain⟨g,j,k⟩:=z7Q (zlj d<|zpM d) a c;simp only[cT];exact zbaG g j k}
def zL0:vR 84 zoV:=kF2 zfp zn zbH zca (zq []) zTr
def zGm (N:Nat)(c:Host)(a:Int):OA:=
 let d:=zl c;let b:=zdj c a; (oN (zT c)<|oN (zct c)<|cond (nB<|zcn c) (some [aH d,aI<|-1,aB false])<|oN (zbm a<|ln c.Mons)<|cond (nB<|zcj a<|ln c.Mons) (some [aH d,aI<|-1,aB false])<|oN (zc3 c a)<|oN (zbo b)<|cond (zdG b) (oN (zdk (zdp b).Guests)<|oN (inb a<|ln d.Mons)<|share (up d.Mons a ({ (ix d.Mons a zh) with Guests:=(zdZ (zdp b).Guests)}:Mon)) λe=>oN (inb a<|ln e)<|share (up e a ({ (ix e a zh) with Pending:=(zdp b).Pending}:Mon)) λf=>some [aH ({d with Mons:=f}:Host),aI<|zer b,aB<|zdG b])<|some [aH d,aI<|zer b,aB<|zdG b])
def zS7 (a:Host)(c:Int)(g:zc3 a c=true):∃N,zGm N a c=some [aH<|zgD a c,aI<|zhE a c,aB<|zhF a c]:=by
 have e:=(zS a).1 (zK.1 g);refine⟨0,?_⟩;have f:=zpn (h:=a) (m:=c) (cB:=zbo (zB a c)) (B:=zdp (zB a c)) (ok:=zdG (zB a c)) (o0:=λH=>[.agg<|zbi H,.one<|.i .i64<|-1,.one<|.b false]) (o1:=λH=>[.agg<|zbi H,.one<|.i .i64<|zer<|zB a c,.one<|.b<|zdG<|zB a c]) e
  (λd=>zbg (zeY e (zbu.1 d).2)) (λd=>zQD (zeY e (zbu.1 d).2)) (λd j=>(congrArg (zcK a c)<|z7v j).trans (zld (zbu.1 d).2))
 refine(show zGm 0 a c=_ from f).trans ?_;unfold zgD zhE zhF zgg zfl;cases zcl a c<;>rfl
def zLG:vR 61 zoV:=kF2 zfp zn zbH zca (zq []) zS7
def z3E:zbb:=[(76,zoY),(53,zoY),(78,zlF),(55,zlF),(79,zlH),(56,zlH),(80,zlG),(57,zlG),(81,zoW),(58,zoW),(83,znQ),(60,znQ),(84,zoV),(61,zoV)]++z3D
def zmJ:zU z3E:=zi zL4 (zi zLK<|zi zDG<|zi zDz<|zi zDI<|zi zDB<|zi zDH<|zi zDA<|zi zL1<|zi zLI<|zi zIY<|zi zIB<|zi zL0<|zi zLG zfp)
def zjt (h:Host)(m t:Int):Host:=bif zb2 h then (cond (hasB m<|ln h.Mons) (cond (zk t 0 3) {h with Mons:=up h.Mons m {ix h.Mons m mZ with Traps:=t}} h) h) else h
def zrk (h:Host)(m t:Int):Bool:=bif zb2 h then (cond (hasB m<|ln h.Mons) (zk t 0 3) false) else false
@[simp] abbrev zm9 (h:Host)(m t:Int):Bool:=pc (zdz h)
@[simp] abbrev zh7 (h:Host)(m t:Int):Host:=zjt h m t
@[simp] abbrev zjl (h:Host)(m t:Int):Bool:=zrk h m t
def znU:Run:=rF3 dH dI dI λb c d=>(zm9 b c d,[aH<|zh7 b c d,aB<|zjl b c d])
def zCX (N:Nat)(d:Host)(b c:Int):OA:=
 let a:=zl d; (oN (zT d)<|oN (zct a)<|cond (nB<|zcn a) (some [aH a,aB false])<|oN (zM b 0<|wsub .i64 (ln a.Mons) 1)<|cond (nB<|zk b 0<|wsub .i64 (ln a.Mons) 1) (some [aH a,aB false])<|oN (zM c 0 3)<|cond (nB<|zk c 0 3) (some [aH a,aB false])<|oN (inb b<|ln a.Mons)<|share (up a.Mons b ({ (ix a.Mons b zh) with Traps:=c}:Mon)) λe=>some [aH ({a with Mons:=e}:Host),aB true])
def zQe (a:Host)(b c:Int)(d:zm9 a b c=true):∃N,zCX N a b c=some [aH<|zh7 a b c,aB<|zjl a b c]:=by
 have g:=(zS a).1 (zK.1 d);refine⟨0,?_⟩;unfold zCX zh7 zjl zjt zrk oN nB;conv=>zeta
 refine must d (must rfl ?_);rw[show zcn (zl a)=zb2 a from rfl];cases e:zb2 a;{rfl};{refine zcf rfl (must rfl ?_);rw[show zk b 0 (wsub .i64 (ln (zl a).Mons) 1)=hasB b (ln a.Mons) from zQ6 e b];cases f:hasB b (ln a.Mons);{rfl};{refine zcf rfl (must rfl ?_);rw[show zk c 0 3=zk c 0 3 from rfl];cases h:zk c 0 3;{rfl};{exact zcf rfl (must (zC f) rfl)}}}
def zI7:vR 201 znU:=kF3 zmJ zn zbH zca (zq []) zQe
def zCx (N:Nat)(b:Host)(c d:Int):OA:=
 let a:=zl b; (oN (zT b)<|oN (zct b)<|cond (nB<|zcn b) (some [aH a,aB false])<|oN (zbm c<|ln b.Mons)<|cond (nB<|zcj c<|ln b.Mons) (some [aH a,aB false])<|oN (zM d 0 3)<|cond (nB<|zk d 0 3) (some [aH a,aB false])<|oN (inb c<|ln a.Mons)<|share (up a.Mons c ({ (ix a.Mons c zh) with Traps:=d}:Mon)) λe=>some [aH ({a with Mons:=e}:Host),aB true])
def zPR (a:Host)(b c:Int)(d:zm9 a b c=true):∃N,zCx N a b c=some [aH<|zh7 a b c,aB<|zjl a b c]:=by
 have g:=(zS a).1 (zK.1 d);refine⟨0,?_⟩;unfold zCx zh7 zjl zjt zrk oN nB;conv=>zeta
 refine must d (must rfl ?_);rw[show zcn a=zb2 a from rfl];cases f:zb2 a;{rfl};{refine zcf rfl (must rfl ?_);rw[show zcj b (ln a.Mons)=hasB b (ln a.Mons) from rfl];cases e:hasB b (ln a.Mons);{rfl};{refine zcf rfl (must rfl ?_);rw[show zk c 0 3=zk c 0 3 from rfl];cases h:zk c 0 3;{rfl};{exact zcf rfl (must (zC e) rfl)}}}
def zII:vR 67 znU:=kF3 zmJ zn zbH zca (zq []) zPR
def ziH {h:Host}{m p:Int}:(zb8 h m p=true)↔zb2 h=true/\hasB m (ln h.Mons)=true/\hasB p 8=true:=by unfold zb8;cases zb2 h<;>cases hasB m (ln h.Mons)<;>simp
def zjy (h:Host)(m p:Int):Bool:=ieq (ix (ix h.Mons m mZ).Outer p sZ).Page (-1)
def znH (h:Host)(m p:Int):Host:=bif zb8 h m p then (cond (zjy h m p) h<|zeM h m p) else h
def ztn (h:Host)(m p:Int):Bool:=bif zb8 h m p then !zjy h m p else false
def zqd (h:Host)(m p:Int):Host:=bif zb8 h m p then (cond (zjy h m p) (fetched h m p) h) else h
def zvM (h:Host)(m p:Int):Bool:=bif zb8 h m p then zjy h m p else false
@[simp] abbrev ziN (h:Host)(m p:Int):Host:=znH h m p
@[simp] abbrev zkl (h:Host)(m p:Int):Bool:=ztn h m p
@[simp] abbrev zj2 (h:Host)(m p:Int):Host:=zqd h m p
@[simp] abbrev zlL (h:Host)(m p:Int):Bool:=zvM h m p
def zM8 {h:Host}(f:SmH h)(c:zb2 h=true){m p:Int}(d:hasB m (ln h.Mons)=true)(e:hasB p 8=true) :
 (cond (ieq (ix (ix h.Mons m mZ).Outer p sZ).Page<|-1) (ieq (ix (ix h.Mons m mZ).Outer p sZ).Rights 0) false)=zjy h m p:=by
 have a:=(zuz (ziE c _<|zbM d mZ) e).no;unfold zdO at a;unfold zjy;rw[<- a];cases b:ieq (ix (ix h.Mons m mZ).Outer p sZ).Page (-1)<;>simp [noSlot,b]
def zw2 {h:Host}(d:SmH h)(a:zb2 h=true){m p:Int}(b:hasB m (ln h.Mons)=true)(c:hasB p 8=true):inb p (ln (ix h.Mons m mZ).Outer)=true :=
 zC (by rw[ln,((zfD d a).1.2 _ (zbM b mZ)).1];exact c)
def zo0:Run:=rF3 dH dI dI λb c d=>(zfc b c d,[aH<|ziN b c d,aB<|zkl b c d])
def zGR (N:Nat)(e:Host)(c b:Int):OA:=
 let a:=zl e;let d:=(ix a.Mons c zh).Outer; (oN (zT e)<|oN (ziR a c b)<|cond (nB<|zey a c b) (some [aH a,aB false])<|oN (inb c<|ln a.Mons)<|oN (inb b<|ln d)<|oN zbW<|cond (cond (ieq (ix d b zV).Page zbl.Page) (ieq (ix d b zV).Rights zbl.Rights) false) (some [aH a,aB false])<|oN (zj7 a c b)<|some [aH<|znf a c b,aB true])
def zTy (a:Host)(b c:Int)(h:zfc a b c=true):∃N,zGR N a b c=some [aH<|ziN a b c,aB<|zkl a b c]:=by
 have g:=(zS a).1 (zK.1 h);refine⟨0,?_⟩;unfold zGR ziN zkl znH ztn oN nB;conv=>zeta
 refine must h (must rfl ?_);rw[show zey (zl a) b c=zb8 a b c from rfl];cases i:zb8 a b c;{rfl};{obtain⟨e,d,f⟩:=ziH.1 i;refine zcf rfl (must (zC d)<|must (zw2 g e d f) (must rfl ?_));rw[show (cond (ieq (ix (ix (zl a).Mons b zh).Outer c zV).Page zbl.Page) (ieq (ix (ix (zl a).Mons b zh).Outer c zV).Rights zbl.Rights) false)=zjy a b c from zM8 g e d f];cases j:zjy a b c;{exact zcf rfl (must (zbg ⟨(zfD g e).1,d,f⟩) rfl)};{rfl}}
def zL7:vR 198 zo0:=kF3 zmJ zn zbH zca (zq []) zTy
def zGr (N:Nat)(a:Host)(b c:Int):OA:=
 let d:=(ix a.Mons b zh).Outer; (oN (zT a)<|oN (ziR a b c)<|cond (nB<|zey a b c) (some [aH<|zl a,aB false])<|oN (inb b<|ln a.Mons)<|oN (inb c<|ln d)<|cond (ieq (ix d c zV).Page<|-1) (some [aH<|zl a,aB false])<|oN (zj7 (zl a) b c)<|some [aH<|znf (zl a) b c,aB true])
def zTc (a:Host)(b c:Int)(e:zfc a b c=true):∃N,zGr N a b c=some [aH<|ziN a b c,aB<|zkl a b c]:=by
 have h:=(zS a).1 (zK.1 e);refine⟨0,?_⟩;unfold zGr ziN zkl znH ztn oN nB;conv=>zeta
 refine must e (must rfl ?_);rw[show zey a b c=zb8 a b c from rfl];cases i:zb8 a b c;{rfl};{obtain⟨f,d,g⟩:=ziH.1 i;refine zcf rfl (must (zC d)<|must (zw2 h f d g) ?_);rw[show ieq (ix (ix a.Mons b zh).Outer c zV).Page (-1)=zjy a b c from rfl];cases j:zjy a b c;{exact zcf rfl (must (zbg ⟨(zfD h f).1,d,g⟩) rfl)};{rfl}}
def zLN:vR 64 zo0:=kF3 zmJ zn zbH zca (zq []) zTc
def zqw:Run:=rF3 dH dI dI λb c d=>(zfc b c d,[aH<|zj2 b c d,aB<|zlL b c d])
def zKI (N:Nat)(e:Host)(c b:Int):OA:=
 let a:=zl e;let d:=(ix a.Mons c zh).Outer; (oN (zT e)<|oN (ziR a c b)<|cond (nB<|zey a c b) (some [aH a,aB false])<|oN (inb c<|ln a.Mons)<|oN (inb b<|ln d)<|oN zbW<|cond (nB<|cond (ieq (ix d b zV).Page zbl.Page) (ieq (ix d b zV).Rights zbl.Rights) false) (some [aH a,aB false])<|oN (zli a c b)<|some [aH<|zmo a c b,aB true])
def zWp (a:Host)(b c:Int)(h:zfc a b c=true):∃N,zKI N a b c=some [aH<|zj2 a b c,aB<|zlL a b c]:=by
 have g:=(zS a).1 (zK.1 h);refine⟨0,?_⟩;unfold zKI zj2 zlL zqd zvM oN nB;conv=>zeta
 refine must h (must rfl ?_);rw[show zey (zl a) b c=zb8 a b c from rfl];cases i:zb8 a b c;{rfl};{obtain⟨e,d,f⟩:=ziH.1 i;refine zcf rfl (must (zC d)<|must (zw2 g e d f) (must rfl ?_));rw[show (cond (ieq (ix (ix (zl a).Mons b zh).Outer c zV).Page zbl.Page) (ieq (ix (ix (zl a).Mons b zh).Outer c zV).Rights zbl.Rights) false)=zjy a b c from zM8 g e d f];cases j:zjy a b c;{rfl};{exact zcf rfl (must (zbg ⟨zfD g e,d,f⟩) rfl)}}
def zPa:vR 199 zqw:=kF3 zmJ zn zbH zca (zq []) zWp
def zKj (N:Nat)(a:Host)(b c:Int):OA:=
 let d:=(ix a.Mons b zh).Outer; (oN (zT a)<|oN (ziR a b c)<|cond (nB<|zey a b c) (some [aH<|zl a,aB false])<|oN (inb b<|ln a.Mons)<|oN (inb c<|ln d)<|cond (ine (ix d c zV).Page<|-1) (some [aH<|zl a,aB false])<|oN (zli (zl a) b c)<|some [aH<|zmo (zl a) b c,aB true])
def zV4 (a:Host)(b c:Int)(e:zfc a b c=true):∃N,zKj N a b c=some [aH<|zj2 a b c,aB<|zlL a b c]:=by
 have h:=(zS a).1 (zK.1 e);refine⟨0,?_⟩;unfold zKj zj2 zlL zqd zvM oN nB;conv=>zeta
 refine must e (must rfl ?_);rw[show zey a b c=zb8 a b c from rfl];cases i:zb8 a b c;{rfl};{obtain⟨f,d,g⟩:=ziH.1 i;refine zcf rfl (must (zC d)<|must (zw2 h f d g) ?_);rw[show ine (ix (ix a.Mons b zh).Outer c zV).Page (-1) = !zjy a b c from zi1 _ _];cases j:zjy a b c;{rfl};{exact zcf rfl (must (zbg ⟨zfD h f,d,g⟩) rfl)}}
def zOI:vR 65 zqw:=kF3 zmJ zn zbH zca (zq []) zV4
def z3F:zbb:=[(201,znU),(67,znU),(198,zo0),(64,zo0),(199,zqw),(65,zqw)]++z3E
def zDj:zU z3F:=zi zI7 (zi zII<|zi zL7<|zi zLN<|zi zPa<|zi zOI zmJ)
def z2Y {x:Mon}{b:Bare}(h:zfC x)(a:zmE b.Guests):zfC (zsc x b):=⟨h.1,h.2.1,h.2.2.1,a,h.2.2.2.2⟩
def zAN {h:Host}{m:Int}{b:Bare}(a:SmH h)(d:hasB m (ln h.Mons)=true)(c:zmE b.Guests):SmH (zcK h m b):=
 ⟨a.1,zj9 a.2.1<|z2Y (a.2.1.2 _<|zbM d _) c,a.2.2⟩
def zH1 {h:Host}{m:Int}(b:Bare)(a:hasB m (ln h.Mons)=true):hasB m (ln (zcK h m b).Mons)=true:=by show hasB m (ln<|up h.Mons m _)=true;rw[ln,zgy];exact a
def zbax {h:Host}{m:Int}(b:Bare)(c:hasB m (ln h.Mons)=true):ix (zcK h m b).Mons m mZ=zsc (ix h.Mons m mZ) b:=by obtain⟨k,rfl,a⟩:=zeI (n:=h.Mons.length) c;exact zd8 a _ _
def zDq (h:Host)(m g p:Int):Host:=⟨h.Memory,up h.Mons m {ix h.Mons m mZ with Tables:=up (ix h.Mons m mZ).Tables g (zce (ix (ix h.Mons m mZ).Tables g kZ) p)},zdh h.Buffer (zeZ m g) p,zdh h.IoBuffer (zeZ m g) p⟩
def z4f (H:Host)(m g p:Int)(o:Host->Ans):OA:=
 bif inb m (ln H.Mons) then (bif inb m (ln H.Mons) then (bif inb g (ln (ix H.Mons m mZ).Tables) then (bif zc8 (ix (ix H.Mons m mZ).Tables g kZ) p then (bif inb g (ln (ix H.Mons m mZ).Tables) then (share (up H.Mons m {ix H.Mons m mZ with Tables:=up (ix H.Mons m mZ).Tables g (zce (ix (ix H.Mons m mZ).Tables g kZ) p)}) λx=>
  (cond (zh8 m g) (cond (zeb H.Buffer (zeZ m g) p) (cond (zh8 m g) (cond (zeb H.IoBuffer (zeZ m g) p) (some<|o ⟨H.Memory,x,zdh H.Buffer (zeZ m g) p,zdh H.IoBuffer (zeZ m g) p⟩) none) none) none) none)) else none) else none) else none) else none) else none
def zRQ {H:Host}{m g p:Int}{o:Host->Ans}(b:SmH H)(a:hasB m (ln H.Mons)=true)(hg:hasB g (ln (ix H.Mons m mZ).Tables)=true):z4f H m g p o=some (o<|zDq H m g p):=by have c:=b.2.1.2 _ (zbM a mZ);unfold z4f;exact must (zC a) (must (zC a)<|must (zC hg)<|must (zbg<|c.2.2.2.2.2.2 _<|zbM hg _)<|must (zC hg)<|shr (must rfl (must (zbg b.2.2.1) (must rfl (must (zbg b.2.2.2) rfl)))))
def zjT (h:Host)(m g p:Int):Host:=bif zcl h m then (cond (zb4 (zB h m) g<|hasB p 4) (zDq (zcK h m<|chg (zB h m) g (hasB p 4)<|zez (gAt (zB h m) g) p) m g p) h) else h
@[simp] abbrev zl5 (h:Host)(m g p:Int):Bool:=pc (zdz h)
@[simp] abbrev zhf (h:Host)(m g p:Int):Host:=zjT h m g p
def zZD {h:Host}{m:Int}(a:hasB m (ln h.Mons)=true):(zB h m).Guests=(ix h.Mons m mZ).Guests:=by unfold zB;rw[a];rfl
def zDr {h:Host}{m g:Int}{k:Bool}(i:SmH h)(e:zcl h m=true)(b:Bare)(a:zb4 (zB h m) g k=true):hasB g (ln (ix (zcK h m b).Mons m mZ).Tables)=true:=by obtain⟨f,c⟩:=zbu.1 e;rw[zbax b c];show hasB g (ln (ix h.Mons m mZ).Tables)=true;rw[ln,((zfD i f).1.2 _ (zbM c mZ)).2.2.2,<- zZD c];unfold zb4 at a;cases d:zb1 (zB h m) g;{rw [d]at a;cases a};{exact(zeP.1 d).2}
def zmA:Run:=rF4 dH dI dI dI λb c d e=>(zl5 b c d e,[aH<|zhf b c d e,aB<|zge b c d e])
def zBe (N:Nat)(i:Host)(a b c:Int):OA:=
 let h:=zk3 a b;let e:=zl i;let g:=ix e.Mons a zh;let d:=ziU e a<|zdm (zb5 g) b c;let f:=ix d.Mons a zh;let j:=ix f.Tables b zeO; (oN (zT i)<|oN (zg3 e a)<|cond (nB<|zg2 e a) (some [aH e,aB false])<|oN (inb a<|ln e.Mons)<|oN (zgc g)<|oN (zl3 (zb5 g) b c)<|cond (nB<|ze2 (zb5 g) b c) (some [aH e,aB false])<|oN (zgb e a<|zdm (zb5 g) b c)<|oN (inb a<|ln d.Mons)<|oN (inb a<|ln d.Mons)<|oN (inb b<|ln f.Tables)<|oN (zc8 j c)<|oN (inb b<|ln f.Tables)<|share (up d.Mons a ({f with Tables:=(up f.Tables b<|zeL j c)}:Mon)) λk=>oN (zh8 a b)<|oN (zeb d.Buffer h c)<|oN (zh8 a b)<|oN (zeb d.IoBuffer h c)<|some [aH (⟨d.Memory,k,zfy d.Buffer h c,zfy d.IoBuffer h c⟩:Host),aB true])
def zMX (a:Host)(c d e:Int)(j:zbS big [aH a,aI c,aI d,aI e])(q:zl5 a c d e=true):∃N,zBe N a c d e=some [aH<|zhf a c d e,aB<|zge a c d e]:=by
 have k:=(zS a).1 (zK.1 q);refine⟨0,?_⟩;unfold zBe zhf zge zjT zfl oN nB;conv=>zeta
 refine must q (must rfl ?_);rw[show zg2 (zl a) c=zcl a c from rfl];cases h:zcl a c;{rfl};{obtain⟨v,f⟩:=zbu.1 h;have r:=k.2.1.2 _ (zbM f mZ);have l:=zgl r;have i:=zlj h (zpM h);have u:zb4 (zdP<|ix a.Mons c mZ) d (hasB e 4)=zb4 (zB a c) d (hasB e 4):=zns i _ _;have s:zcK a c (zdm (zdP<|ix a.Mons c mZ) d e)=zcK a c (chg (zB a c) d (hasB e 4)<|zez (gAt (zB a c) d) e):=(by rw[<- i.at];exact zrA i _ _ _ _ _);refine zcf rfl (must (zC f)<|must (zbg r)<|must (zbg l) ?_);rw[show ze2 (zb5<|ix (zl a).Mons c zh) d e=zb4 (zB a c) d (hasB e 4) from u];cases t:zb4 (zB a c) d (hasB e 4);{rfl};{have j:SmB (zdm (zdP<|ix a.Mons c mZ) d e):=zpK l (zuR _<|zgw _ l);refine zcf rfl (must (zbg ⟨f,j.2.1⟩) ?_);have n:=zRQ (H:=zcK a c (zdm (zdP<|ix a.Mons c mZ) d e)) (m:=c) (g:=d) (p:=e) (o:=λH=>[.agg<|zbi H,.one<|.b true]) (zAN k f j.2.1) (zH1 _ f) (zDr k h _ t);refine(show _=_ from n).trans ?_;rw[s];rfl}}
def zFC:vR 77 zmA:=hF4 zDj zn zbH zca (zq []) zMX
def zA1 (N:Nat)(e:Host)(a d c:Int):OA:=
 let l:=zh8 a d;let m:=zdm (zdj e a) d c;let f:=zk3 a d;let b:=zl e;let n:=inb a<|ln b.Mons;let g:=ze2 (zdj e a) d c;let h:=ix b.Mons a zh;let q:=ix h.Tables d zeO; (oN (zT e)<|oN (zct e)<|cond (nB<|zcn e) (some [aH b,aB false])<|oN (zbm a<|ln e.Mons)<|cond (nB<|zcj a<|ln e.Mons) (some [aH b,aB false])<|oN (zc3 e a)<|oN (zl3 (zdj e a) d c)<|cond g (oN (zdk m.Guests)<|oN n<|share (up b.Mons a ({h with Guests:=(zdZ m.Guests)}:Mon)) λi=>oN (inb a<|ln i)<|share (up i a ({ (ix i a zh) with Pending:=m.Pending}:Mon)) (λj=>let k:=ix j a zh;let p:=ix k.Tables d zeO; (cond g (oN (inb a<|ln j)<|oN (inb a<|ln j)<|oN (inb d<|ln k.Tables)<|oN (zc8 p c)<|oN (inb d<|ln k.Tables)<|share (up j a ({k with Tables:=(up k.Tables d<|zeL p c)}:Mon)) λr=>oN l<|oN (zeb b.Buffer f c)<|oN l<|oN (zeb b.IoBuffer f c)<|some [aH (⟨b.Memory,r,zfy b.Buffer f c,zfy b.IoBuffer f c⟩:Host),aB g])<|some [aH ({b with Mons:=j}:Host),aB g])))<|cond g (oN n<|oN n<|oN (inb d<|ln h.Tables)<|oN (zc8 q c)<|oN (inb d<|ln h.Tables)<|share (up b.Mons a ({h with Tables:=(up h.Tables d<|zeL q c)}:Mon)) λi=>oN l<|oN (zeb b.Buffer f c)<|oN l<|oN (zeb b.IoBuffer f c)<|some [aH (⟨b.Memory,i,zfy b.Buffer f c,zfy b.IoBuffer f c⟩:Host),aB g])<|some [aH b,aB g])
def zMK (a:Host)(c d e:Int)(h:zbS big [aH a,aI c,aI d,aI e])(i:zl5 a c d e=true):∃N,zA1 N a c d e=some [aH<|zhf a c d e,aB<|zge a c d e]:=by
 have k:=(zS a).1 (zK.1 i);refine⟨0,?_⟩;unfold zA1 zhf zge zjT zfl oN nB;conv=>zeta
 refine must i (must rfl ?_);rw[show zcn a=zb2 a from rfl];cases j:zb2 a;{unfold zcl;rw[j];rfl};{refine zcf rfl (must rfl ?_);rw[show zcj c (ln a.Mons)=hasB c (ln a.Mons) from rfl];cases f:hasB c (ln a.Mons);{unfold zcl;rw[j,f];rfl};{have q:zcl a c=true:=zbu.2 ⟨j,f⟩;have l:=zeY k f;have h:SmB (zdm (zB a c) d e):=zpK l (zuR _<|zgw _ l);rw[q];refine zcf rfl (must i<|must (zbg l) ?_);rw[show ze2 (zdj a c) d e=zb4 (zB a c) d (hasB e 4) from rfl];cases t:zb4 (zB a c) d (hasB e 4);{rfl};{obtain⟨r,s⟩:=zN4 f (zdm (zB a c) d e);refine must rfl (must (zbg h.2.1)<|must (zC f)<|shr<|must r<|shr ?_);rw[show zh=mZ from rfl,s];have n:=zRQ (H:=zcK a c (zdm (zB a c) d e)) (m:=c) (g:=d) (p:=e) (o:=λH=>[.agg<|zbi H,.one<|.b true]) (zAN k f h.2.1) (zH1 _ f) (zDr k q _ t);exact must rfl (show _=_ from n)}}}
def zFq:vR 54 zmA:=hF4 zDj zn zbH zca (zq []) zMK
def z3G:zbb:=[(77,zmA),(54,zmA)]++z3F
def zDk:zU z3G:=zi zFC (zi zFq zDj)
def zXa (h:Host)(m p c v:Int):Host:={mended h m p 2 with Memory:=zbX (mended h m p 2).Memory (ix (ix (mended h m p 2).Mons m mZ).Outer p sZ).Page c v}
def zdT (h:Host)(m p c v:Int):Bool:=bif zb8 h m p then (cond (hasB c 4) (zk v 0 99) false) else false
def zlu (h:Host)(m p c v:Int):Host:=bif zdT h m p c v then zXa h m p c v else h
@[simp] abbrev zm6 (h:Host)(m p c v:Int):Bool:=pc (zdz h)
@[simp] abbrev zjh (h:Host)(m p c v:Int):Host:=zlu h m p c v
@[simp] abbrev zji (h:Host)(m p c v:Int):Bool:=zdT h m p c v
def zbai (H:Host)(m p c v:Int)(o:Host->Ans):OA:=
 bif zgJ H m p 2 then (cond (inb m<|ln (mended H m p 2).Mons) (cond (inb p<|ln (ix (mended H m p 2).Mons m mZ).Outer) (cond (zek (mended H m p 2).Memory (ix (ix (mended H m p 2).Mons m mZ).Outer p sZ).Page c v) (some<|o<|zXa H m p c v) none) none) none) else none
def zW9 {h:Host}{m p c v:Int}{o:Host->Ans}(j:SmH h)(i:zb8 h m p=true):zbai h m p c v o=some (o<|zXa h m p c v):=by obtain⟨g,b,a⟩:=ziH.1 i;have f:=zfD j g;obtain⟨d,e⟩:=zwc (n:=2) f b a;unfold zbai;refine must (zbg ⟨f,b,a,.inr rfl,zuz (ziE g _<|zbM b mZ) a⟩) (must (zC e)<|must (zC ?_) (must (zbg d.1.1) rfl));rw[ln,(d.2 _<|zbM e mZ).1];exact a
def znP:Run:=rF5 dH dI dI dI dI λb c d e f=>(zm6 b c d e f,[aH<|zjh b c d e f,aB<|zji b c d e f])
def zCO (N:Nat)(g:Host)(b c:Int)(e f:Int):OA:=
 let a:=zl g;let d:=zgv a b c 2;let h:=(ix d.Mons b zh).Outer;let i:=(ix h c zV).Page; (oN (zT g)<|oN (ziR a b c)<|cond (nB<|zey a b c) (some [aH a,aB false])<|oN (zM e 0 3)<|cond (nB<|zk e 0 3) (some [aH a,aB false])<|oN (zM f 0 99)<|cond (nB<|zk f 0 99) (some [aH a,aB false])<|oN (zgJ a b c 2)<|oN (inb b<|ln d.Mons)<|oN (inb c<|ln h)<|oN (zek d.Memory i e f)<|some [aH ({d with Memory:=(zeH d.Memory i e f)}:Host),aB true])
def zP5 (d:Host)(f g:Int)(a e:Int)(i:zm6 d f g a e=true):∃N,zCO N d f g a e=some [aH<|zjh d f g a e,aB<|zji d f g a e]:=by
 have k:=(zS d).1 (zK.1 i);refine⟨0,?_⟩;unfold zCO zjh zji zlu zdT oN nB;conv=>zeta
 refine must i (must rfl ?_);rw[show zey (zl d) f g=zb8 d f g from rfl];cases j:zb8 d f g;{rfl};{refine zcf rfl (must rfl ?_);rw[show zk a 0 3=hasB a 4 from zbc0 a];cases l:hasB a 4;{rfl};{refine zcf rfl (must rfl ?_);rw[show zk e 0 99=zk e 0 99 from rfl];cases m:zk e 0 99;{rfl};{have h:=zW9 (c:=a) (v:=e) (o:=λH=>[.agg<|zbi H,.one<|.b true]) k j;exact zcf rfl (show _=_ from h)}}}
def zIX:vR 82 znP:=kF5 zDk zn zbH zca (zq []) zP5
def z5f {h:Host}{m p c v:Int}(a:hasB m (ln h.Mons)=true):zcK h m (zoQ (zB h m) p c v)=h:=by have e:zcK h m (zoQ (zB h m) p c v)=zcK h m (zB h m):=(by refine back_eq ?_ ?_<;>unfold zoQ<;>cases zkR (zB h m) p c v<;>rfl);rw[e];exact zld a
def zbbv {h:Host}{m p c v:Int}(a:zb2 h=true)(b:hasB m (ln h.Mons)=true):zkR (zB h m) p c v=zdT h m p c v:=by unfold zkR zdT zNi zb8;rw[zsd a b,a,b];cases hasB p 8<;>rfl
def zCq (N:Nat)(c:Host)(a b:Int)(e f:Int):OA:=
 let l:=zhX (zdj c a) b e f;let d:=zl c;let i:=zgv d a b 2;let n:=(ix i.Mons a zh).Outer;let q:=(ix n b zV).Page;let g:=zkK (zdj c a) b e f; (oN (zT c)<|oN (zct c)<|cond (nB<|zcn c) (some [aH d,aB false])<|oN (zbm a<|ln c.Mons)<|cond (nB<|zcj a<|ln c.Mons) (some [aH d,aB false])<|oN (zc3 c a)<|oN (zvD (zdj c a) b e f)<|cond g (oN (zdk l.Guests)<|oN (inb a<|ln d.Mons)<|share (up d.Mons a ({ (ix d.Mons a zh) with Guests:=(zdZ l.Guests)}:Mon)) λj=>oN (inb a<|ln j)<|share (up j a ({ (ix j a zh) with Pending:=l.Pending}:Mon)) (λr=>let k:=({d with Mons:=r}:Host);let h:=zgv k a b 2;let m:=(ix h.Mons a zh).Outer;let p:=(ix m b zV).Page; (cond g (oN (zgJ k a b 2)<|oN (inb a<|ln h.Mons)<|oN (inb b<|ln m)<|oN (zek h.Memory p e f)<|some [aH ({h with Memory:=(zeH h.Memory p e f)}:Host),aB g])<|some [aH k,aB g])))<|cond g (oN (zgJ d a b 2)<|oN (inb a<|ln i.Mons)<|oN (inb b<|ln n)<|oN (zek i.Memory q e f)<|some [aH ({i with Memory:=(zeH i.Memory q e f)}:Host),aB g])<|some [aH d,aB g])
def zPK (a:Host)(d e:Int)(f g:Int)(p:zbS big [aH a,aI d,aI e,aI f,aI g])(k:zm6 a d e f g=true):∃N,zCq N a d e f g=some [aH<|zjh a d e f g,aB<|zji a d e f g]:=by
 have q:=(zS a).1 (zK.1 k);refine⟨0,?_⟩;unfold zCq zjh zji zlu oN nB;conv=>zeta
 refine must k (must rfl ?_);rw[show zcn a=zb2 a from rfl];cases m:zb2 a;{unfold zdT zb8;rw[m];rfl};{refine zcf rfl (must rfl ?_);rw[show zcj d (ln a.Mons)=hasB d (ln a.Mons) from rfl];cases h:hasB d (ln a.Mons);{unfold zdT zb8;rw[m,h];rfl};{have i:=zeY q h;have p:SmB (zhX (zB a d) e f g):=(by show SmB (zoQ _ _ _ _);unfold zoQ;cases zkR (zB a d) e f g;{exact i};{exact⟨zwg i.1,i.2⟩});refine zcf rfl (must k<|must (zbg i) ?_);rw[show zkK (zdj a d) e f g=zdT a d e f g from zbbv m h];cases l:zdT a d e f g;{rfl};{have t:zb8 a d e=true:=(by unfold zdT at l;cases u:zb8 a d e;{rw [u]at l;cases l};{rfl});obtain⟨r,s⟩:=zN4 h (zhX (zB a d) e f g);refine must rfl (must (zbg p.2.1)<|must (zC h)<|shr<|must r<|shr ?_);rw[show zh=mZ from rfl,s];have j:({zl a with Mons:=up (zl a).Mons d (zsc (ix (zl a).Mons d mZ)<|zhX (zB a d) e f g)}:Host)=a:=z5f h;have n:=zW9 (c:=f) (v:=g) (o:=λH=>[.agg<|zbi H,.one<|.b true]) q t;refine must rfl ?_;rw[j];exact(show _=_ from n)}}}
def zIA:vR 59 znP:=hF5 zDk zn zbH zca (zq []) zPK
def z3H:zbb:=[(82,znP),(59,znP)]++z3G
def zRF:zU z3H:=zi zIX (zi zIA zDk)
@[simp] abbrev zp5 (h:Host)(m g b a:Int):Host:=(lookOf h h.IoBuffer m g b a true).1
@[simp] abbrev zkM (h:Host)(m g b a:Int):Int:=(lookOf h h.IoBuffer m g b a true).2.1
@[simp] abbrev zkN (h:Host)(m g b a:Int):Bool:=(lookOf h h.IoBuffer m g b a true).2.2
def zzd:Run:=rF5 dH dI dI dI dI λb c d e f=>(zlw b c d e f,[aH<|zp5 b c d e f,aI<|zkM b c d e f,aB<|zkN b c d e f])
def zCu (N:Nat)(a:Host)(b c:Int)(d e:Int):OA:=
 (oN (zuv a b c d e true)<|some [aH<|zus a b c d e true,aI<|zut a b c d e true,aB<|zuu a b c d e true])
def zPO (a:Host)(b c:Int)(d e:Int)(f:zlw a b c d e=true):∃N,zCu N a b c d e=some [aH<|zp5 a b c d e,aI<|zkM a b c d e,aB<|zkN a b c d e]:=by refine⟨0,?_⟩;unfold zCu oN;exact must f rfl
def zIE:vR 186 zzd:=kF5 zRF zn zbH zca (zq []) zPO
def z3I:zbb:=[(186,zzd)]++z3H
def zs4:zU z3I:=zi zIE zRF
def zM2 (h:Host)(b:List Entry)(m g c a:Int)(e:Bool):(lookOf h b m g c a e).2.2=zb3 h m g c a:=by cases d:zb3 h m g c a;{rw [zi2 d]};{rw [zJF d];unfold zhD zfG;generalize zjG b m g c a=x;cases x;{generalize zft _ m g c a=y;cases y<;>rfl};{rfl}}
def z0k {h:Host}{m g c a:Int}(b:List Entry)(i:Bool)(f:SmH h)(d:zb3 h m g c a=true):SmM (lookOf h b m g c a i).1.Memory:=by have hg:zcc h m g=true:=(by unfold zb3 at d;cases e:zcc h m g;{rw [e]at d;cases d};{rfl});exact(zuZ f hg).shape.1.1
def zDN (h:Host)(m g a n:Int):Host×Int×Bool:=lookOf h h.IoBuffer m g (zbn a) n true
def zha (h:Host)(m g a v:Int):Bool:=bif zk a 0 15 then (cond (zk v 0 99) (zb3 h m g (zbn a) 2) false) else false
def znA (h:Host)(m g a v:Int):Host:=bif zha h m g a v then { (zDN h m g a 2).1 with Memory:=zbX (zDN h m g a 2).1.Memory (zDN h m g a 2).2.1 (zd9 a) v} else h
def zgd (h:Host)(m g a:Int):Bool:=bif zk a 0 15 then zb3 h m g (zbn a) 1 else false
def zlv (h:Host)(m g a:Int):Host:=bif zgd h m g a then (zDN h m g a 1).1 else h
def zmO (h:Host)(m g a:Int):Int:=bif zgd h m g a then cellAt (zDN h m g a 1).1.Memory (zDN h m g a 1).2.1 (zd9 a) else 0
@[simp] abbrev zoC (h:Host)(m g a v:Int):Bool:=pc (zdz h)
@[simp] abbrev zkj (h:Host)(m g a v:Int):Host:=znA h m g a v
@[simp] abbrev zkk (h:Host)(m g a v:Int):Bool:=zha h m g a v
@[simp] abbrev zm8 (h:Host)(m g a:Int):Bool:=pc (zdz h)
@[simp] abbrev zh5 (h:Host)(m g a:Int):Host:=zlv h m g a
@[simp] abbrev zjj (h:Host)(m g a:Int):Int:=zmO h m g a
@[simp] abbrev zjk (h:Host)(m g a:Int):Bool:=zgd h m g a
def zoX:Run:=rF5 dH dI dI dI dI λb c d e f=>(zoC b c d e f,[aH<|zkj b c d e f,aB<|zkk b c d e f])
def zGL (N:Nat)(g:Host)(c d:Int)(a e:Int):OA:=
 let b:=zl g;let h:=zmp b b.IoBuffer c d (zbA a) 2 true;let f:=zgL b b.IoBuffer c d (zbA a) 2 true; (oN (zT g)<|oN (zM a 0 15)<|cond (nB<|zk a 0 15) (some [aH b,aB false])<|oN (zM e 0 99)<|cond (nB<|zk e 0 99) (some [aH b,aB false])<|oN (zbQ a)<|oN (zmq b b.IoBuffer c d (zbA a) 2 true)<|cond (nB<|ziT b b.IoBuffer c d (zbA a) 2 true) (some [aH f,aB false])<|oN (zbQ a)<|oN (zek f.Memory h (zc7 a) e)<|some [aH ({f with Memory:=(zeH f.Memory h (zc7 a) e)}:Host),aB true])
def zTu (a:Host)(c d:Int)(b e:Int)(f:zoC a c d b e=true):∃N,zGL N a c d b e=some [aH<|zkj a c d b e,aB<|zkk a c d b e]:=by
 have h:=(zS a).1 (zK.1 f);refine⟨0,?_⟩;unfold zGL zkj zkk znA zha oN nB;conv=>zeta
 refine must f (must rfl ?_);rw[show zk b 0 15=zk b 0 15 from rfl];cases i:zk b 0 15;{rfl};{refine zcf rfl (must rfl ?_);rw[show zk e 0 99=zk e 0 99 from rfl];cases j:zk e 0 99;{rfl};{refine zcf rfl (must rfl (must f ?_));rw[show ziT (zl a) (zl a).IoBuffer c d (zbA b) 2 true=zb3 a c d (zbn b) 2 from zM2 _ _ _ _ _ _ _];cases g:zb3 a c d (zbn b) 2;{rw [show zgL (zl a) (zl a).IoBuffer c d (zbA b) 2 true=a from congrArg Prod.fst (zi2 g)];rfl};{exact zcf rfl (must rfl (must (zbg<|z0k a.IoBuffer true h g) rfl))}}}
def zL2:vR 85 zoX:=kF5 zs4 zn zbH zca (zq []) zTu
def zGp (N:Nat)(a:Host)(c d:Int)(b e:Int):OA:=
 let f:=zp5 a c d (zbA b) 2; (oN (zbQ b)<|oN (zlw a c d (zbA b) 2)<|oN (zM b 0 15)<|cond (nB<|zk b 0 15) (oN (zT a)<|some [aH<|zl a,aB false])<|oN (zM e 0 99)<|cond (nB<|zk e 0 99) (oN (zT a)<|some [aH<|zl a,aB false])<|cond (nB<|zkN a c d (zbA b) 2) (oN (zT a)<|some [aH<|zl a,aB false])<|oN (zbQ b)<|oN (zek f.Memory (zkM a c d (zbA b) 2) (zc7 b) e)<|some [aH ({f with Memory:=(zeH f.Memory (zkM a c d (zbA b) 2) (zc7 b) e)}:Host),aB true])
def zTa (b:Host)(c d:Int)(a e:Int)(f:zoC b c d a e=true):∃N,zGp N b c d a e=some [aH<|zkj b c d a e,aB<|zkk b c d a e]:=by
 have h:=(zS b).1 (zK.1 f);refine⟨0,?_⟩;unfold zGp zkj zkk znA zha oN nB;conv=>zeta
 refine must rfl (must f (must rfl ?_));rw[show zk a 0 15=zk a 0 15 from rfl];cases i:zk a 0 15;{exact must rfl (must f rfl)};{refine zcf rfl (must rfl ?_);rw[show zk e 0 99=zk e 0 99 from rfl];cases j:zk e 0 99;{exact must rfl (must f rfl)};{refine zcf rfl ?_;rw[show zkN b c d (zbA a) 2=zb3 b c d (zbn a) 2 from zM2 _ _ _ _ _ _ _];cases g:zb3 b c d (zbn a) 2;{exact must rfl (must f rfl)};{exact zcf rfl (must rfl (must (zbg<|z0k b.IoBuffer true h g) rfl))}}}
def zLJ:vR 62 zoX:=kF5 zs4 zn zbH zca (zq []) zTa
def znR:Run:=rF4 dH dI dI dI λb c d e=>(zm8 b c d e,[aH<|zh5 b c d e,aI<|zjj b c d e,aB<|zjk b c d e])
def zCQ (N:Nat)(f:Host)(c d a:Int):OA:=
 let b:=zl f;let g:=zmp b b.IoBuffer c d (zbA a) 1 true;let e:=zgL b b.IoBuffer c d (zbA a) 1 true; (oN (zT f)<|oN (zM a 0 15)<|cond (nB<|zk a 0 15) (some [aH b,aI 0,aB false])<|oN (zbQ a)<|oN (zmq b b.IoBuffer c d (zbA a) 1 true)<|cond (nB<|ziT b b.IoBuffer c d (zbA a) 1 true) (some [aH e,aI 0,aB false])<|oN (zbQ a)<|oN (zfO e.Memory g<|zc7 a)<|some [aH e,aI<|zgQ e.Memory g<|zc7 a,aB true])
def zP7 (a:Host)(c d b:Int)(e:zm8 a c d b=true):∃N,zCQ N a c d b=some [aH<|zh5 a c d b,aI<|zjj a c d b,aB<|zjk a c d b]:=by
 have h:=(zS a).1 (zK.1 e);refine⟨0,?_⟩;unfold zCQ zh5 zjj zjk zlv zmO zgd oN nB;conv=>zeta
 refine must e (must rfl ?_);rw[show zk b 0 15=zk b 0 15 from rfl];cases g:zk b 0 15;{rfl};{refine zcf rfl (must rfl (must e ?_));rw[show ziT (zl a) (zl a).IoBuffer c d (zbA b) 1 true=zb3 a c d (zbn b) 1 from zM2 _ _ _ _ _ _ _];cases f:zb3 a c d (zbn b) 1;{rw [show zgL (zl a) (zl a).IoBuffer c d (zbA b) 1 true=a from congrArg Prod.fst (zi2 f)];rfl};{exact zcf rfl (must rfl (must rfl rfl))}}
def zIZ:vR 86 znR:=kF4 zs4 zn zbH zca (zq []) zP7
def zCs (N:Nat)(b:Host)(c d a:Int):OA:=
 let e:=zp5 b c d (zbA a) 1; (oN (zbQ a)<|oN (zlw b c d (zbA a) 1)<|oN (zM a 0 15)<|cond (nB<|zk a 0 15) (oN (zT b)<|some [aH<|zl b,aI 0,aB false])<|cond (nB<|zkN b c d (zbA a) 1) (oN (zT b)<|some [aH<|zl b,aI 0,aB false])<|oN (zbQ a)<|oN (zfO e.Memory (zkM b c d (zbA a) 1)<|zc7 a)<|some [aH e,aI<|zgQ e.Memory (zkM b c d (zbA a) 1)<|zc7 a,aB true])
def zPM (b:Host)(c d a:Int)(e:zm8 b c d a=true):∃N,zCs N b c d a=some [aH<|zh5 b c d a,aI<|zjj b c d a,aB<|zjk b c d a]:=by
 have h:=(zS b).1 (zK.1 e);refine⟨0,?_⟩;unfold zCs zh5 zjj zjk zlv zmO zgd oN nB;conv=>zeta
 refine must rfl (must e (must rfl ?_));rw[show zk a 0 15=zk a 0 15 from rfl];cases f:zk a 0 15;{exact must rfl (must e rfl)};{refine zcf rfl ?_;rw[show zkN b c d (zbA a) 1=zb3 b c d (zbn a) 1 from zM2 _ _ _ _ _ _ _];cases g:zb3 b c d (zbn a) 1;{exact must rfl (must e rfl)};{exact zcf rfl (must rfl (must rfl rfl))}}
def zIC:vR 63 znR:=kF4 zs4 zn zbH zca (zq []) zPM
def z3J:zbb:=[(85,zoX),(62,zoX),(86,znR),(63,znR)]++z3I
def z3K:zU z3J:=zi zL2 (zi zLJ<|zi zIZ<|zi zIC zs4)
def z3L:zbb:=[(394,zrY),(347,znO)]++z3J
def zRG:zU z3L:=zi zvB (zi zpj z3K)
def zmk:Kept:=⟨rp 4 false,zni⟩
@[simp] abbrev zx3 (n:Int):Bool:=ieq n 4
@[simp] abbrev zxw (n:Int):Kept:=zmk
def zBK:Run:=rF1 dI λb=>(zx3 b,[aT .kept<|zxw b])
def zYp (N:Nat)(b:Int):OA:=
 let a:=ln<|ziC b; (oN (zk2 b)<|oN (cond (few a) (ieq a a) false)<|some [aT .kept (⟨rp a false,ziC b⟩:Kept)])
def zTx (a:Int)(b:zx3 a=true):∃N,zYp N a=some [aT .kept<|zxw a]:=by refine⟨0,?_⟩;have h:a=4:=qD b;subst h;change _=_;kernel_rfl
def zL5:vR 411 zBK:=kF1 zRG zn zbH zca (zq []) zTx
def z3M:zbb:=[(411,zBK)]++z3L
def zRH:zU z3M:=zi zL5 zRG
def zwe:List Slot:=List.replicate 8 ⟨-1,0⟩
def ziv (a:List (List Ins)):Mon:=⟨zwe,zQo,rp 8 false,(a.take 2).map zgk,[],0,0,(a.take 2).map λ_=>zmk,0⟩
def zM3 {d a b q:Type}(m:Nat)(f:d->a)(g:d->b)(K:List a×List b->Option q):∀(l:List d) (i:Nat) (u:List a×List b),u.1.length+l.length<=2147483648->u.2.length+l.length<=2147483648->
 goL (λ(i:Nat) x (u:List a×List b) k=>bif ilt (i:Int) (m:Int) then (cond (few<|ln<|ap u.1 [f x]) (cond (few<|ln<|ap u.2 [g x]) (k (ap u.1 [f x],ap u.2 [g x])) none) none) else K u) K l i u=K (u.1++(l.take<|m-i).map f,u.2++(l.take<|m-i).map g)
 |[],i,u,_,_=>by simp[goL]
 |x::l,i,u,n,p=>by simp only[jB]at n p;have e:few (ln<|ap u.1 [f x])=true:=zhW (by simp[ap];omega);have j:few (ln<|ap u.2 [g x])=true:=zhW (by simp[ap];omega);by_cases h:i<m;{have c:ilt (i:Int) (m:Int)=true:=qK (by omega);simp only[goL,c,e,j,cT];rw[zM3 m f g K l (i+1) _ (by simp[ap];omega) (by simp[ap];omega)];rw[show m-i=m-(i+1)+1 by omega];simp[ap]};{have c:ilt (i:Int) (m:Int)=false:=qH (by omega);simp only[goL,c,cF];rw[show m-i=0 by omega];simp}
def z4N (u:List Guest×List Kept):OA:=some [AV.agg<|Ty.cells .mon (⟨zwe,zQo,rp 8 false,u.1,[],0,0,u.2,0⟩:Mon)]
@[simp] abbrev zuJ (a:List (List Ins)):Bool:=pc (SmPs a)
@[simp] abbrev zJV (a:List (List Ins)):Mon:=ziv a
def zEl:Run:=rF1 (dS<|.sl .ins) λb=>(zuJ b,[aT .mon<|zJV b])
def zKF (N:Nat)(k:lP):OA:=
 (oN (zk2 8)<|oN (zqP 8)<|oN (cond (few 8) (ieq 8 8) false)<|iter (σ:=(Int×Int×Int×Int×Int×Int×Int×lP×lS×lM×lB×lG×LI×lK×lS×lM×lB×lG×LI×lK×Unit)) N (λl a=>let j:=a.2.2.2.2.2.2.2.2.2.2.2.2.2.2.1;let i:=a.2.2.2.2.2.2.2.2.2.2.2.2.2.2.2.1;let h:=a.2.2.2.2.2.2.2.2.2.2.2.2.2.2.2.2.1;let g:=a.2.2.2.2.2.2.2.2.2.2.2.2.2.2.2.2.2.1;let f:=a.2.2.2.2.2.2.2.2.2.2.2.2.2.2.2.2.2.2.1;let b:=a.2.2.2.2.2.2.2.1;let c:=a.2.2.2.2.2.2.2.2.2.2.2.2.2.2.2.2.2.2.2.1;let e:=ap g [zcY<|ix b a.1 []];let d:=aT .mon (⟨j,i,h,g,f,a.2.2.2.2.1,a.2.2.2.2.2.1,c,a.2.2.2.2.2.2.1⟩:Mon); (cond (ilt a.1<|ln b) (cond (ilt a.1 2) (oN (inb a.1<|ln b)<|oN (zkX<|ix b a.1 [])<|oN (few<|ln e)<|oN (zx3 4)<|oN (few<|ln<|ap c [zxw 4])<|l (zQ .i64 a.1 1,a.2.1,a.2.2.1,a.2.2.2.1,a.2.2.2.2.1,a.2.2.2.2.2.1,a.2.2.2.2.2.2.1,b,a.2.2.2.2.2.2.2.2.1,a.2.2.2.2.2.2.2.2.2.1,a.2.2.2.2.2.2.2.2.2.2.1,a.2.2.2.2.2.2.2.2.2.2.2.1,a.2.2.2.2.2.2.2.2.2.2.2.2.1,a.2.2.2.2.2.2.2.2.2.2.2.2.2.1,j,i,h,e,f,ap c [zxw 4],()))<|some [d])<|some [d])) (0,0,0,0,0,0,0,k,[],[],[],[],[],[],ziC 8,zlJ 8,rp 8 false,[],[],[],()))
def zX4:=zq [(370,0,{n:=36,tm:=[(0,.sl 0 []),(2,.lp 0 0),(3,.lp 1 0),(4,ti)],lo:=[(0,[.sl 1 [],.sl 2 [],.sl 3 [],.sl 4 [],.sl 5 [],ti,ti,.sl 6 [],ti]),(1,[.sl 7 [],.sl 8 [],.sl 9 [],.sl 10 [],.sl 11 [],ti,ti,.sl 12 [],ti])],ro:=[(0,.sl .ins,false),(1,.slot,true),(2,.sl .int,true),(3,.bool,true),(4,.guest,true),(5,.int,true),(6,.kept,true),(7,.slot,true),(8,.sl .int,true),(9,.bool,true),(10,.guest,true),(11,.int,true),(12,.kept,true)]})]
def zWn (a:List lI)(f:zuJ a=true):∃N,zKF N a=some [aT .mon<|zJV a]:=by
 have e:=zK.1 f;have c:=zcR e.1;refine zcw λN d=>?_;unfold zKF oN;conv=>zeta
 refine must rfl (must rfl (must rfl ?_));refine(zbp a (λi (t:lG×lK)=>((i:Int),0,0,0,0,0,0,a,[],[],[],[],[],[],ziC 8,zlJ 8,rp 8 false,t.1,[],t.2,())) _ (λi (x:List Ins) (u:List Guest×List Kept) h=>bif ilt (i:Int) ((2:Nat):Int) then (cond (few<|ln<|ap u.1 [zgk x]) (cond (few<|ln<|ap u.2 [zmk]) (h (ap u.1 [zgk x],ap u.2 [zmk])) none) none) else z4N u) (λ(t:lG×lK)=>some [.agg<|Ty.cells .mon (⟨ziC 8,zlJ 8,rp 8 false,t.1,[],0,0,t.2,0⟩:Mon)]) (λi b t rec=>?_) (λt rec=>?_) _ ([],[])<|d c.1).trans ?_;{simp only [zbF b,zbk b,zbt b,zbh b c.1,cT];have g:zkX a[i]=true:=zbg (e.2 _<|jJ b);simp only[g,cT];rfl};{simp only [zbx,cF]};exact zM3 2 zgk (λ_=>zmk) z4N a 0 ([],[]) (by simpa using c.2) (by simpa using c.2)
def zO7:vR 370 zEl:=kF1 zRH zn zbH zca zX4 zWn
def z3N:zbb:=[(370,zEl)]++z3M
def zRI:zU z3N:=zi zO7 zRH
def z14:List LI:=List.replicate 12 [0,0,0,0]
def zg6 (a:List (List<|List Ins)):Host:=⟨z14,(a.take 3).map ziv,[],[]⟩
def zKZ (a:List (List<|List Ins)):Prop:=a.length<=1048576/\∀p∈a,SmPs p
@[simp] abbrev zx2 (a:List (List<|List Ins)):Bool:=pc (zKZ a)
@[simp] abbrev ziK (a:List (List<|List Ins)):Host:=zg6 a
def z0f (t:List Mon):OA:=some [AV.agg<|zbi ⟨z14,t,[],[]⟩]
def zBJ:Run:=rF1 (dS<|.sl<|.sl .ins) λb=>(zx2 b,[aH<|ziK b])
def zGM (N:Nat)(d:lQ):OA:=
 (oN (zqP 12)<|iter (σ:=(Int×lQ×lM×lN×lE×lE×lM×lN×lE×lE×Unit)) N (λe a=>let c:=ap a.2.2.2.2.2.2.2.1 [zJV<|ix a.2.1 a.1 []];let b:=aH (⟨a.2.2.2.2.2.2.1,a.2.2.2.2.2.2.2.1,a.2.2.2.2.2.2.2.2.1,a.2.2.2.2.2.2.2.2.2.1⟩:Host); (cond (ilt a.1<|ln a.2.1) (cond (ilt a.1 3) (oN (inb a.1<|ln a.2.1)<|oN (zuJ<|ix a.2.1 a.1 [])<|oN (few<|ln c)<|e (zQ .i64 a.1 1,a.2.1,a.2.2.1,a.2.2.2.1,a.2.2.2.2.1,a.2.2.2.2.2.1,a.2.2.2.2.2.2.1,c,a.2.2.2.2.2.2.2.2.1,a.2.2.2.2.2.2.2.2.2.1,()))<|some [b])<|some [b])) (0,d,[],[],[],[],zlJ 12,[],[],[],()))
def zT5:=zq [(273,0,{n:=28,tm:=[(0,.sl 0 []),(2,.lp 0 0),(3,.lp 1 0),(4,ti)],lo:=[(0,[.sl 1 [],.sl 2 [],.sl 3 [],.sl 4 []]),(1,[.sl 5 [],.sl 6 [],.sl 7 [],.sl 8 []])],ro:=[(0,.sl<|.sl .ins,false),(1,.sl .int,true),(2,.mon,true),(3,.entry,true),(4,.entry,true),(5,.sl .int,true),(6,.mon,true),(7,.entry,true),(8,.entry,true)]})]
def zTv (a:List lP)(f:zx2 a=true):∃N,zGM N a=some [aH<|ziK a]:=by
 have e:=zK.1 f;have d:=zcR e.1;refine zcw λN c=>?_;unfold zGM oN;conv=>zeta
 refine must rfl ?_;refine(zbp a (λi (t:lN)=>((i:Int),a,[],[],[],[],zlJ 12,t,[],[],())) _ (λi (x:List lI) (t:List Mon) h=>bif ilt (i:Int) ((3:Nat):Int) then (cond (few<|ln<|ap t [ziv x]) (h<|ap t [ziv x]) none) else z0f t) (λ(t:lN)=>some [.agg<|zbi (⟨zlJ 12,t,[],[]⟩:Host)]) (λi b t rec=>?_) (λt rec=>?_) _ ([])<|c d.1).trans ?_;{simp only [zbF b,zbk b,zbt b,zbh b d.1,cT];have g:zuJ a[i]=true:=zbg (e.2 _<|jJ b);simp only[g,cT];rfl};{simp only [zbx,cF]};exact zR1 3 ziv z0f a 0 [] (by simpa using d.2)
def zL3:vR 273 zBJ:=kF1 zRI zn zbH zca zT5 zTv
def z3O:zbb:=[(273,zBJ)]++z3N
def zDl:zU z3O:=zi zL3 zRI
def ziY:Nat->Nat->Kept->Kept
 | 0,_,k=>k
 |n+1,i,k=>ziY n (i+1) (zce k (i:Int))
def ziz (k:Kept):Kept:=ziY k.Known.length 0 k
def z1z (k:Kept)(p:Int):(zce k p).Known.length=k.Known.length:=by unfold zce;cases zea k p;{rfl};{exact zgy _ _ _}
def zsR:∀(n i:Nat) (k:Kept),SmK k->SmK (ziY n i k)
 | 0,_,_,h=>h
 |n+1,i,k,h=>zsR n (i+1) _ (zob h)
@[simp] abbrev zoA (k:Kept):Kept:=ziz k
def zHj {b d:Type}(K:List Bool×List Slot->Option d):∀(l:List b) (i:Nat) (k:Kept),SmK k->
 goL (λ(i:Nat) _ (t:List Bool×List Slot) c=>bif zc8 ⟨t.1,t.2⟩ (i:Int) then c ((zeL ⟨t.1,t.2⟩ (i:Int)).Known,(zeL ⟨t.1,t.2⟩ (i:Int)).Slots) else none) K l i (k.Known,k.Slots)=K ((ziY l.length i k).Known,(ziY l.length i k).Slots)
 |[],_,_,_=>rfl
 |x::l,i,k,h=>by have a:zc8 ⟨k.Known,k.Slots⟩ (i:Int)=true:=zbg h;simp only[goL,a,cT];exact zHj K l (i+1) (zce k (i:Int)) (zob h)
def zmu:Run:=rF1 (dT .kept) λb=>(zef b,[aT .kept<|zoA b])
def zA0 (N:Nat)(b:Kept):OA:=
 (oN (zef b)<|iter (σ:=(Int×Int×lB×lS×lB×lS×Unit)) N (λd a=>let c:=(⟨a.2.2.2.2.1,a.2.2.2.2.2.1⟩:Kept); (cond (ilt a.2.1 a.1) (oN (zc8 c a.2.1)<|d (a.1,zQ .i64 a.2.1 1,a.2.2.1,a.2.2.2.1,(zeL c a.2.1).Known,(zeL c a.2.1).Slots,()))<|some [aT .kept c])) (ln b.Known,0,[],[],(zdo b).Known,(zdo b).Slots,()))
def zNV:=zq [(191,0,{n:=18,tm:=[(2,.lp 0 0),(3,.lp 1 0),(9,ti),(10,ti)],lo:=[(0,[.sl 0 [],.sl 1 []]),(1,[.sl 2 [],.sl 3 []])],ro:=[(0,.bool,true),(1,.slot,true),(2,.bool,true),(3,.slot,true)]})]
def zMJ (a:Kept)(f:zef a=true):∃N,zA0 N a=some [aT .kept<|zoA a]:=by
 have d:=zK.1 f;have e:=zcR d.1;refine zcw λN c=>?_;unfold zA0 oN;conv=>zeta
 refine must (zbg d) ?_;refine(zbp a.Known (λi (t:lB×lS)=>(ln a.Known,(i:Int),[],[],t.1,t.2,())) _ (λi (x:Bool) (t:List Bool×List Slot) g=>bif zc8 ⟨t.1,t.2⟩ (i:Int) then g ((zeL ⟨t.1,t.2⟩ (i:Int)).Known,(zeL ⟨t.1,t.2⟩ (i:Int)).Slots) else none) (λ(t:lB×lS)=>some [.agg<|Ty.cells .kept (⟨t.1,t.2⟩:Kept)]) (λi b t rec=>?_) (λt rec=>?_) _ ((zdo a).Known,(zdo a).Slots)<|c e.1).trans ?_;{simp only [zbF b,zbk b,zbt b,zbh b e.1,cT]};{simp only [zbx,cF]};exact zHj _ a.Known 0 a d
def zFp:vR 191 zmu:=kF1 zDl zn zbH zca zNV zMJ
def zBd (N:Nat)(c:Kept):OA:=
 (oN (zhP c)<|iter (σ:=(Int×lB×lS×lB×lS×Unit)) N (λd a=>let b:=(⟨a.2.1,a.2.2.1⟩:Kept); (cond (ilt a.1<|ln a.2.1) (oN (zc8 b a.1)<|d (zQ .i64 a.1 1,(zeL b a.1).Known,(zeL b a.1).Slots,a.2.2.2.1,a.2.2.2.2.1,()))<|some [aT .kept b])) (0,(zeE c).Known,(zeE c).Slots,[],[],()))
def zN0:=zq [(337,0,{n:=17,tm:=[(1,.lp 0 0),(2,.lp 1 0),(3,ti)],lo:=[(0,[.sl 0 [],.sl 1 []]),(1,[.sl 2 [],.sl 3 []])],ro:=[(0,.bool,true),(1,.slot,true),(2,.bool,true),(3,.slot,true)]})]
def zMV (a:Kept)(g:zef a=true):∃N,zBd N a=some [aT .kept<|zoA a]:=by
 have d:=zK.1 g;have f:=zcR d.1;refine zcw λN c=>?_;unfold zBd oN;conv=>zeta
 refine must (zbs<|(zyz _).2 d) ?_;refine(zrM a.Known.length (λi (k:Kept)=>((i:Int),k.Known,k.Slots,[],[],())) _ (λi k=>SmK k/\k.Known.length=a.Known.length) (λi k=>some [AV.agg<|Ty.cells .kept<|ziY (a.Known.length-i) i k]) (λi k rec e b h=>?_) (λk rec b=>?_) N 0 a ⟨d,rfl⟩ (jX _)<|c f.1).trans rfl;{refine must (zbF (by rw[b.2];exact e)) (must (zbg b.1) ?_);have q:=h (zce k (i:Int)) ⟨zob b.1,by rw[z1z];exact b.2⟩;rw[show a.Known.length-i=a.Known.length-(i+1)+1 by omega];rw[zbh e f.1];exact q};{refine zcf (by show ilt (a.Known.length:Int) (ln k.Known)=false;rw[ln,b.2];exact qH (by omega)) ?_;rw[kW];rfl}
def zFB:vR 337 zmu:=kF1 zDl zn zbH zca zN0 zMV
def z3P:zbb:=[(337,zmu),(191,zmu)]++z3O
def zRJ:zU z3P:=zi zFB (zi zFp zDl)
def zwz:Nat->Nat->List Kept->List Kept
 | 0,_,l=>l
 |n+1,j,l=>zwz n (j+1) (up l (j:Int)<|ziz<|ix l (j:Int) kZ)
def zse (x:Mon)(n j:Nat):Mon:={x with Tables:=zwz n j x.Tables}
def zop:Nat->Nat->List Mon->List Mon
 | 0,_,t=>t
 |n+1,i,t=>zop n (i+1) (up t (i:Int)<|zse (ix t (i:Int) mZ) (ix t (i:Int) mZ).Tables.length 0)
def cold (h:Host):Host:=⟨h.Memory,zop h.Mons.length 0 h.Mons,[],[]⟩
def zNH:∀(n j:Nat) (l:List Kept),j+n<=l.length->zC5 l->zC5 (zwz n j l)
 | 0,_,_,_,h=>h
 |n+1,j,l,b,h=>by have a:j<l.length:=(by omega);refine zNH n (j+1) _ (by rw[zgy];omega) (zu6 h<|zsR _ _ _ ?_);rw[zbt a];exact h.2 _ (jJ a)
def zAP {x:Mon}(h:zfC x){n j:Nat}(a:j+n<=x.Tables.length):zfC (zse x n j):=⟨h.1,h.2.1,h.2.2.1,h.2.2.2.1,h.2.2.2.2.1,zNH n j _ a h.2.2.2.2.2⟩
@[simp] abbrev zzq (h:Host):Host:=cold h
def zuE:Run:=rF1 dH λb=>(zT b,[aH<|zzq b])
def zUA (N:Nat)(d:Host):OA:=
 (oN (zT d)<|iter (σ:=(Int×lM×lN×lE×lE×lM×lN×lE×lE×Unit)) N (λg b=>cond (ilt b.1<|ln b.2.2.1) (iter (σ:=(Int×Int×lM×lN×lE×lE×lM×lN×lE×lE×Unit)) N (λh a=>let e:=inb a.1<|ln a.2.2.2.1;let c:=ix a.2.2.2.1 a.1 zh;let f:=ix c.Tables a.2.1 zeO; (oN e<|cond (ilt a.2.1<|ln c.Tables) (oN e<|oN e<|oN (inb a.2.1<|ln c.Tables)<|oN (zef f)<|oN (inb a.2.1<|ln c.Tables)<|share (up a.2.2.2.1 a.1 ({c with Tables:=(up c.Tables a.2.1<|zoA f)}:Mon)) λi=>h (a.1,zQ .i64 a.2.1 1,a.2.2.1,i,a.2.2.2.2.1,a.2.2.2.2.2.1,a.2.2.2.2.2.2.1,a.2.2.2.2.2.2.2.1,a.2.2.2.2.2.2.2.2.1,a.2.2.2.2.2.2.2.2.2.1,()))<|g (zQ .i64 a.1 1,a.2.2.1,a.2.2.2.1,a.2.2.2.2.1,a.2.2.2.2.2.1,a.2.2.2.2.2.2.1,a.2.2.2.2.2.2.2.1,a.2.2.2.2.2.2.2.2.1,a.2.2.2.2.2.2.2.2.2.1,()))) (b.1,0,b.2.1,b.2.2.1,b.2.2.2.1,b.2.2.2.2.1,b.2.2.2.2.2.1,b.2.2.2.2.2.2.1,b.2.2.2.2.2.2.2.1,b.2.2.2.2.2.2.2.2.1,()))<|some [aH (⟨b.2.1,b.2.2.1,[],[]⟩:Host)]) (0,(zl d).Memory,(zl d).Mons,(zl d).Buffer,(zl d).IoBuffer,[],[],[],[],()))
def z3f:=zq [(202,0,{n:=48,tm:=[(1,.lp 0 0),(2,.lp 1 0),(3,ti)],lo:=[(0,[.sl 0 [],.sl 1 [],.sl 2 [],.sl 3 []]),(1,[.sl 4 [],.sl 5 [],.sl 6 [],.sl 7 []])],ro:=[(0,.sl .int,true),(1,.mon,true),(2,.entry,true),(3,.entry,true),(4,.sl .int,true),(5,.mon,true),(6,.entry,true),(7,.entry,true)]}),(202,2,{n:=48,tm:=[(1,.lp 0 0),(2,.lp 1 0),(3,ti),(4,ti)],lo:=[(0,[.sl 0 [],.sl 1 [],.sl 2 [],.sl 3 []]),(1,[.sl 4 [],.sl 5 [],.sl 6 [],.sl 7 []])],ro:=[(0,.sl .int,true),(1,.mon,true),(2,.entry,true),(3,.entry,true),(4,.sl .int,true),(5,.mon,true),(6,.entry,true),(7,.entry,true)]})]
def z1Y (a:Host)(m:zT a=true):∃N,zUA N a=some [aH<|zzq a]:=by
 have v:=(zS a).1 (zK.1 m);have s:=zcR v.2.1.1;refine zcw λN f=>?_;unfold zUA oN;conv=>zeta
 refine must m ?_;refine(zrM a.Mons.length (λi (t:List Mon)=>((i:Int),a.Memory,t,a.Buffer,a.IoBuffer,[],[],[],[],())) _ (λi t=>zpR t/\t.length=a.Mons.length) (λi t=>some [AV.agg<|zbi ⟨a.Memory,zop (a.Mons.length-i) i t,[],[]⟩]) (λi t rec n e x=>?_) (λt rec e=>?_) N 0 a.Mons ⟨v.2.1,rfl⟩ (jX _)<|f s.1).trans rfl
 .have hit:i<t.length:=(by rw[e.2];exact n);have l:zfC (ix t (i:Int) mZ):=by rw[zbt hit];exact e.1.2 _ (jJ hit)
  have r:=zcR l.2.2.2.2.2.1;refine must (zbF hit) ?_;refine(zrM (ix t (i:Int) mZ).Tables.length (λj (u:List Mon)=>((i:Int),(j:Int),a.Memory,u,a.Buffer,a.IoBuffer,[],[],[],[],()))
   _ (λj u=>u.length=t.length/\zfC (ix u (i:Int) mZ)/\(ix u (i:Int) mZ).Tables.length=(ix t (i:Int) mZ).Tables.length)
   (λj u=>rec (((i+1:Nat):Int),a.Memory,up u (i:Int)<|zse (ix u (i:Int) mZ) ((ix t (i:Int) mZ).Tables.length-j) j,a.Buffer,a.IoBuffer,[],[],[],[],()))
   (λj u h p c k=>?_) (λu h c=>?_) N 0 t ⟨rfl,l,rfl⟩ (jX _) (f r.1)).trans ?_
  .have b:i<u.length:=(by rw[c.1];exact hit);have d:j<(ix u (i:Int) mZ).Tables.length:=(by rw[c.2.2];exact p);have g:SmK (ix (ix u (i:Int) mZ).Tables (j:Int) kZ):=by rw[zbt d];exact c.2.1.2.2.2.2.2.2 _ (jJ d)
   refine must (zbk b) (must (zbF d)<|must (zbk b)<|must (zbk b)<|must (zbk d)<|must (zbg g)<|must (zbk d)<|shr ?_);have w:zfC {ix u (i:Int) mZ with Tables:=up (ix u (i:Int) mZ).Tables (j:Int) (ziz<|ix (ix u (i:Int) mZ).Tables (j:Int) kZ)} :=
    ⟨c.2.1.1,c.2.1.2.1,c.2.1.2.2.1,c.2.1.2.2.2.1,c.2.1.2.2.2.2.1,zu6 c.2.1.2.2.2.2.2<|zsR _ _ _ g⟩
   have q:=k (up u (i:Int) {ix u (i:Int) mZ with Tables:=up (ix u (i:Int) mZ).Tables (j:Int) (ziz<|ix (ix u (i:Int) mZ).Tables (j:Int) kZ)}) ⟨by rw[zgy];exact c.1,by rw[zd8 b];exact w,by rw[zd8 b];simp only[zgy];exact c.2.2⟩;rw[zbh p r.1];refine q.trans ?_;rw[zd8 b,zrn,show (ix t (i:Int) mZ).Tables.length-j=(ix t (i:Int) mZ).Tables.length-(j+1)+1 by omega];rfl
  {have b:i<u.length:=(by rw[c.1];exact hit);refine must (zbk b) (zcf (by show ilt ((ix t (i:Int) mZ).Tables.length:Int) (ln (ix u (i:Int) mZ).Tables)=false;rw[ln,c.2.2];exact qH (by omega)) ?_);rw[zbh n s.1,kW];show rec (_,a.Memory,u,_)=rec (_,a.Memory,up u (i:Int)<|ix u (i:Int) mZ,_);rw[zFj b]};{have q:=x (up t (i:Int)<|zse (ix t (i:Int) mZ) (ix t (i:Int) mZ).Tables.length 0) ⟨zj9 e.1<|zAP l (by omega),by rw[zgy];exact e.2⟩;refine q.trans ?_;rw[show a.Mons.length-i=a.Mons.length-(i+1)+1 by omega];rfl}
 {refine zcf (by show ilt (a.Mons.length:Int) (ln t)=false;rw[ln,e.2];exact qH (by omega)) ?_;rw[kW];rfl}
def zVJ:vR 202 zuE:=kF1 zRJ zn zbH zca z3f z1Y
def z3Q:zbb:=[(202,zuE)]++z3P
def zRK:zU z3Q:=zi zVJ zRJ
def zUy (N:Nat)(d:Host):OA:=
 (oN (zT d)<|iter (σ:=(Int×Int×lM×lN×lE×lE×lM×lN×lE×lE×Unit)) N (λk b=>let f:=b.2.2.2.2.2.2.2.1; (cond (ilt b.2.1 b.1) (oN (inb b.2.1<|ln f)<|iter (σ:=(Int×Int×Int×Int×Int×Int×lN×lM×lN×lE×lE×lM×lE×lE×Unit)) N (λl a=>let j:=a.2.2.2.2.2.2.2.2.2.2.2.2.1;let i:=a.2.2.2.2.2.2.2.2.2.2.2.2.2.1;let c:=a.2.2.2.2.2.1;let e:=a.2.2.2.2.2.2.1;let h:=ix e a.1 zh;let g:=(ix e a.2.2.2.1 zh).Tables; (cond (ilt c a.2.2.2.2.1) (oN (inb c<|ln g)<|oN (inb a.1<|ln e)<|oN (zef<|ix g c zeO)<|oN (inb c<|ln h.Tables)<|share (up e a.1 ({h with Tables:=(up h.Tables c<|zoA<|ix g c zeO)}:Mon)) λp=>l (a.1,a.2.1,a.2.2.1,a.2.2.2.1,a.2.2.2.2.1,zQ .i64 c 1,p,a.2.2.2.2.2.2.2.1,a.2.2.2.2.2.2.2.2.1,a.2.2.2.2.2.2.2.2.2.1,a.2.2.2.2.2.2.2.2.2.2.1,a.2.2.2.2.2.2.2.2.2.2.2.1,j,i,()))<|k (a.2.1,zQ .i64 a.2.2.1 1,a.2.2.2.2.2.2.2.1,a.2.2.2.2.2.2.2.2.1,a.2.2.2.2.2.2.2.2.2.1,a.2.2.2.2.2.2.2.2.2.2.1,a.2.2.2.2.2.2.2.2.2.2.2.1,e,j,i,()))) (b.2.1,b.1,b.2.1,b.2.1,ln (ix f b.2.1 zh).Tables,0,f,b.2.2.1,b.2.2.2.1,b.2.2.2.2.1,b.2.2.2.2.2.1,b.2.2.2.2.2.2.1,b.2.2.2.2.2.2.2.2.1,b.2.2.2.2.2.2.2.2.2.1,()))<|share [] λm=>share [] λn=>some [aH (⟨b.2.2.2.2.2.2.1,f,m,n⟩:Host)])) (ln (zl d).Mons,0,[],[],[],[],(zl d).Memory,(zl d).Mons,(zl d).Buffer,(zl d).IoBuffer,()))
def z3e:=zq [(68,0,{n:=42,tm:=[(2,.lp 0 0),(3,.lp 1 0),(11,ti),(12,ti)],lo:=[(0,[.sl 0 [],.sl 1 [],.sl 2 [],.sl 3 []]),(1,[.sl 4 [],.sl 5 [],.sl 6 [],.sl 7 []])],ro:=[(0,.sl .int,true),(1,.mon,true),(2,.entry,true),(3,.entry,true),(4,.sl .int,true),(5,.mon,true),(6,.entry,true),(7,.entry,true)]}),(68,2,{n:=42,tm:=[(2,.lp 0 0),(3,.lp 1 0),(4,ti),(11,ti),(12,ti),(20,.sl 0 [7]),(21,ti),(22,ti)],lo:=[(0,[.sl 1 [],.sl 2 [],.sl 3 [],.sl 4 []]),(1,[.sl 5 [],.sl 0 [],.sl 6 [],.sl 7 []])],ro:=[(0,.mon,true),(1,.sl .int,true),(2,.mon,true),(3,.entry,true),(4,.entry,true),(5,.sl .int,true),(6,.entry,true),(7,.entry,true)]})]
def z1U (a:Host)(p:zT a=true):∃N,zUy N a=some [aH<|zzq a]:=by
 have v:=(zS a).1 (zK.1 p);have s:=zcR v.2.1.1;refine zcw λN f=>?_;unfold zUy oN;conv=>zeta
 refine must p ?_;refine(zrM a.Mons.length (λi (t:List Mon)=>(ln a.Mons,(i:Int),[],[],[],[],a.Memory,t,a.Buffer,a.IoBuffer,())) _ (λi t=>zpR t/\t.length=a.Mons.length) (λi t=>some [AV.agg<|zbi ⟨a.Memory,zop (a.Mons.length-i) i t,[],[]⟩]) (λi t rec k e x=>?_) (λt rec e=>?_) N 0 a.Mons ⟨v.2.1,rfl⟩ (jX _)<|f s.1).trans rfl
 .have hit:i<t.length:=(by rw[e.2];exact k);have n:zfC (ix t (i:Int) mZ):=by rw[zbt hit];exact e.1.2 _ (jJ hit)
  have r:=zcR n.2.2.2.2.2.1;refine must (zbF k) (must (zbk hit) ?_);refine(zrM (ix t (i:Int) mZ).Tables.length (λj (u:List Mon)=>((i:Int),ln a.Mons,(i:Int),(i:Int),ln (ix t (i:Int) mZ).Tables,(j:Int),u,[],[],[],[],a.Memory,a.Buffer,a.IoBuffer,()))
   _ (λj u=>u.length=t.length/\zfC (ix u (i:Int) mZ)/\(ix u (i:Int) mZ).Tables.length=(ix t (i:Int) mZ).Tables.length)
   (λj u=>rec (ln a.Mons,((i+1:Nat):Int),[],[],[],[],a.Memory,up u (i:Int)<|zse (ix u (i:Int) mZ) ((ix t (i:Int) mZ).Tables.length-j) j,a.Buffer,a.IoBuffer,()))
   (λj u h l b m=>?_) (λu h b=>?_) N 0 t ⟨rfl,n,rfl⟩ (jX _) (f r.1)).trans ?_
  .have c:i<u.length:=(by rw[b.1];exact hit);have d:j<(ix u (i:Int) mZ).Tables.length:=(by rw[b.2.2];exact l);have g:SmK (ix (ix u (i:Int) mZ).Tables (j:Int) kZ):=by rw[zbt d];exact b.2.1.2.2.2.2.2.2 _ (jJ d)
   refine must (zbF l) (must (zbk d)<|must (zbk c)<|must (zbg g)<|must (zbk d)<|shr ?_);have w:zfC {ix u (i:Int) mZ with Tables:=up (ix u (i:Int) mZ).Tables (j:Int) (ziz<|ix (ix u (i:Int) mZ).Tables (j:Int) kZ)} :=
    ⟨b.2.1.1,b.2.1.2.1,b.2.1.2.2.1,b.2.1.2.2.2.1,b.2.1.2.2.2.2.1,zu6 b.2.1.2.2.2.2.2<|zsR _ _ _ g⟩
   have q:=m (up u (i:Int) {ix u (i:Int) mZ with Tables:=up (ix u (i:Int) mZ).Tables (j:Int) (ziz<|ix (ix u (i:Int) mZ).Tables (j:Int) kZ)}) ⟨by rw[zgy];exact b.1,by rw[zd8 c];exact w,by rw[zd8 c];simp only[zgy];exact b.2.2⟩;rw[zbh l r.1];refine q.trans ?_;rw[zd8 c,zrn,show (ix t (i:Int) mZ).Tables.length-j=(ix t (i:Int) mZ).Tables.length-(j+1)+1 by omega];rfl
  {have c:i<u.length:=(by rw[b.1];exact hit);refine zcf (by show ilt ((ix t (i:Int) mZ).Tables.length:Int) (ln (ix t (i:Int) mZ).Tables)=false;exact qH (by simp only[ln];omega)) ?_;rw[zbh k s.1,kW];show rec _=rec (ln a.Mons,_,[],[],[],[],a.Memory,up u (i:Int)<|ix u (i:Int) mZ,_);rw[zFj c]};{have q:=x (up t (i:Int)<|zse (ix t (i:Int) mZ) (ix t (i:Int) mZ).Tables.length 0) ⟨zj9 e.1<|zAP n (by omega),by rw[zgy];exact e.2⟩;refine q.trans ?_;rw[show a.Mons.length-i=a.Mons.length-(i+1)+1 by omega];rfl}
 {refine zcf (by show ilt (a.Mons.length:Int) (ln a.Mons)=false;exact qH (by simp only[ln];omega)) ?_;rw[kW];rfl}
def zVE:vR 68 zuE:=kF1 zRK zn zbH zca z3e z1U
def z3R:zbb:=[(68,zuE)]++z3Q
def zRL:zU z3R:=zi zVE zRK
def zB0:∀(n i:Nat) (t:List Mon),i+n<=t.length->zpR t->zpR (zop n i t)
 | 0,_,_,_,h=>h
 |n+1,i,t,b,h=>by have a:i<t.length:=(by omega);refine zB0 n (i+1) _ (by rw[zgy];omega) (zj9 h<|zAP ?_ (by omega));rw[zbt a];exact h.2 _ (jJ a)
def z8a {h:Host}(a:SmH h):SmH (cold h):=⟨a.1,zB0 _ _ _ (by omega) a.2.1,by simp[cold],by simp[cold]⟩
def zpu {h:Host}{m:Int}{b:Bare}(c:SmH h)(d:zcl h m=true->SmB b):SmH (zgg h m b):=by unfold zgg;cases a:zcl h m;{exact c};{exact zAN c (zbu.1 a).2 (d a).2.1}
def z5H {h:Host}{m g p:Int}(c:SmH h):SmH (zjT h m g p):=by unfold zjT;cases e:zcl h m;{exact c};{cases l:zb4 (zB h m) g (hasB p 4);{exact c};{have d:=(zbu.1 e).2;have f:=zeY c d;have k:SmB (chg (zB h m) g (hasB p 4)<|zez (gAt (zB h m) g) p):=zpK f (zuR _<|zgw _ f);have b:=zAN c d k.2.1;have i:=zH1 (chg (zB h m) g (hasB p 4)<|zez (gAt (zB h m) g) p) d;have j:=zDr c e (chg (zB h m) g (hasB p 4)<|zez (gAt (zB h m) g) p) l;have a:=b.2.1.2 _ (zbM i mZ);simp only[cT];exact⟨b.1,zj9 b.2.1 ⟨a.1,a.2.1,a.2.2.1,a.2.2.2.1,a.2.2.2.2.1,zu6 a.2.2.2.2.2<|zob<|a.2.2.2.2.2.2 _<|zbM j _⟩,qS (zz3 _ _ _) b.2.2.1,qS (zz3 _ _ _) b.2.2.2⟩}}
def z8b {h:Host}{m p c v:Int}(e:SmH h):SmH (zlu h m p c v):=by unfold zlu;cases a:zdT h m p c v;{exact e};{have f:zb8 h m p=true:=(by unfold zdT at a;cases b:zb8 h m p;{rw [b]at a;cases a};{rfl});obtain⟨g,i,b⟩:=ziH.1 f;have d:=(zwc (n:=2) (zfD e g) i b).1.1;exact⟨zwg d.1,d.2⟩}
def zWG {h:Host}{m g c a:Int}(b:List Entry)(i:Bool)(f:SmH h)(d:zb3 h m g c a=true):SmH (lookOf h b m g c a i).1:=by have hg:zcc h m g=true:=(by unfold zb3 at d;cases e:zcc h m g;{rw [e]at d;cases d};{rfl});exact(zuZ f hg).shape.1
def zbbJ {h:Host}{m g a v:Int}(e:SmH h):SmH (znA h m g a v):=by unfold znA;cases b:zha h m g a v;{exact e};{have f:zb3 h m g (zbn a) 2=true:=(by unfold zha at b;cases c:zk a 0 15;{rw [c]at b;cases b};{cases d:zk v 0 99;{rw [c,d]at b;cases b};{rw [c,d]at b;exact b}});have c:=zWG h.IoBuffer true e f;exact⟨zwg c.1,c.2⟩}
def z8c {h:Host}{m g a:Int}(d:SmH h):SmH (zlv h m g a):=by unfold zlv;cases b:zgd h m g a;{exact d};{have e:zb3 h m g (zbn a) 1=true:=(by unfold zgd at b;cases c:zk a 0 15;{rw [c]at b;cases b};{rw [c]at b;exact b});exact zWG h.IoBuffer true d e}
def zbbK {h:Host}{m p:Int}(a:SmH h):SmH (znH h m p):=by unfold znH;cases b:zb8 h m p;{exact a};{obtain⟨c,d,e⟩:=ziH.1 b;cases zjy h m p;{exact(zND (zfD a c).1 d).1};{exact a}}
def zbcW {h:Host}{m p:Int}(a:SmH h):SmH (zqd h m p):=by unfold zqd;cases b:zb8 h m p;{exact a};{obtain⟨c,d,e⟩:=ziH.1 b;cases zjy h m p;{exact a};{exact(zmd (zfD a c) d e).1.1}}
def z5L {h:Host}{m t:Int}(a:SmH h):SmH (zjt h m t):=by unfold zjt;cases zb2 h;{exact a};{cases c:hasB m (ln h.Mons);{exact a};{cases zk t 0 3;{exact a};{have b:zfC (ix h.Mons m mZ):=a.2.1.2 _ (zbM c mZ);exact⟨a.1,zj9 a.2.1 ⟨b.1,b.2.1,b.2.2.1,b.2.2.2.1,b.2.2.2.2.1,b.2.2.2.2.2⟩,a.2.2⟩}}}
def zgT (h:Host)(a:GAct):Host:=bif ieq a.Kind 1 then (zcN h a.M a.G).1 else (cond (ieq a.Kind 2) (zgE h a.M a.G a.X ⟨a.Y,a.Z⟩)<|cond (ieq a.Kind 3) (zjT h a.M a.G a.X)<|cond (ieq a.Kind 4) (ze6 h a.M a.G a.X)<|cond (ieq a.Kind 5) (ze8 h a.M a.G)<|cond (ieq a.Kind 6) (ze7 h a.M a.G a.X)<|cond (ieq a.Kind 7) (zhG h a.M a.G ⟨a.X,a.Y,ieq a.Z 1⟩)<|cond (ieq a.Kind 8) (zlu h a.M a.X a.Y a.Z)<|cond (ieq a.Kind 9) (zf6 h a.M a.X)<|cond (ieq a.Kind 10) (zgD h a.M)<|cond (ieq a.Kind 11) (znA h a.M a.G a.X a.Y)<|zlv h a.M a.G a.X)
def zhY (h:Host)(a:GAct):Told:=bif ieq a.Kind 1 then ⟨(zcN h a.M a.G).2,0⟩ else (cond (ieq a.Kind 2) ⟨zhI h a.M a.G a.X ⟨a.Y,a.Z⟩,0⟩<|cond (ieq a.Kind 3) ⟨zge h a.M a.G a.X,0⟩<|cond (ieq a.Kind 4) ⟨zfH h a.M a.G a.X,0⟩<|cond (ieq a.Kind 5) ⟨zfJ h a.M a.G,0⟩<|cond (ieq a.Kind 6) ⟨zfI h a.M a.G a.X,0⟩<|cond (ieq a.Kind 7) ⟨zhH h a.M a.G ⟨a.X,a.Y,ieq a.Z 1⟩,0⟩<|cond (ieq a.Kind 8) ⟨zdT h a.M a.X a.Y a.Z,0⟩<|cond (ieq a.Kind 9) ⟨zgV h a.M a.X,0⟩<|cond (ieq a.Kind 10) ⟨zhF h a.M,zhE h a.M⟩<|cond (ieq a.Kind 11) ⟨zha h a.M a.G a.X a.Y,0⟩<|⟨zgd h a.M a.G a.X,zmO h a.M a.G a.X⟩)
def zje (h:Host)(a:GAct):Host:=bif ieq a.Kind 13 then znH h a.M a.X else (cond (ieq a.Kind 14) (zqd h a.M a.X)<|cond (ieq a.Kind 15) (zp2 h a.M a.X)<|cond (ieq a.Kind 16) (zjt h a.M a.X)<|cold h)
def zqa (h:Host)(a:GAct):Told:=bif ieq a.Kind 13 then ⟨ztn h a.M a.X,0⟩ else (cond (ieq a.Kind 14) ⟨zvM h a.M a.X,0⟩<|cond (ieq a.Kind 15) ⟨zb8 h a.M a.X,0⟩<|cond (ieq a.Kind 16) ⟨zrk h a.M a.X,0⟩<|⟨true,0⟩)
def zbR (h:Host)(a:GAct):Host:=bif zk a.Kind 1 17 then (cond (zk a.Kind 13 17) (zje h a)<|zgT h a) else h
def zbZ (h:Host)(a:GAct):Told:=bif zk a.Kind 1 17 then (cond (zk a.Kind 13 17) (zqa h a)<|zhY h a) else ⟨false,0⟩
def z5K {h:Host}{a:GAct}(b:SmH h):SmH (zje h a):=by unfold zje;cases ieq a.Kind 13;{cases ieq a.Kind 14;{cases ieq a.Kind 15;{cases ieq a.Kind 16;{exact z8a b};{exact z5L b}};{exact z5I b}};{exact zbcW b}};{exact zbbK b}
def z5J {h:Host}{a:GAct}(c:SmH h):SmH (zgT h a):=by have d:zcl h a.M=true->SmB (zB h a.M):=λb=>zeY c (zbu.1 b).2;unfold zgT;cases ieq a.Kind 1;{cases ieq a.Kind 2;{cases ieq a.Kind 3;{cases ieq a.Kind 4;{cases ieq a.Kind 5;{cases ieq a.Kind 6;{cases ieq a.Kind 7;{cases ieq a.Kind 8;{cases ieq a.Kind 9;{cases ieq a.Kind 10;{cases ieq a.Kind 11;{exact z8c c};{exact zbbJ c}};{exact zpu c (λb=>zQD (d b))}};{exact zpu c (λb=>zJZ _ (d b))}};{exact z8b c}};{exact zpu c (λb=>zQE _ _ (d b))}};{exact zpu c (λb=>zAL _ _ (d b))}};{exact zpu c (λb=>zAM _ (d b))}};{exact zpu c (λb=>zAK _ _ (d b))}};{exact z5H c}};{exact zpu c (λb=>zQF _ _ _ (d b))}};{exact(z5y a.M a.G c).sm}
def zoa {h:Host}{a:GAct}(b:SmH h):SmH (zbR h a):=by unfold zbR;cases zk a.Kind 1 17;{exact b};{cases zk a.Kind 13 17;{exact z5J b};{exact z5K b}}
@[simp] abbrev ze3 (h:Host)(a:GAct):Bool:=pc (zdz h)
@[simp] abbrev zng (h:Host)(a:GAct):Host:=zje h a
@[simp] abbrev zlb (h:Host)(a:GAct):Told:=zqa h a
def zzo:Run:=rF2 dH (dT .act) λb c=>(ze3 b c,[aH<|zng b c,aT .told<|zlb b c])
def zC4 (N:Nat)(c:Host)(a:GAct):OA:=
 (cond (ieq a.Kind 13) (oN (zfc c a.M a.X)<|some [aH<|ziN c a.M a.X,.agg [.b<|zkl c a.M a.X,.i .i64 0]])<|cond (ieq a.Kind 14) (oN (zfc c a.M a.X)<|some [aH<|zj2 c a.M a.X,.agg [.b<|zlL c a.M a.X,.i .i64 0]])<|cond (ieq a.Kind 15) (oN (zfc c a.M a.X)<|some [aH<|zj0 c a.M a.X,.agg [.b<|zey c a.M a.X,.i .i64 0]])<|cond (ieq a.Kind 16) (oN (zm9 c a.M a.X)<|some [aH<|zh7 c a.M a.X,.agg [.b<|zjl c a.M a.X,.i .i64 0]])<|oN (zT c)<|some [aH<|zzq c,.agg [.b true,.i .i64 0]])
def zQk (a:Host)(b:GAct)(c:ze3 a b=true):∃N,zC4 N a b=some [aH<|zng a b,aT .told<|zlb a b]:=by have d:=zK.1 c;refine⟨0,?_⟩;unfold zC4 oN;refine br (λ_=>mu ?_) (λ_=>br (λ_=>mu ?_) λ_=>br (λ_=>mu ?_) λ_=>br (λ_=>mu ?_) λ_=>mu ?_);all_goals first|rfl|(simp only [*,zng,zlb,zje,zqa,cT,cF]<;>rfl)|simp_all[Ty.cells,zng,zlb,zje,zqa]
def zJj:vR 74 zzo:=kF2 zRL zn zbH zca (zq []) zQk
def z3S:zbb:=[(74,zzo),(25,zHC),(13,zjK),(10,zjK),(23,zsq),(22,zsq)]++z3R
def zDm:zU z3S:=zi zJj (zi zSJ<|zi zwV<|zi zwP<|zi zSK<|zi zSx zRL)
@[simp] abbrev zeQ (h:Host)(a:GAct):Host:=zbR h a
@[simp] abbrev zdf (h:Host)(a:GAct):Told:=zbZ h a
def zl1:Run:=rF2 dH (dT .act) λb c=>(ze3 b c,[aH<|zeQ b c,aT .told<|zdf b c])
def zGJ (N:Nat)(c:Host)(a:GAct):OA:=
 let d:=(⟨a.Y,a.Z⟩:Slot); (oN (zm4 a)<|cond (nB<|zzp a) (oN (zT c)<|some [aH<|zl c,.agg [.b false,.i .i64 0]])<|oN (ziM a.Kind)<|cond (ziL a.Kind) (oN (ze3 c a)<|some [aH<|zng c a,.agg [.b (zlb c a).Ok,.i .i64 (zlb c a).N]])<|cond (ieq a.Kind 1) (oN (zdx c a.M a.G)<|some [aH<|zcE c a.M a.G,.agg [.b<|zcP c a.M a.G,.i .i64 0]])<|cond (ieq a.Kind 2) (oN (zoD c a.M a.G a.X d)<|some [aH<|zgE c a.M a.G a.X d,.agg [.b<|zhI c a.M a.G a.X d,.i .i64 0]])<|cond (ieq a.Kind 3) (oN (zl5 c a.M a.G a.X)<|some [aH<|zhf c a.M a.G a.X,.agg [.b<|zge c a.M a.G a.X,.i .i64 0]])<|cond (ieq a.Kind 4) (oN (zkY c a.M a.G a.X)<|some [aH<|ze6 c a.M a.G a.X,.agg [.b<|zfH c a.M a.G a.X,.i .i64 0]])<|cond (ieq a.Kind 5) (oN (zk0 c a.M a.G)<|some [aH<|ze8 c a.M a.G,.agg [.b<|zfJ c a.M a.G,.i .i64 0]])<|cond (ieq a.Kind 6) (oN (zkZ c a.M a.G a.X)<|some [aH<|ze7 c a.M a.G a.X,.agg [.b<|zfI c a.M a.G a.X,.i .i64 0]])<|cond (ieq a.Kind 7) (oN (zm4 a)<|oN (zoB c a.M a.G<|zml a)<|some [aH<|zhG c a.M a.G<|zml a,.agg [.b<|zhH c a.M a.G<|zml a,.i .i64 0]])<|cond (ieq a.Kind 8) (oN (zm6 c a.M a.X a.Y a.Z)<|some [aH<|zjh c a.M a.X a.Y a.Z,.agg [.b<|zji c a.M a.X a.Y a.Z,.i .i64 0]])<|cond (ieq a.Kind 9) (oN (zm7 c a.M a.X)<|some [aH<|zf6 c a.M a.X,.agg [.b<|zgV c a.M a.X,.i .i64 0]])<|cond (ieq a.Kind 10) (oN (zc3 c a.M)<|some [aH<|zgD c a.M,.agg [.b<|zhF c a.M,.i .i64<|zhE c a.M]])<|cond (ieq a.Kind 11) (oN (zoC c a.M a.G a.X a.Y)<|some [aH<|zkj c a.M a.G a.X a.Y,.agg [.b<|zkk c a.M a.G a.X a.Y,.i .i64 0]])<|oN (zm8 c a.M a.G a.X)<|some [aH<|zh5 c a.M a.G a.X,.agg [.b<|zjk c a.M a.G a.X,.i .i64<|zjj c a.M a.G a.X]])
def zTs (a:Host)(b:GAct)(c:ze3 a b=true):∃N,zGJ N a b=some [aH<|zeQ a b,aT .told<|zdf a b]:=by
 have d:=zK.1 c;refine⟨0,?_⟩;unfold zGJ oN nB;conv=>zeta
 refine must rfl (brN (λ_=>mu ?_) λ_=>must rfl (br (λ_=>mu ?_) λ_=>br (λ_=>mu ?_) λ_=>br (λ_=>mu ?_) λ_=>br (λ_=>mu ?_) λ_=>br (λ_=>mu ?_) λ_=>br (λ_=>mu ?_) λ_=>br (λ_=>mu ?_) λ_=>br (λ_=>must rfl (mu ?_)) λ_=>br (λ_=>mu ?_) λ_=>br (λ_=>mu ?_) λ_=>br (λ_=>mu ?_) λ_=>br (λ_=>mu ?_) λ_=>mu ?_));all_goals first|rfl|(simp only [*,zeQ,zdf,zbR,zbZ,zgT,zhY,cT,cF]<;>rfl)|simp_all[Ty.cells,zeQ,zdf,zbR,zbZ,zgT,zhY]
def zwU:vR 14 zl1:=kF2 zDm zn zbH zca (zq []) zTs
def zbc5 {h:Host}{a:GAct}(b:ieq a.Kind 1=true):zbR h a=(zcN h a.M a.G).1/\zbZ h a=⟨(zcN h a.M a.G).2,0⟩:=by have e:a.Kind=1:=qD b;constructor;{unfold zbR zgT;rw[e];rfl};{unfold zbZ zhY;rw[e];rfl}
def zbc6 {h:Host}{a:GAct}(b:ieq a.Kind 2=true):zbR h a=zgE h a.M a.G a.X ⟨a.Y,a.Z⟩/\zbZ h a=⟨zhI h a.M a.G a.X ⟨a.Y,a.Z⟩,0⟩:=by have e:a.Kind=2:=qD b;constructor;{unfold zbR zgT;rw[e];rfl};{unfold zbZ zhY;rw[e];rfl}
def zbc7 {h:Host}{a:GAct}(b:ieq a.Kind 3=true):zbR h a=zjT h a.M a.G a.X/\zbZ h a=⟨zge h a.M a.G a.X,0⟩:=by have e:a.Kind=3:=qD b;constructor;{unfold zbR zgT;rw[e];rfl};{unfold zbZ zhY;rw[e];rfl}
def zbc8 {h:Host}{a:GAct}(b:ieq a.Kind 4=true):zbR h a=ze6 h a.M a.G a.X/\zbZ h a=⟨zfH h a.M a.G a.X,0⟩:=by have e:a.Kind=4:=qD b;constructor;{unfold zbR zgT;rw[e];rfl};{unfold zbZ zhY;rw[e];rfl}
def zbc9 {h:Host}{a:GAct}(b:ieq a.Kind 5=true):zbR h a=ze8 h a.M a.G/\zbZ h a=⟨zfJ h a.M a.G,0⟩:=by have e:a.Kind=5:=qD b;constructor;{unfold zbR zgT;rw[e];rfl};{unfold zbZ zhY;rw[e];rfl}
def zbda {h:Host}{a:GAct}(b:ieq a.Kind 6=true):zbR h a=ze7 h a.M a.G a.X/\zbZ h a=⟨zfI h a.M a.G a.X,0⟩:=by have e:a.Kind=6:=qD b;constructor;{unfold zbR zgT;rw[e];rfl};{unfold zbZ zhY;rw[e];rfl}
def zbdb {h:Host}{a:GAct}(b:ieq a.Kind 7=true):zbR h a=zhG h a.M a.G ⟨a.X,a.Y,ieq a.Z 1⟩/\zbZ h a=⟨zhH h a.M a.G ⟨a.X,a.Y,ieq a.Z 1⟩,0⟩:=by have e:a.Kind=7:=qD b;constructor;{unfold zbR zgT;rw[e];rfl};{unfold zbZ zhY;rw[e];rfl}
def zbdc {h:Host}{a:GAct}(b:ieq a.Kind 8=true):zbR h a=zlu h a.M a.X a.Y a.Z/\zbZ h a=⟨zdT h a.M a.X a.Y a.Z,0⟩:=by have e:a.Kind=8:=qD b;constructor;{unfold zbR zgT;rw[e];rfl};{unfold zbZ zhY;rw[e];rfl}
def zbdd {h:Host}{a:GAct}(b:ieq a.Kind 9=true):zbR h a=zf6 h a.M a.X/\zbZ h a=⟨zgV h a.M a.X,0⟩:=by have e:a.Kind=9:=qD b;constructor;{unfold zbR zgT;rw[e];rfl};{unfold zbZ zhY;rw[e];rfl}
def zbbW {h:Host}{a:GAct}(b:ieq a.Kind 10=true):zbR h a=zgD h a.M/\zbZ h a=⟨zhF h a.M,zhE h a.M⟩:=by have e:a.Kind=10:=qD b;constructor;{unfold zbR zgT;rw[e];rfl};{unfold zbZ zhY;rw[e];rfl}
def zbbX {h:Host}{a:GAct}(b:ieq a.Kind 11=true):zbR h a=znA h a.M a.G a.X a.Y/\zbZ h a=⟨zha h a.M a.G a.X a.Y,0⟩:=by have e:a.Kind=11:=qD b;constructor;{unfold zbR zgT;rw[e];rfl};{unfold zbZ zhY;rw[e];rfl}
def zbbY {h:Host}{a:GAct}(b:ieq a.Kind 12=true):zbR h a=zlv h a.M a.G a.X/\zbZ h a=⟨zgd h a.M a.G a.X,zmO h a.M a.G a.X⟩:=by have e:a.Kind=12:=qD b;constructor;{unfold zbR zgT;rw[e];rfl};{unfold zbZ zhY;rw[e];rfl}
def zbbZ {h:Host}{a:GAct}(b:ieq a.Kind 13=true):zbR h a=znH h a.M a.X/\zbZ h a=⟨ztn h a.M a.X,0⟩:=by have e:a.Kind=13:=qD b;constructor;{unfold zbR zje;rw[e];rfl};{unfold zbZ zqa;rw[e];rfl}
def zbb0 {h:Host}{a:GAct}(b:ieq a.Kind 14=true):zbR h a=zqd h a.M a.X/\zbZ h a=⟨zvM h a.M a.X,0⟩:=by have e:a.Kind=14:=qD b;constructor;{unfold zbR zje;rw[e];rfl};{unfold zbZ zqa;rw[e];rfl}
def zbb1 {h:Host}{a:GAct}(b:ieq a.Kind 15=true):zbR h a=zp2 h a.M a.X/\zbZ h a=⟨zb8 h a.M a.X,0⟩:=by have e:a.Kind=15:=qD b;constructor;{unfold zbR zje;rw[e];rfl};{unfold zbZ zqa;rw[e];rfl}
def zbb2 {h:Host}{a:GAct}(b:ieq a.Kind 16=true):zbR h a=zjt h a.M a.X/\zbZ h a=⟨zrk h a.M a.X,0⟩:=by have e:a.Kind=16:=qD b;constructor;{unfold zbR zje;rw[e];rfl};{unfold zbZ zqa;rw[e];rfl}
def zbb3 {h:Host}{a:GAct}(b:ieq a.Kind 17=true):zbR h a=cold h/\zbZ h a=⟨true,0⟩:=by have e:a.Kind=17:=qD b;constructor;{unfold zbR zje;rw[e];rfl};{unfold zbZ zqa;rw[e];rfl}
def zbc4 {h:Host}{a:GAct}(l:ieq a.Kind 1=false)(m:ieq a.Kind 2=false)(n:ieq a.Kind 3=false)(p:ieq a.Kind 4=false)(q:ieq a.Kind 5=false)(r:ieq a.Kind 6=false)(s:ieq a.Kind 7=false)(t:ieq a.Kind 8=false)(u:ieq a.Kind 9=false)(b:ieq a.Kind 10=false)(c:ieq a.Kind 11=false)(d:ieq a.Kind 12=false)(e:ieq a.Kind 13=false)(f:ieq a.Kind 14=false)(g:ieq a.Kind 15=false)(i:ieq a.Kind 16=false)(j:ieq a.Kind 17=false):zbR h a=h/\zbZ h a=⟨false,0⟩:=by have k:zk a.Kind 1 17=false:=(by cases k:zk a.Kind 1 17;{rfl};{have:=zfX.1 k;have:=qW l;have:=qW m;have:=qW n;have:=qW p;have:=qW q;have:=qW r;have:=qW s;have:=qW t;have:=qW u;have:=qW b;have:=qW c;have:=qW d;have:=qW e;have:=qW f;have:=qW g;have:=qW i;have:=qW j;omega});unfold zbR zbZ;rw[k];exact⟨rfl,rfl⟩
def zGn (N:Nat)(c:Host)(a:GAct):OA:=
 let g:=zhG c a.M a.G<|zml a;let f:=zkj c a.M a.G a.X a.Y;let e:=zjh c a.M a.X a.Y a.Z;let d:=(⟨a.Y,a.Z⟩:Slot); (cond (ieq a.Kind 1) (oN (zdx c a.M a.G)<|oN (zT<|zcE c a.M a.G)<|some [aH<|zl<|zcE c a.M a.G,.agg [.b<|zcP c a.M a.G,.i .i64 0]])<|cond (ieq a.Kind 2) (oN (zoD c a.M a.G a.X d)<|oN (zT<|zgE c a.M a.G a.X d)<|some [aH<|zl<|zgE c a.M a.G a.X d,.agg [.b<|zhI c a.M a.G a.X d,.i .i64 0]])<|cond (ieq a.Kind 3) (oN (zl5 c a.M a.G a.X)<|oN (zT<|zhf c a.M a.G a.X)<|some [aH<|zl<|zhf c a.M a.G a.X,.agg [.b<|zge c a.M a.G a.X,.i .i64 0]])<|cond (ieq a.Kind 4) (oN (zkY c a.M a.G a.X)<|oN (zT<|ze6 c a.M a.G a.X)<|some [aH<|zl<|ze6 c a.M a.G a.X,.agg [.b<|zfH c a.M a.G a.X,.i .i64 0]])<|cond (ieq a.Kind 5) (oN (zk0 c a.M a.G)<|oN (zT<|ze8 c a.M a.G)<|some [aH<|zl<|ze8 c a.M a.G,.agg [.b<|zfJ c a.M a.G,.i .i64 0]])<|cond (ieq a.Kind 6) (oN (zkZ c a.M a.G a.X)<|oN (zT<|ze7 c a.M a.G a.X)<|some [aH<|zl<|ze7 c a.M a.G a.X,.agg [.b<|zfI c a.M a.G a.X,.i .i64 0]])<|cond (ieq a.Kind 7) (oN (zm4 a)<|oN (zoB c a.M a.G<|zml a)<|oN (zT g)<|some [aH<|zl g,.agg [.b<|zhH c a.M a.G<|zml a,.i .i64 0]])<|cond (ieq a.Kind 8) (oN (zm6 c a.M a.X a.Y a.Z)<|oN (zT e)<|some [aH<|zl e,.agg [.b<|zji c a.M a.X a.Y a.Z,.i .i64 0]])<|cond (ieq a.Kind 9) (oN (zm7 c a.M a.X)<|oN (zT<|zf6 c a.M a.X)<|some [aH<|zl<|zf6 c a.M a.X,.agg [.b<|zgV c a.M a.X,.i .i64 0]])<|cond (ieq a.Kind 10) (oN (zc3 c a.M)<|oN (zT<|zgD c a.M)<|some [aH<|zl<|zgD c a.M,.agg [.b<|zhF c a.M,.i .i64<|zhE c a.M]])<|cond (ieq a.Kind 11) (oN (zoC c a.M a.G a.X a.Y)<|oN (zT f)<|some [aH<|zl f,.agg [.b<|zkk c a.M a.G a.X a.Y,.i .i64 0]])<|cond (ieq a.Kind 12) (oN (zm8 c a.M a.G a.X)<|oN (zT<|zh5 c a.M a.G a.X)<|some [aH<|zl<|zh5 c a.M a.G a.X,.agg [.b<|zjk c a.M a.G a.X,.i .i64<|zjj c a.M a.G a.X]])<|cond (ieq a.Kind 13) (oN (zfc c a.M a.X)<|oN (zT<|ziN c a.M a.X)<|some [aH<|zl<|ziN c a.M a.X,.agg [.b<|zkl c a.M a.X,.i .i64 0]])<|cond (ieq a.Kind 14) (oN (zfc c a.M a.X)<|oN (zT<|zj2 c a.M a.X)<|some [aH<|zl<|zj2 c a.M a.X,.agg [.b<|zlL c a.M a.X,.i .i64 0]])<|cond (ieq a.Kind 15) (oN (zfc c a.M a.X)<|oN (zT<|zj0 c a.M a.X)<|some [aH<|zl<|zj0 c a.M a.X,.agg [.b<|zwY c a.M a.X,.i .i64 0]])<|cond (ieq a.Kind 16) (oN (zm9 c a.M a.X)<|oN (zT<|zh7 c a.M a.X)<|some [aH<|zl<|zh7 c a.M a.X,.agg [.b<|zjl c a.M a.X,.i .i64 0]])<|cond (ieq a.Kind 17) (oN (zT c)<|oN (zT<|zzq c)<|some [aH<|zl<|zzq c,.agg [.b true,.i .i64 0]])<|oN (zT c)<|some [aH<|zl c,.agg [.b false,.i .i64 0]])
def zS8 (a:Host)(b:GAct)(c:ze3 a b=true):∃N,zGn N a b=some [aH<|zeQ a b,aT .told<|zdf a b]:=by
 have d:=zK.1 c;have e:zdz (zbR a b):=(zS _).2 (zoa<|(zS _).1 d);have p:=@zbc5 a b;have q:=@zbc6 a b;have r:=@zbc7 a b;have s:=@zbc8 a b;have t:=@zbc9 a b;have u:=@zbda a b;have v:=@zbdb a b;have w:=@zbdc a b;have x:=@zbdd a b;have f:=@zbbW a b;have g:=@zbbX a b;have h:=@zbbY a b;have i:=@zbbZ a b;have j:=@zbb0 a b;have k:=@zbb1 a b;have l:=@zbb2 a b;have m:=@zbb3 a b;have n:=@zbc4 a b;refine⟨0,?_⟩;unfold zGn oN;conv=>zeta
 refine br (λ_=>mu (mu ?_)) (λ_=>br (λ_=>mu (mu ?_)) λ_=>br (λ_=>mu (mu ?_)) λ_=>br (λ_=>mu (mu ?_)) λ_=>br (λ_=>mu (mu ?_)) λ_=>br (λ_=>mu (mu ?_)) λ_=>br (λ_=>must rfl (mu<|mu ?_)) λ_=>br (λ_=>mu (mu ?_)) λ_=>br (λ_=>mu (mu ?_)) λ_=>br (λ_=>mu (mu ?_)) λ_=>br (λ_=>mu (mu ?_)) λ_=>br (λ_=>mu (mu ?_)) λ_=>br (λ_=>mu (mu ?_)) λ_=>br (λ_=>mu (mu ?_)) λ_=>br (λ_=>mu (mu ?_)) λ_=>br (λ_=>mu (mu ?_)) λ_=>br (λ_=>mu (mu ?_)) λ_=>mu ?_);all_goals first|rfl|(simp only [*,zeQ,zdf,cT,cF]<;>rfl)|simp_all[Ty.cells,zeQ,zdf]
def zLH:vR 11 zl1:=kF2 zDm zn zbH zca (zq []) zS8
def z3T:zbb:=[(14,zl1),(11,zl1)]++z3S
def zRM:zU z3T:=zi zwU (zi zLH zDm)
def zEf:List GAct->Host×List Told->Host×List Told
 |[],u=>u
 |a::l,u=>zEf l (zbR u.1 a,ap u.2 [zbZ u.1 a])
def zAf (a:List (List<|List Ins))(l:List GAct):Host×List Told:=zEf (l.take 80) (zg6 a,[])
abbrev HSt:Type:=(List Told)×(List<|LI)×(List Mon)×(List Entry)×(List Entry)
def hOf (t:HSt):Host:=⟨t.2.1,t.2.2.1,t.2.2.2.1,t.2.2.2.2⟩
def tOf (u:Host×List Told):HSt:=(u.2,u.1.Memory,u.1.Mons,u.1.Buffer,u.1.IoBuffer)
def zAo (t:HSt):OA:=some [AV.agg<|zbi<|hOf t,AV.one<|.s .told t.1]
def z0C {e:List (List<|List Ins)}(h:zKZ e):SmH (zg6 e):=by refine⟨show SmM z14 from ⟨by decide,by decide⟩,⟨?_,?_⟩,by simp[zg6],by simp[zg6]⟩;{simp only [zg6,uP,vP];omega};{intro x d;simp only[zg6,jI]at d;obtain⟨p,f,rfl⟩:=d;have b:=h.2 p (jY f);refine⟨show zwe.length<=1048576 by decide,show SmM zQo from ⟨by decide,by decide⟩,show (rp 8 false).length<=1048576 by decide,⟨?_,?_⟩,by simp[ziv],⟨?_,?_⟩⟩;{simp only [ziv,uP,vP];omega};{intro y a;simp only[ziv,jI]at a;obtain⟨q,c,rfl⟩:=a;exact⟨b.2 q<|jY c,show zni.length<=1048576 by decide,show zni.length<=1048576 by decide,by simp[zgk]⟩};{simp only [ziv,uP,vP];omega};{intro y a;simp only[ziv,jI]at a;obtain⟨q,c,rfl⟩:=a;exact⟨show (rp 4 false).length<=1048576 by decide,show zni.length<=1048576 by decide⟩}}
def zHm {c:Host->GAct->Bool}(d:∀h a,SmH h->c h a=true)(m:Nat):∀(l:List GAct) (i:Nat) (u:Host×List Told),SmH u.1->u.2.length+l.length<=2147483648->
 goL (λ(i:Nat) x (t:HSt) n=>bif ilt (i:Int) (m:Int) then (cond (c (hOf t) x) (cond (few<|ln<|ap t.1 [zbZ (hOf t) x]) (n (ap t.1 [zbZ (hOf t) x],(zbR (hOf t) x).Memory,(zbR (hOf t) x).Mons,(zbR (hOf t) x).Buffer,(zbR (hOf t) x).IoBuffer)) none) none) else zAo t) zAo l i (tOf u)=zAo (tOf<|zEf (l.take<|m-i) u)
 |[],i,u,_,_=>by simp[goL,zEf]
 |a::l,i,u,e,k=>by simp only[jB]at k;have g:few (ln<|ap u.2 [zbZ u.1 a])=true:=zhW (by simp[ap];omega);have j:hOf (tOf u)=u.1:=rfl;have f:(tOf u).1=u.2:=rfl;by_cases h:i<m;{have b:ilt (i:Int) (m:Int)=true:=qK (by omega);simp only[goL,b,j,f,g,d _ _ e,cT];refine(zHm d m l (i+1) (zbR u.1 a,ap u.2 [zbZ u.1 a]) (zoa e) (by simp[ap];omega)).trans ?_;rw[show m-i=m-(i+1)+1 by omega];rfl};{have b:ilt (i:Int) (m:Int)=false:=qH (by omega);simp only[goL,b,cF];rw[show m-i=0 by omega];rfl}
@[simp] abbrev zv2 (a:List (List<|List Ins))(l:List GAct):Bool:=pc (zKZ a/\l.length<=1048576)
@[simp] abbrev zv1 (a:List (List<|List Ins))(l:List GAct):Host:=(zAf a l).1
@[simp] abbrev zEr (a:List (List<|List Ins))(l:List GAct):List Told:=(zAf a l).2
def zzi:Run:=rF2 (dS<|.sl<|.sl .ins) (dS .act) λb c=>(zv2 b c,[aH<|zv1 b c,aS .told<|zEr b c])
def zCN (N:Nat)(b:lQ)(g:lA):OA:=
 (oN (zx2 b)<|iter (σ:=(Int×lA×lT×lM×lN×lE×lE×lM×lN×lE×lE×Unit)) N (λh a=>let e:=ix a.2.1 a.1 zbdH;let c:=(⟨a.2.2.2.2.2.2.2.1,a.2.2.2.2.2.2.2.2.1,a.2.2.2.2.2.2.2.2.2.1,a.2.2.2.2.2.2.2.2.2.2.1⟩:Host);let f:=ap a.2.2.1 [zdf c e];let d:=zeQ c e; (cond (ilt a.1<|ln a.2.1) (cond (ilt a.1 80) (oN (inb a.1<|ln a.2.1)<|oN (ze3 c e)<|oN (few<|ln f)<|h (zQ .i64 a.1 1,a.2.1,f,a.2.2.2.1,a.2.2.2.2.1,a.2.2.2.2.2.1,a.2.2.2.2.2.2.1,d.Memory,d.Mons,d.Buffer,d.IoBuffer,()))<|some [aH c,aS .told a.2.2.1])<|some [aH c,aS .told a.2.2.1])) (0,g,[],[],[],[],[],(ziK b).Memory,(ziK b).Mons,(ziK b).Buffer,(ziK b).IoBuffer,()))
def zQS:=zq [(137,0,{n:=39,tm:=[(1,.sl 0 []),(4,.lp 0 0),(6,.lp 1 0),(7,.sl 1 []),(8,ti)],lo:=[(0,[.sl 2 [],.sl 3 [],.sl 4 [],.sl 5 []]),(1,[.sl 6 [],.sl 7 [],.sl 8 [],.sl 9 []])],ro:=[(0,.act,false),(1,.told,true),(2,.sl .int,true),(3,.mon,true),(4,.entry,true),(5,.entry,true),(6,.sl .int,true),(7,.mon,true),(8,.entry,true),(9,.entry,true)]})]
def zP4 (b:List lP)(c:List GAct)(k:zv2 b c=true):∃N,zCN N b c=some [aH<|zv1 b c,aS .told<|zEr b c]:=by
 obtain⟨j,g⟩:=zK.1 k;have f:=zcR g;refine zcw λN e=>?_;unfold zCN oN;conv=>zeta
 refine must (zbg j) ?_;refine(zbp c (λi (t:lT×lM×lN×lE×lE)=>((i:Int),c,t.1,[],[],[],[],t.2.1,t.2.2.1,t.2.2.2.1,t.2.2.2.2,())) _ (λi (x:GAct) (t:HSt) m=>bif ilt (i:Int) ((80:Nat):Int) then (cond (ze3 (hOf t) x) (cond (few<|ln<|ap t.1 [zbZ (hOf t) x]) (m (ap t.1 [zbZ (hOf t) x],(zbR (hOf t) x).Memory,(zbR (hOf t) x).Mons,(zbR (hOf t) x).Buffer,(zbR (hOf t) x).IoBuffer)) none) none) else zAo t) (λ(t:lT×lM×lN×lE×lE)=>some [.agg<|zbi (⟨t.2.1,t.2.2.1,t.2.2.2.1,t.2.2.2.2⟩:Host),.one<|.s .told t.1]) (λi d t rec=>?_) (λt rec=>?_) _ ([],(ziK b).Memory,(ziK b).Mons,(ziK b).Buffer,(ziK b).IoBuffer)<|e f.1).trans ?_;{simp only [zbF d,zbk d,zbt d,zbh d f.1,cT];rfl};{simp only [zbx,cF]};exact zHm (λh a l=>zbg ((zS h).2 l)) 80 c 0 (zg6 b,[]) (z0C j) (by simpa using f.2)
def zIW:vR 137 zzi:=kF2 zRM zn zbH zca zQS zP4
def zU5:zbb:=[(137,zzi)]++z3T
def zxR:zU zU5:=zi zIW zRM
def zEM (h:Host):Prop:=∃a l,zKZ a/\(1<=a.length/\∀p∈a,1<=p.length/\∀x∈p,zd7 x=true)/\h=(zAf a l).1
def zJR {p:List Ins}(h:zd7 p=true):p.length<=12:=by unfold zd7 at h;cases a:p.all zfk with|false=>rw[a]at h;cases h|true=>rw[a,cT]at h;have b:=(zfX.1 h).2;unfold ln at b;omega
def zxJ (N:Nat)(c:Cur)  : OA :=
 let a:=({ (zn7 c) with b:=c.b}:Cur); (oN (zrg c)<|oN (zoK a 20)<|oN (zv2 (zv9 c)<|ztw a 20)<|some [.agg [.s .u8 c.b,.i .i64 (zoL a 20).i,.i .i64 (zoL a 20).h],aH<|zv1 (zv9 c)<|ztw a 20])
def zri (c:Cur)(s:Cur)(a:Host):Prop:=(∃N,zxJ N c=some (AV.agg (zcg s)::[aH a]))/\(s.b=c.b/\0<=s.i)/\(zEM a)
def zgI (c:Cur)  : Bool:=wC (zri c)
def zks (c:Cur)  : Cur:=wS (zri c)
def ziQ (c:Cur)  : Host:=wV (zri c)
def zx8 {c:Cur}(h:zgI c=true):zri c (zks c) (ziQ c):=wG h
def zZv (c:Cur)  : 0<=(zks c).i:=wP λh=>h.2.1.2
def zZu (c:Cur)(h:∃N,Ends (wE (λa=>aH a) c.b λa=>zEM a)<|zxJ N c):zgI c=true:=wI (λ_ _ h=>h) h
def zy9:zeR:=rP0 λc=>(zgI c,zks c,[aH<|ziQ c])
def zMr:zb7 Tryz.prog 47 [false,true,true] zy9:=hP0 zxR zbe zW0 zo (zq []) (λ_ h=>(zx8 h).1)
def zMy {c:Cur}(h:zbj c):zgI c=true:=by
 refine zZu c ⟨0,?_⟩;have e:zbj {zn7 c with b:=c.b}:=zbV h (z2H _);have a:=(zNw<|z8s h).2.2;have f:=(zHI<|z3n e (m:=20) (by omega) (by omega)).2.2;unfold zxJ oN;conv=>zeta
 have i:(ztw {zn7 c with b:=c.b} 20).length<=65:=by unfold ln at f;omega
 have S:zKZ (zv9 c):=⟨by omega,λp d=>by
  have g:=a.2.2 p d;exact⟨by omega,λx j=>by have:=zJR (g.2.2 x j);omega⟩⟩
 exact zG (z8s h) (zG (z3n e (by omega) (by omega))<|zG (zbg ⟨S,qS i (by decide)⟩)<|zbN aH (zZx _ _) ⟨_,_,S,⟨a.1,λp d=>⟨(a.2.2 p d).1,(a.2.2 p d).2.2⟩⟩,rfl⟩)
def z2j:zdn:=[(47,[false,true,true],zy9)]++z95
def zvO:zco z2j:=zcZ zW0 (by
 intro x a;simp only[qG,qO,or_false]at a;rcases a with rfl
 .exact zMr)
def zVw {f c b:Type}{G:b->Prop}{a:Nat->f->c->(c->Option b)->Option b}{K:c->Option b}(e:∀i x t g,(∀t,Ends G<|g t)->Ends G (a i x t g))(d:∀t,Ends G<|K t):∀(l:List f) (i:Nat) (t:c),Ends G (goL a K l i t)
 |[],i,t=>d t
 |x::l,i,t=>e i x t _ (λt=>zVw e d l (i+1) t)
def zpO (N:Nat)(c:LI):OA:=
 (iter (σ:=(Int×Int×LI×lM×lN×lE×lE×Unit)) N (λd a=>let b:=(⟨a.2.2.1,0,a.1⟩:Cur); (cond (ilt a.2.1<|ln a.2.2.1) (cond (ilt a.2.1 4000) (oN (inb a.2.1<|ln a.2.2.1)<|d (wand .i64 (zQ .i64 (zQ .i64 (znj .i64 a.1 131)<|wcv .i64<|ix a.2.2.1 a.2.1 0) 7) 1073741823,zQ .i64 a.2.1 1,a.2.2.1,a.2.2.2.1,a.2.2.2.2.1,a.2.2.2.2.2.1,a.2.2.2.2.2.2.1,()))<|oN (zgI b)<|some [aH<|ziQ b])<|oN (zgI b)<|some [aH<|ziQ b])) (zQ .i64 94701<|ln c,0,c,[],[],[],[],()))
def zQR:=zq [(48,0,{n:=32,tm:=[(0,.sl 0 []),(3,ti),(4,ti)],lo:=[(0,[.sl 1 [],.sl 2 [],.sl 3 [],.sl 4 []])],ro:=[(0,.u8,false),(1,.sl .int,true),(2,.mon,true),(3,.entry,true),(4,.entry,true)],sk:=[(0,2,0,.lp 0 0)]})]
def zt1 (b:LI)(a:Host):Prop:=(∃N,zpO N b=some [aH a])/\(zEM a)
def zkV (a:LI):Bool:=uC (T:=Host) (λr=>zt1 a r)
def zXg (a:LI):Host:=uV (λr=>zt1 a r)
def zqN (a:LI):Host:=(zXg a)
def zEq {a:LI}(h:zkV a=true):zt1 a (zqN a):=uG h
def zXf (c:LI)(h:∃N,Ends (λa=>∃b,a=[aH b]/\(zEM b))<|zpO N c):zkV c=true:=by obtain⟨N,a,e,b,rfl,h⟩:=h;exact zbg ⟨b,⟨N,e⟩,h⟩
def zzh:Run:=rF1 (dS .u8) λb=>(zkV b,[aH<|zqN b])
def zP2 (a:LI)(b:zkV a=true):∃N,zpO N a=some [aH<|zqN a]:=by exact(zEq b).1
def zIV:vR 8 zzh:=kF1 zxR zbe zvO zo zQR zP2
def zLk {b:LI}(h:b.length<=big):zkV b=true:=by
 refine zXf b (zcw λN e=>?_);unfold zpO oN;conv=>zeta
 have c:∀t,Ends (λa=>∃g,a=[aH g]/\zEM g) (cond (zgI ⟨b,0,t⟩) (some [aH<|ziQ ⟨b,0,t⟩]) none):=λt=>
  have f:zbj ⟨b,0,t⟩:=⟨kN 0,h⟩
  zG (zMy f) ⟨_,rfl,_,rfl,(zx8<|zMy f).2.2⟩
 refine(congrArg (Ends _)<|zbp b (λi (t:Int)=>(t,(i:Int),b,[],[],[],[],())) _ (λi x (t:Int) j=>bif ilt (i:Int) 4000 then j (wand .i64 (zQ .i64 (zQ .i64 (znj .i64 t 131)<|wcv .i64 x) 7) 1073741823) else (cond (zgI ⟨b,0,t⟩) (some [aH<|ziQ ⟨b,0,t⟩]) none)) (λ(t:Int)=>cond (zgI ⟨b,0,t⟩) (some [aH<|ziQ ⟨b,0,t⟩]) none) (λi d t rec=>?_) (λt rec=>?_) N (zQ .i64 94701<|ln b)<|e h).mpr ?_;{simp only [zbF d,zbk d,zbt d,zbh d h,cT]};{simp only [zbx,cF]};exact zVw (λi x t j k=>zbI (λ_=>k _) λ_=>c t) c _ _ _
def z3A:zbb:=[(8,zzh)]++zU5
def z3B:zU z3A:=zi zIV zxR
instance:Inhabited Slot:=⟨⟨0,0⟩⟩
instance:Inhabited Entry:=⟨⟨0,0,0,0⟩⟩
instance:Inhabited GExit:=⟨⟨0,0,false,0⟩⟩
instance:Inhabited Guest:=⟨⟨[],0,0,[],[],⟨0,0,false⟩,0,⟨0,0,false,0⟩,false,[]⟩⟩
def zwy {c:Cur}(h:zbj c){n m:Int}(a:0<n)(b:n<=m):inb (zy c n) m=true:=by have:=zhm h a;exact qK (by omega)
def zDc {c:Cur}(h:zbj c){n m:Int}(a:0<n)(b:n<=m+1):inr 0 (zy c n) m=true:=by have:=zhm h a;exact qK (by omega)
def zD2 {a:Type}(l:List a)(n:Int):(tk l n).length<=l.length:=by simp[tk];omega
def zjV {a:Type}(l:List a)(n:Int)(x:a):(up l n x).length=l.length:=by simp[up]
def z7k {a:Type}(l:List a)(n:Int):ln (tk l n)<=ln l:=by have:=zD2 l n;unfold ln;omega
def z7l {a:Type}(l:List a)(n:Int)(x:a):ln (up l n x)=ln l:=by unfold ln;rw[zjV]
def I64 (x:Int):Prop:=-9223372036854775808<=x/\x<=9223372036854775807
def zWL {f:Type}{c:Cur}(h:zbj c){P:f->Prop}{m:Int}(r:0<=m)(I:m<=1000){fc:Cur->Bool}{fs:Cur->Cur}{fv:Cur->f}(z:∀{c:Cur},zbj c->fc c=true)(C:∀c,0<=(fs c).i)(hg:∀{c:Cur},zbj c->P (fv c)){G:Ans->Prop}{R:Cur->List f->Ans}(w:∀s l,s.b=c.b->0<=s.i->ln l=m->(∀x∈l,P x)->G (R s l)){j:Type}(S:Int->Int×Int×List f->j){F:(j->OA)->j->OA}(v:∀rec t i k l,F rec (S t (i,k,l))=bif ilt t m then (cond (fc ⟨c.b,i,k⟩) (cond (few<|ln<|ap l [fv ⟨c.b,i,k⟩]) (rec<|S (zQ .i64 t 1) ((fs ⟨c.b,i,k⟩).i,(fs ⟨c.b,i,k⟩).h,ap l [fv ⟨c.b,i,k⟩])) none) none) else some (R ⟨c.b,i,k⟩ l)):Ends G (iter 1002 F<|S 0 (c.i,c.h,[])):=by refine zor (λn s=>∃t i k l,s=S t (i,k,l)/\t+(n:Int)=1000/\0<=t/\t<=m/\0<=i/\(∀x∈l,P x)/\ln l=t) ?_ 1002 1000 _ ⟨0,c.i,c.h,[],rfl,rfl,kN 0,r,h.1,by simp,rfl⟩ (by omega);rintro n s rec ⟨t,i,k,l,rfl,D,u,E,p,q,H⟩ d;rw[v];have a:zbj ⟨c.b,i,k⟩:=zbV h p;refine zbI (λg=>?_) (λg=>?_);{have B:t<m:=qD g;have J:=zi4 (y:=1) u (by omega) (by omega) (by omega);refine zG (z a) (zG (zmL (by rw[zjw];omega))<|d (n-1) _ (by omega) ⟨_,_,_,_,rfl,by omega,by omega,by omega,C _,?_,by rw[zjw];omega⟩);intro x e;rcases jO.1 e with e|e;{exact q x e};{rw [qF.1 e];exact hg a}};{have A:¬ t<m:=qW g;exact zpY (w _ l rfl p (by omega) q)}
def ztH (N:Nat)(c:Cur)  : OA :=
 let a:=zZ c [3,3,1,2,0,3,1,-1,4,9223372036854775807]; (oN (zby c [3,3,1,2,0,3,1,-1,4,9223372036854775807])<|some [.agg [.s .u8 c.b,.i .i64 a.i,.i .i64 a.h],aI<|zbr c [3,3,1,2,0,3,1,-1,4,9223372036854775807]])
def zn2 (c:Cur)(s:Cur)(a:Int):Prop:=(∃N,ztH N c=some (AV.agg (zcg s)::[aI a]))/\(s.b=c.b/\0<=s.i)/\(True)
def zl7 (c:Cur)  : Bool:=wC (zn2 c)
def zl8 (c:Cur)  : Cur:=wS (zn2 c)
def zsC (c:Cur)  : Int:=wV (zn2 c)
def zTR {c:Cur}(h:zl7 c=true):zn2 c (zl8 c) (zsC c):=wG h
def zTT (c:Cur)  : 0<=(zl8 c).i:=wP λh=>h.2.1.2
def zTS (c:Cur)(h:∃N,Ends (wE (λa=>aI a) c.b λa=>True)<|ztH N c):zl7 c=true:=wI (λ_ _ h=>h) h
def zvQ:zeR:=rP0 λc=>(zl7 c,zl8 c,[aI<|zsC c])
def zFO:zb7 Tryz.prog 372 [false,true,true] zvQ:=hP0 zg4 zbe zvO zo (zq []) (λ_ h=>(zTR h).1)
def z7L {c:Cur}(h:zbj c):zl7 c=true:=by
 refine zTS c ⟨0,?_⟩;unfold ztH oN;conv=>zeta
 exact zG (zfR h (by simp)) (zbN aI (zcb _ _) trivial)
def z96:zdn:=[(372,[false,true,true],zvQ)]++z2j
def zW1:zco z96:=zcZ zvO (by
 intro x a;simp only[qG,qO,or_false]at a;rcases a with rfl
 .exact zFO)
def z8Z:zbb:=[(258,zm2),(236,zjZ),(351,zkT),(353,zl2)]++zUY
def zfo:zU z8Z:=zi zyJ (zi zuf<|zi zvz<|zi zwW zg4)
def zxE (N:Nat)(c:Cur)(d:Int):OA:=
 let e:=({ (zW c 5) with b:=c.b}:Cur);let a:=({ (zf e d) with b:=c.b}:Cur); (oN (zdI c 5)<|cond (zdW c 5) (oN zbW<|some [.agg [.s .u8 c.b,.i .i64 (zW c 5).i,.i .i64 (zW c 5).h],.agg [.i .i64 zbl.Page,.i .i64 zbl.Rights]])<|oN (zD e d)<|oN (zby a [3,3,3,1,2])<|some [.agg [.s .u8 c.b,.i .i64 (zZ a [3,3,3,1,2]).i,.i .i64 (zZ a [3,3,3,1,2]).h],.agg [.i .i64<|zy e d,.i .i64<|zbr a [3,3,3,1,2]]])
def zq1 (c:Cur)(a:Int)(s:Cur)(d:Slot):Prop:=(∃N,zxE N c a=some (AV.agg (zcg s)::[aT .slot d]))/\(s.b=c.b/\0<=s.i)/\(0<a->a<=1000->I64 d.Page)
def zkn (c:Cur)(a:Int):Bool:=wC (zq1 c a)
def zhN (c:Cur)(a:Int):Cur:=wS (zq1 c a)
def zhg (c:Cur)(a:Int):Slot:=wV (zq1 c a)
def zx4 {c:Cur}{a:Int}(h:zkn c a=true):zq1 c a (zhN c a) (zhg c a):=wG h
def zHG (c:Cur)(a:Int):0<=(zhN c a).i:=wP λh=>h.2.1.2
def zZm (c:Cur)(a:Int)(h:∃N,Ends (wE (λd=>aT .slot d) c.b λd=>0<a->a<=1000->I64 d.Page)<|zxE N c a):zkn c a=true:=wI (λ_ _ h=>h) h
def zy4:zeR:=rP1 dI λc b=>(zkn c b,zhN c b,[aT .slot<|zhg c b])
def zMg:zb7 Tryz.prog 371 [false,true,true] zy4:=hP1 zfo zbe zW1 zo (zq []) (λ_ _ h=>(zx4 h).1)
def zNE {c:Cur}(h:zbj c)(a:Int):zkn c a=true:=by
 refine zZm c a ⟨0,?_⟩;unfold zxE oN;conv=>zeta
 have d:zbj {zW c 5 with b:=c.b}:=zbV h (zcS _ _);have g:zbj {zf {zW c 5 with b:=c.b} a with b:=c.b}:=zbV h (zI _ _);refine zG (zkQ h 5) (zbI (λ_=>zG rfl (zbN (aT .slot) (v:=⟨_,_⟩) (zcS _ _) λ_ _=>?_)) λ_=>zG (zbG d a) (zG (zfR g (by simp))<|zbN (aT .slot) (v:=⟨_,_⟩) (zcb _ _) λe f=>?_));{exact⟨by decide,by decide⟩};{have:=zhm d e;exact⟨Int.le_trans (by decide) this.1,Int.le_trans (vQ this.2) (by omega)⟩}
def z97:zdn:=[(371,[false,true,true],zy4)]++z96
def zJM:zco z97:=zcZ zW1 (by
 intro x a;simp only[qG,qO,or_false]at a;rcases a with rfl
 .exact zMg)
def zzB (N:Nat)(c:Cur)(a:Int):OA:=
 let e:=({ (zhN c a) with b:=c.b}:Cur);let d:=({ (zf e 12) with b:=c.b}:Cur);let f:=zZ d [-1,-2,a,9223372036854775807,-9223372036854775808]; (oN (zkn c a)<|oN (zD e 12)<|cond (ieq (zy e 12) 0) (oN (zby d [-1,-2,a,9223372036854775807,-9223372036854775808])<|some [.agg [.s .u8 c.b,.i .i64 f.i,.i .i64 f.h],.agg [.i .i64<|zbr d [-1,-2,a,9223372036854775807,-9223372036854775808],.i .i64 (zhg c a).Rights]])<|cond (ieq (zy e 12) 1) (oN (zl7 d)<|some [.agg [.s .u8 c.b,.i .i64 (zl8 d).i,.i .i64 (zl8 d).h],.agg [.i .i64 (zhg c a).Page,.i .i64<|zsC d]])<|some [.agg [.s .u8 c.b,.i .i64 (zf e 12).i,.i .i64 (zf e 12).h],.agg [.i .i64 (zhg c a).Page,.i .i64 (zhg c a).Rights]])
def zsD (c:Cur)(a:Int)(s:Cur)(d:Slot):Prop:=(∃N,zzB N c a=some (AV.agg (zcg s)::[aT .slot d]))/\(s.b=c.b/\0<=s.i)/\(0<a->a<=1000->I64 d.Page)
def zqZ (c:Cur)(a:Int):Bool:=wC (zsD c a)
def zq0 (c:Cur)(a:Int):Cur:=wS (zsD c a)
def zJW (c:Cur)(a:Int):Slot:=wV (zsD c a)
def zNs {c:Cur}{a:Int}(h:zqZ c a=true):zsD c a (zq0 c a) (zJW c a):=wG h
def z2q (c:Cur)(a:Int):0<=(zq0 c a).i:=wP λh=>h.2.1.2
def z2p (c:Cur)(a:Int)(h:∃N,Ends (wE (λd=>aT .slot d) c.b λd=>0<a->a<=1000->I64 d.Page)<|zzB N c a):zqZ c a=true:=wI (λ_ _ h=>h) h
def zBu:zeR:=rP1 dI λc b=>(zqZ c b,zq0 c b,[aT .slot<|zJW c b])
def zPk:zb7 Tryz.prog 277 [false,true,true] zBu:=hP1 zfo zbe zJM zo (zq []) (λ_ _ h=>(zNs h).1)
def zRy {c:Cur}(h:zbj c)(a:Int):zqZ c a=true:=by
 refine z2p c a ⟨0,?_⟩;unfold zzB oN;conv=>zeta
 have d:zbj {zhN c a with b:=c.b}:=zbV h (zHG _ _);have f:zbj {zf {zhN c a with b:=c.b} 12 with b:=c.b}:=zbV h (zI _ _);have g:=(zx4<|zNE h a).2.2;refine zG (zNE h a) (zG (zbG d 12)<|zbI (λ_=>zG (zfR f (by simp)) (zbN (aT .slot) (v:=⟨zbr _ _,(zhg c a).Rights⟩) (zcb _ _) λe i=>?_)) λ_=>zbI (λ_=>zG (z7L f) (zbN (aT .slot) (v:=⟨(zhg c a).Page,zsC _⟩) (zTT _) λe d=>g e d)) λ_=>zbN (aT .slot) (v:=⟨(zhg c a).Page,(zhg c a).Rights⟩) (zI _ _) λe d=>g e d);have j:=z0t f (l:=[-1,-2,a,9223372036854775807,-9223372036854775808]) (by simp);simp only[qG,qO,or_false]at j;unfold I64;dsimp only;omega
def zvb (N:Nat)(c:Cur)(g j:Int):OA:=
 (iter (σ:=(Int×Int×Int×Int×Int×lS×LI×Unit)) N (λk a=>let e:=a.2.2.2.2.2.2.1;let d:=(⟨e,a.2.2.2.1,a.2.2.2.2.1⟩:Cur);let f:=ap a.2.2.2.2.2.1 [zhg d a.2.1]; (cond (ilt a.2.2.1 a.1) (oN (zkn d a.2.1)<|oN (few<|ln f)<|k (a.1,a.2.1,zQ .i64 a.2.2.1 1,(zhN d a.2.1).i,(zhN d a.2.1).h,f,e,()))<|some [.agg [.s .u8 e,.i .i64 a.2.2.2.1,.i .i64 a.2.2.2.2.1],aS .slot a.2.2.2.2.2.1])) (g,j,0,c.i,c.h,[],c.b,()))
def zQX:=zq [(276,0,{n:=22,tm:=[(0,.lp 0 0),(1,ti),(2,ti),(7,.sl 0 []),(8,ti)],lo:=[(0,[.sl 1 [],ti,ti])],ro:=[(0,.slot,true),(1,.u8,false)]})]
def zo8 (c:Cur)(a:Int)(d:Int)(s:Cur)(e:List Slot):Prop:=(∃N,zvb N c a d=some (AV.agg (zcg s)::[aS .slot e]))/\(s.b=c.b/\0<=s.i)/\(0<=a->a<=1000->ln e=a/\(0<d->d<=1000->∀s∈e,I64 s.Page))
def zjq (c:Cur)(a:Int)(b:Int):Bool:=wC (zo8 c a b)
def zL (c:Cur)(a:Int)(b:Int):Cur:=wS (zo8 c a b)
def zel (c:Cur)(a:Int)(b:Int):List Slot:=wV (zo8 c a b)
def zv6 {c:Cur}{a:Int}{b:Int}(h:zjq c a b=true):zo8 c a b (zL c a b) (zel c a b):=wG h
def zjr (c:Cur)(a:Int)(b:Int):0<=(zL c a b).i:=wP λh=>h.2.1.2
def zXj (c:Cur)(a:Int)(d:Int)(h:∃N,Ends (wE (λe=>aS .slot e) c.b λe=>0<=a->a<=1000->ln e=a/\(0<d->d<=1000->∀s∈e,I64 s.Page))<|zvb N c a d):zjq c a d=true:=wI (λ_ _ h=>h) h
def zw6:zeR:=rP2 dI dI λc b d=>(zjq c b d,zL c b d,[aS .slot<|zel c b d])
def zJc:zb7 Tryz.prog 276 [false,true,true] zw6:=hP2 zfo zbe zJM zo zQX (λ_ _ _ h=>(zv6 h).1)
def zzv {c:Cur}(h:zbj c){d:Int}(g:0<=d)(j:d<=1000)(a:Int):zjq c d a=true:=by
 refine zXj c d a ⟨1002,?_⟩;unfold zvb oN;conv=>zeta
 exact zWL h (P:=λs=>0<a->a<=1000->I64 s.Page) g j (fc:=λc=>zkn c a) (fs:=λc=>zhN c a) (fv:=λc=>zhg c a) (R:=λs l=>AV.agg (zcg s)::[aS .slot l]) (λh=>zNE h a) (λc=>zHG c a) (λh=>(zx4<|zNE h a).2.2) (λs l m n p q=>⟨s,l,rfl,⟨m,n⟩,λ_ _=>⟨p,λe f s r=>q s r e f⟩⟩) ((λi t=>(d,a,(i:Int),t.1,t.2.1,t.2.2,c.b,())):Int->Int×Int×List Slot->_) (λrec t i k l=>rfl)
def zbbM {c:Cur}(h:zbj c){n m:Int}(a:0<=n)(b:n<=1000)(d:0<m)(e:m<=1000):ln (zel c n m)=n/\∀s∈zel c n m,I64 s.Page:=by have g:=(zv6<|zzv h a b m).2.2 a b;exact⟨g.1,g.2 d e⟩
def z98:zdn:=[(277,[false,true,true],zBu),(276,[false,true,true],zw6)]++z97
def zJN:zco z98:=zcZ zJM (by
 intro x a;simp only[qG,qO,or_false]at a;rcases a with rfl|rfl
 .exact zPk
 .exact zJc)
def zpP (N:Nat)(c:Cur)(a d:Int):OA:=
 let g:=zel c a d;let f:=({ (zL c a d) with b:=c.b}:Cur);let e:=({ (zf f 8) with b:=c.b}:Cur);let k:=zy e a;let j:=({ (zf e a) with b:=c.b}:Cur); (oN (zjq c a d)<|oN (zD f 8)<|cond (ieq (zy f 8) 0) (oN (zD e a)<|oN (zqZ j d)<|oN (inb k<|ln g)<|share (up g k<|zJW j d) λl=>some [.agg [.s .u8 c.b,.i .i64 (zq0 j d).i,.i .i64 (zq0 j d).h],aS .slot l])<|cond (ieq (zy f 8) 1) (oN (zD e a)<|oN (inr 0 k<|ln g)<|some [.agg [.s .u8 c.b,.i .i64 (zf e a).i,.i .i64 (zf e a).h],aS .slot<|tk g k])<|some [.agg [.s .u8 c.b,.i .i64 (zf f 8).i,.i .i64 (zf f 8).h],aS .slot g])
def zlO (c:Cur)(a:Int)(d:Int)(s:Cur)(e:List Slot):Prop:=(∃N,zpP N c a d=some (AV.agg (zcg s)::[aS .slot e]))/\(s.b=c.b/\0<=s.i)/\(0<a->a<=1000->ln e<=a/\(0<d->d<=1000->∀s∈e,I64 s.Page))
def zg1 (c:Cur)(a:Int)(b:Int):Bool:=wC (zlO c a b)
def zij (c:Cur)(a:Int)(b:Int):Cur:=wS (zlO c a b)
def zgj (c:Cur)(a:Int)(b:Int):List Slot:=wV (zlO c a b)
def zqX {c:Cur}{a:Int}{b:Int}(h:zg1 c a b=true):zlO c a b (zij c a b) (zgj c a b):=wG h
def zqY (c:Cur)(a:Int)(b:Int):0<=(zij c a b).i:=wP λh=>h.2.1.2
def zNr (c:Cur)(a:Int)(d:Int)(h:∃N,Ends (wE (λe=>aS .slot e) c.b λe=>0<a->a<=1000->ln e<=a/\(0<d->d<=1000->∀s∈e,I64 s.Page))<|zpP N c a d):zg1 c a d=true:=wI (λ_ _ h=>h) h
def ztp:zeR:=rP2 dI dI λc b d=>(zg1 c b d,zij c b d,[aS .slot<|zgj c b d])
def zCi:zb7 Tryz.prog 140 [false,true,true] ztp:=hP2 zfo zbe zJN zo (zq []) (λ_ _ _ h=>(zqX h).1)
def zpT {c:Cur}(h:zbj c){n:Int}(a:0<n)(j:n<=1000)(m:Int):zg1 c n m=true:=by
 refine zNr c n m ⟨0,?_⟩;unfold zpP oN;conv=>zeta
 have l:zbj {zL c n m with b:=c.b}:=zbV h (zjr _ _ _);have i:zbj {zf {zL c n m with b:=c.b} 8 with b:=c.b}:=zbV h (zI _ _);have k:zbj {zf {zf {zL c n m with b:=c.b} 8 with b:=c.b} n with b:=c.b}:=zbV h (zI _ _);have g:=(zv6<|zzv h (vQ a) j m).2.2 (vQ a) j;generalize zel c n m=T at g;refine zG (zzv h (vQ a) j m) (zG (zbG l 8)<|zbI (λ_=>zG (zbG i n) (zG (zRy k m)<|zG (zwy i a (by omega))<|znw<|zbN (aS .slot) (z2q _ _) λ_ _=>⟨by rw[z7l];omega,λe f s d=>?_⟩)) λ_=>zbI (λ_=>zG (zbG i n) (zG (zDc i a (by omega))<|zbN (aS .slot) (zI _ _) λ_ _=>⟨?_,λe f s d=>g.2 e f s (jY d)⟩)) λ_=>zbN (aS .slot) (zI _ _) λ_ _=>⟨by omega,g.2⟩);{rcases qZ d with d|rfl;{exact g.2 e f s d};{exact(zNs<|zRy k m).2.2 e f}};{have:=z7k T;exact Int.le_trans (this _) (by omega)}
def zxF (N:Nat)(c:Cur)  : OA :=
 (iter (σ:=(Int×Int×Int×LI×LI×Unit)) N (λf a=>let d:=(⟨a.2.2.2.2.1,a.2.1,a.2.2.1⟩:Cur);let e:=ap a.2.2.2.1 [zy d 100]; (cond (ilt a.1 4) (oN (zD d 100)<|oN (few<|ln e)<|f (zQ .i64 a.1 1,(zf d 100).i,(zf d 100).h,e,a.2.2.2.2.1,()))<|some [.agg [.s .u8 a.2.2.2.2.1,.i .i64 a.2.1,.i .i64 a.2.2.1],aS .int a.2.2.2.1])) (0,c.i,c.h,[],c.b,()))
def zUa:=zq [(278,0,{n:=16,tm:=[(0,.lp 0 0),(3,.sl 0 []),(4,ti)],lo:=[(0,[.sl 1 [],ti,ti])],ro:=[(0,.int,true),(1,.u8,false)]})]
def zq3 (c:Cur)(s:Cur)(a:LI):Prop:=(∃N,zxF N c=some (AV.agg (zcg s)::[aS .int a]))/\(s.b=c.b/\0<=s.i)/\(a.length=4)
def zko (c:Cur)  : Bool:=wC (zq3 c)
def zgG (c:Cur)  : Cur:=wS (zq3 c)
def zpI (c:Cur)  : LI:=wV (zq3 c)
def zx5 {c:Cur}(h:zko c=true):zq3 c (zgG c) (zpI c):=wG h
def zHH (c:Cur)  : 0<=(zgG c).i:=wP λh=>h.2.1.2
def zZn (c:Cur)(h:∃N,Ends (wE (λa=>aS .int a) c.b λa=>a.length=4)<|zxF N c):zko c=true:=wI (λ_ _ h=>h) h
def zy5:zeR:=rP0 λc=>(zko c,zgG c,[aS .int<|zpI c])
def zMi:zb7 Tryz.prog 278 [false,true,true] zy5:=hP0 zfo zbe zJN zo zUa (λ_ h=>(zx5 h).1)
def zNg {c:Cur}(h:zbj c):zko c=true:=by
 refine zZn c ⟨1002,?_⟩;unfold zxF oN;conv=>zeta
 exact zWL h (P:=λ_=>True) (m:=4) (by omega) (by omega) (fc:=λc=>zD c 100) (fs:=λc=>zf c 100) (fv:=λc=>zy c 100) (R:=λs l=>AV.agg (zcg s)::[aS .int l]) (λh=>zbG h _) (λc=>zI c _) (λ_=>trivial) (λs l a d e f=>⟨s,l,rfl,⟨a,d⟩,by unfold ln at e;omega⟩) ((λi t=>((i:Int),t.1,t.2.1,t.2.2,c.b,())):Int->Int×Int×LI->_) (λrec t i k l=>rfl)
def z99:zdn:=[(140,[false,true,true],ztp),(278,[false,true,true],zy5)]++z98
def zJO:zco z99:=zcZ zJN (by
 intro x a;simp only[qG,qO,or_false]at a;rcases a with rfl|rfl
 .exact zCi
 .exact zMi)
def zzC (N:Nat)(c:Cur)(f:Int):OA:=
 (iter (σ:=(Int×Int×Int×Int×lM×LI×Unit)) N (λg a=>let d:=(⟨a.2.2.2.2.2.1,a.2.2.1,a.2.2.2.1⟩:Cur);let e:=ap a.2.2.2.2.1 [zpI d]; (cond (ilt a.2.1 a.1) (oN (zko d)<|oN (few<|ln e)<|g (a.1,zQ .i64 a.2.1 1,(zgG d).i,(zgG d).h,e,a.2.2.2.2.2.1,()))<|some [.agg [.s .u8 a.2.2.2.2.2.1,.i .i64 a.2.2.1,.i .i64 a.2.2.2.1],aS (.sl .int) a.2.2.2.2.1])) (f,0,c.i,c.h,[],c.b,()))
def zYa:=zq [(224,0,{n:=19,tm:=[(0,.lp 0 0),(1,ti),(5,.sl 0 []),(6,ti)],lo:=[(0,[.sl 1 [],ti,ti])],ro:=[(0,.sl .int,true),(1,.u8,false)]})]
def zsF (c:Cur)(a:Int)(s:Cur)(d:List LI):Prop:=(∃N,zzC N c a=some (AV.agg (zcg s)::[aS (.sl .int) d]))/\(s.b=c.b/\0<=s.i)/\(0<=a->a<=1000->ln d=a/\∀r∈d,r.length=4)
def zj5 (c:Cur)(a:Int):Bool:=wC (zsF c a)
def zn3 (c:Cur)(a:Int):Cur:=wS (zsF c a)
def zv7 (c:Cur)(a:Int):List LI:=wV (zsF c a)
def zAB {c:Cur}{a0:Int}(h:zj5 c a0=true):zsF c a0 (zn3 c a0) (zv7 c a0):=wG h
def z2u (c:Cur)(a0:Int):0<=(zn3 c a0).i:=wP λh=>h.2.1.2
def z2t (c:Cur)(a:Int)(h:∃N,Ends (wE (λd=>aS (.sl .int) d) c.b λd=>(0<=a->a<=1000->ln d=a/\∀r∈d,r.length=4))<|zzC N c a):zj5 c a=true:=wI (λ_ _ h=>h) h
def zBv:zeR:=rP1 dI λc b=>(zj5 c b,zn3 c b,[aS (.sl .int)<|zv7 c b])
def zyL:zb7 Tryz.prog 224 [false,true,true] zBv:=hP1 zfo zbe zJO zo zYa (λ_ _ h=>(zAB h).1)
def zbdr {c:Cur}(h:zbj c){a0:Int}(a:0<=a0)(d:a0<=1000):zj5 c a0=true:=by
 refine z2t c a0 ⟨1002,?_⟩;unfold zzC oN;conv=>zeta
 exact zWL h (P:=λr=>r.length=4) a d (fc:=zko) (fs:=zgG) (fv:=zpI) (R:=λs l=>AV.agg (zcg s)::[aS (.sl .int) l]) zNg zHH (λh=>(zx5<|zNg h).2.2) (λs l e f g j=>⟨s,l,rfl,⟨e,f⟩,λ_ _=>⟨g,j⟩⟩) ((λi t=>(a0,(i:Int),t.1,t.2.1,t.2.2,c.b,())):Int->Int×Int×List LI->_) (λrec t i k l=>rfl)
def zvc (N:Nat)(c:Cur)  : OA :=
 let d:=zpI c;let e:=({ (zgG c) with b:=c.b}:Cur);let f:=zf e 6;let a:=({f with b:=c.b}:Cur);let g:=({ (zf a 4) with b:=c.b}:Cur); (oN (zko c)<|oN (zD e 6)<|cond (ieq (zy e 6) 0) (oN (zD a 4)<|oN (inr 0 (zy a 4)<|ln d)<|some [.agg [.s .u8 c.b,.i .i64 (zf a 4).i,.i .i64 (zf a 4).h],aS .int<|tk d<|zy a 4])<|cond (ieq (zy e 6) 1) (oN (zD a 4)<|oN (zby g [-1,99,100])<|oN (inb (zy a 4)<|ln d)<|share (up d (zy a 4)<|zbr g [-1,99,100]) λj=>some [.agg [.s .u8 c.b,.i .i64 (zZ g [-1,99,100]).i,.i .i64 (zZ g [-1,99,100]).h],aS .int j])<|cond (ieq (zy e 6) 2) (oN (few<|ln<|ap d [1])<|some [.agg [.s .u8 c.b,.i .i64 f.i,.i .i64 f.h],aS .int<|ap d [1]])<|some [.agg [.s .u8 c.b,.i .i64 f.i,.i .i64 f.h],aS .int d])
def zo9 (c:Cur)(s:Cur)(a:LI):Prop:=(∃N,zvc N c=some (AV.agg (zcg s)::[aS .int a]))/\(s.b=c.b/\0<=s.i)/\(a.length<=5)
def zna (c:Cur)  : Bool:=wC (zo9 c)
def znb (c:Cur)  : Cur:=wS (zo9 c)
def zuM (c:Cur)  : LI:=wV (zo9 c)
def zEt {c:Cur}(h:zna c=true):zo9 c (znb c) (zuM c):=wG h
def zXl (c:Cur)  : 0<=(znb c).i:=wP λh=>h.2.1.2
def zXk (c:Cur)(h:∃N,Ends (wE (λa=>aS .int a) c.b λa=>a.length<=5)<|zvc N c):zna c=true:=wI (λ_ _ h=>h) h
def zw7:zeR:=rP0 λc=>(zna c,znb c,[aS .int<|zuM c])
def zJd:zb7 Tryz.prog 141 [false,true,true] zw7:=hP0 zfo zbe zJO zo (zq []) (λ_ h=>(zEt h).1)
def zZ0 {c:Cur}(h:zbj c):zna c=true:=by
 refine zXk c ⟨0,?_⟩;unfold zvc oN;conv=>zeta
 have e:zbj {zgG c with b:=c.b}:=zbV h (zHH _);have a:zbj {zf {zgG c with b:=c.b} 6 with b:=c.b}:=zbV h (zI _ _);have f:zbj {zf {zf {zgG c with b:=c.b} 6 with b:=c.b} 4 with b:=c.b}:=zbV h (zI _ _);have g:=(zx5<|zNg h).2.2;generalize zpI c=T at g;have d:ln T=4:=(by unfold ln;omega);refine zG (zNg h) (zG (zbG e 6)<|zbI (λ_=>zG (zbG a 4) (zG (zDc a (by omega) (by omega))<|zbN (aS .int) (zI _ _)<|qS (zD2 T _) (by omega))) λ_=>zbI (λ_=>zG (zbG a 4) (zG (zfR f (by simp))<|zG (zwy a (by omega) (by omega))<|znw<|zbN (aS .int) (zcb _ _) (by rw[zjV];omega))) λ_=>zbI (λ_=>zG (zmL (by rw[zjw];omega)) (zbN (aS .int) (zI _ _) ?_)) λ_=>zbN (aS .int) (zI _ _) (by omega));simp[ap];omega
def zbaa:zdn:=[(224,[false,true,true],zBv),(141,[false,true,true],zw7)]++z99
def zW2:zco zbaa:=zcZ zJO (by
 intro x a;simp only[qG,qO,or_false]at a;rcases a with rfl|rfl
 .exact zyL
 .exact zJd)
def ztJ (N:Nat)(c:Cur)  : OA :=
 let d:=({ (zhQ c) with b:=c.b}:Cur);let a:=({ (zf d 10) with b:=c.b}:Cur);let e:=zZ a [-1,0,12,15,16,99,100,9223372036854775807]; (oN (zlP c)<|oN (zD d 10)<|cond (ieq (zy d 10) 0) (oN (zD a 11)<|some [.agg [.s .u8 c.b,.i .i64 (zf a 11).i,.i .i64 (zf a 11).h],.agg [.i .i64<|wsub .i64 (zy a 11) 1,.i .i64 (zhz c).X]])<|cond (ieq (zy d 10) 1) (oN (zby a [-1,0,12,15,16,99,100,9223372036854775807])<|some [.agg [.s .u8 c.b,.i .i64 e.i,.i .i64 e.h],.agg [.i .i64 (zhz c).Op,.i .i64<|zbr a [-1,0,12,15,16,99,100,9223372036854775807]]])<|some [.agg [.s .u8 c.b,.i .i64 (zf d 10).i,.i .i64 (zf d 10).h],.agg [.i .i64 (zhz c).Op,.i .i64 (zhz c).X]])
def zn6 (c:Cur)(s:Cur)(a:Ins):Prop:=(∃N,ztJ N c=some (AV.agg (zcg s)::[aT .ins a]))/\(s.b=c.b/\0<=s.i)/\(True)
def zmb (c:Cur)  : Bool:=wC (zn6 c)
def zmc (c:Cur)  : Cur:=wS (zn6 c)
def zx6 (c:Cur)  : Ins:=wV (zn6 c)
def zTW {c:Cur}(h:zmb c=true):zn6 c (zmc c) (zx6 c):=wG h
def zTY (c:Cur)  : 0<=(zmc c).i:=wP λh=>h.2.1.2
def zTX (c:Cur)(h:∃N,Ends (wE (λa=>aT .ins a) c.b λa=>True)<|ztJ N c):zmb c=true:=wI (λ_ _ h=>h) h
def zvS:zeR:=rP0 λc=>(zmb c,zmc c,[aT .ins<|zx6 c])
def zFQ:zb7 Tryz.prog 373 [false,true,true] zvS:=hP0 zfo zbe zW2 zo (zq []) (λ_ h=>(zTW h).1)
def z6b {c:Cur}(h:zbj c):zmb c=true:=by
 refine zTX c ⟨0,?_⟩;unfold ztJ oN;conv=>zeta
 have d:zbj {zhQ c with b:=c.b}:=zbV h (zAC _);have a:zbj {zf {zhQ c with b:=c.b} 10 with b:=c.b}:=zbV h (zI _ _);exact zG (zUm h) (zG (zbG d 10)<|zbI (λ_=>zG (zbG a 11) (zbN (aT .ins) (v:=⟨wsub .i64 _ 1,(zhz c).X⟩) (zI _ _) trivial)) λ_=>zbI (λ_=>zG (zfR a (by simp)) (zbN (aT .ins) (v:=⟨(zhz c).Op,zbr _ _⟩) (zcb _ _) trivial)) λ_=>zbN (aT .ins) (v:=zhz c) (zI _ _) trivial)
def zbab:zdn:=[(373,[false,true,true],zvS)]++zbaa
def zAv:zco zbab:=zcZ zW2 (by
 intro x a;simp only[qG,qO,or_false]at a;rcases a with rfl
 .exact zFQ)
def zrx (N:Nat)(c:Cur)  : OA :=
 let e:=zcu c;let g:=({ (zbd c) with b:=c.b}:Cur);let k:=zf g 8;let d:=({k with b:=c.b}:Cur); (oN (ziP c)<|oN (zD g 8)<|cond (ieq (zy g 8) 0) (oN (zmb d)<|oN (inb 0<|ln e)<|share (up e 0<|zx6 d) λm=>some [.agg [.s .u8 c.b,.i .i64 (zmc d).i,.i .i64 (zmc d).h],aS .ins m])<|cond (ieq (zy g 8) 1) (iter (σ:=(Int×Int×lI×LI×Unit)) N (λl a=>let j:=(⟨a.2.2.2.1,a.1,a.2.1⟩:Cur);let f:=({ (zf j 2) with b:=a.2.2.2.1}:Cur); (oN (zD j 2)<|cond (ilt (ln a.2.2.1)<|zQ .i64 12<|zy j 2) (oN (zlP f)<|oN (few<|ln<|ap a.2.2.1 [zhz f])<|l ((zhQ f).i,(zhQ f).h,ap a.2.2.1 [zhz f],a.2.2.2.1,()))<|some [.agg [.s .u8 a.2.2.2.1,.i .i64 (zf j 2).i,.i .i64 (zf j 2).h],aS .ins a.2.2.1])) (k.i,k.h,e,c.b,()))<|cond (ieq (zy g 8) 2) (oN (zD d 2)<|oN (inr 0 (zy d 2)<|ln e)<|some [.agg [.s .u8 c.b,.i .i64 (zf d 2).i,.i .i64 (zf d 2).h],aS .ins<|tk e<|zy d 2])<|some [.agg [.s .u8 c.b,.i .i64 k.i,.i .i64 k.h],aS .ins e])
def zJ6:=zq [(279,1,{n:=34,tm:=[(0,.lp 0 0),(3,.sl 0 [])],lo:=[(0,[.sl 1 [],ti,ti])],ro:=[(0,.ins,true),(1,.u8,false)]})]
def zmC (c:Cur)(s:Cur)(a:List Ins):Prop:=(∃N,zrx N c=some (AV.agg (zcg s)::[aS .ins a]))/\(s.b=c.b/\0<=s.i)/\(a.length<=13)
def zk4 (c:Cur)  : Bool:=wC (zmC c)
def zk5 (c:Cur)  : Cur:=wS (zmC c)
def zq4 (c:Cur)  : List Ins:=wV (zmC c)
def zzs {c:Cur}(h:zk4 c=true):zmC c (zk5 c) (zq4 c):=wG h
def zQC (c:Cur)  : 0<=(zk5 c).i:=wP λh=>h.2.1.2
def zQB (c:Cur)(h:∃N,Ends (wE (λa=>aS .ins a) c.b λa=>a.length<=13)<|zrx N c):zk4 c=true:=wI (λ_ _ h=>h) h
def zui:zeR:=rP0 λc=>(zk4 c,zk5 c,[aS .ins<|zq4 c])
def zDJ:zb7 Tryz.prog 279 [false,true,true] zui:=hP0 zfo zbe zAv zo zJ6 (λ_ h=>(zzs h).1)
def zRx {c:Cur}(h:zbj c):zk4 c=true:=by
 refine zQB c ⟨1002,?_⟩;unfold zrx oN;conv=>zeta
 have B:zbj {zbd c with b:=c.b}:=zbV h (zkq _);have q:zbj {zf {zbd c with b:=c.b} 8 with b:=c.b}:=zbV h (zI _ _);have g:=(zsI<|zEc h).2.2;have p:=zJR g;have j:1<=(zcu c).length:=(by unfold zd7 at g;cases d:(zcu c).all zfk with|false=>rw[d] at g;cases g|true=>rw[d,cT] at g;have:=(zfX.1 g).1;unfold ln at this;omega);generalize zcu c=T at p j;have y:1<=ln T/\ln T<=12:=(by unfold ln;omega);have e:(2:Int)<=ln T+1:=(by omega);refine zG (zEc h) (zG (zbG B 8)<|zbI (λ_=>zG (z6b q) (zG (qK (by omega))<|znw<|zbN (aS .ins) (zTY _) (by rw[zjV];omega))) λ_=>zbI (λ_=>?_) λ_=>zbI (λ_=>zG (zbG q 2) (zG (zDc q (n:=2) (by omega) e)<|zbN (aS .ins) (zI _ _)<|qS (zD2 T _) (by omega))) λ_=>zbN (aS .ins) (zI _ _) (by omega));{refine zor (λn s=>s.2.2.1.length+n=13/\0<=s.1/\s.2.2.2.1=c.b) ?_ 1002 (13-T.length) _ ⟨by dsimp only;omega,zI _ _,rfl⟩ (by omega);rintro n ⟨i,k,l,b,u⟩ rec ⟨v,r,t⟩ m;dsimp only at v r t ⊢;subst t;have a:zbj ⟨c.b,i,k⟩:=zbV h r;have A:=zhm a (n:=2) (by omega);have z:=zi4 (x:=12) (by omega) (by omega) A.1 (by omega);have w:zbj {zf ⟨c.b,i,k⟩ 2 with b:=c.b}:=zbV h (zI _ _);refine zG (zbG a 2) (zbI (λd=>?_) λd=>?_);{have f:ln l<zQ .i64 12 (zy ⟨c.b,i,k⟩ 2):=qD d;rw[z]at f;unfold ln at f;exact zG (zUm w) (zG (zmL (by rw[zjw];unfold ln;omega))<|m (n-1) _ (by omega) ⟨by simp[ap];omega,zAC _,rfl⟩)};{exact zbN (aS .ins) (zI _ _) (by omega)}}
def zzE (N:Nat)(c:Cur)  : OA :=
 let a:=zc9 c;let e:=({ (zcQ c) with b:=c.b}:Cur);let f:=zf e 8;let d:=({f with b:=c.b}:Cur);let g:=zZ d [-1,255,256,9223372036854775807]; (oN (zlQ c)<|oN (zD e 8)<|cond (ieq (zy e 8) 0) (oN (zby d [-1,2,3,4])<|some [.agg [.s .u8 c.b,.i .i64 (zZ d [-1,2,3,4]).i,.i .i64 (zZ d [-1,2,3,4]).h],.agg [.i .i64<|zbr d [-1,2,3,4],.i .i64 a.Post,.b a.Open]])<|cond (ieq (zy e 8) 1) (oN (zby d [-1,255,256,9223372036854775807])<|some [.agg [.s .u8 c.b,.i .i64 g.i,.i .i64 g.h],.agg [.i .i64 a.Traps,.i .i64<|zbr d [-1,255,256,9223372036854775807],.b a.Open]])<|cond (ieq (zy e 8) 2) (some [.agg [.s .u8 c.b,.i .i64 f.i,.i .i64 f.h],.agg [.i .i64 a.Traps,.i .i64 a.Post,.b<|nB a.Open]])<|some [.agg [.s .u8 c.b,.i .i64 f.i,.i .i64 f.h],.agg [.i .i64 a.Traps,.i .i64 a.Post,.b a.Open]])
def zsJ (c:Cur)(s:Cur)(a:Ctl):Prop:=(∃N,zzE N c=some (AV.agg (zcg s)::[.agg<|zoh a]))/\(s.b=c.b/\0<=s.i)/\(True)
def zq6 (c:Cur)  : Bool:=wC (zsJ c)
def zq7 (c:Cur)  : Cur:=wS (zsJ c)
def zAD (c:Cur)  : Ctl:=wV (zsJ c)
def z2w {c:Cur}(h:zq6 c=true):zsJ c (zq7 c) (zAD c):=wG h
def z2y (c:Cur)  : 0<=(zq7 c).i:=wP λh=>h.2.1.2
def z2x (c:Cur)(h:∃N,Ends (wE (λa=>.agg (zoh a)) c.b λa=>True)<|zzE N c):zq6 c=true:=wI (λ_ _ h=>h) h
def zBx:zeR:=rP0 λc=>(zq6 c,zq7 c,[.agg<|zoh<|zAD c])
def zPp:zb7 Tryz.prog 280 [false,true,true] zBx:=hP0 zfo zbe zAv zo (zq []) (λ_ h=>(z2w h).1)
def z6a {c:Cur}(h:zbj c):zq6 c=true:=by
 refine z2x c ⟨0,?_⟩;unfold zzE oN nB;conv=>zeta
 have d:zbj {zcQ c with b:=c.b}:=zbV h (zAE _);have a:zbj {zf {zcQ c with b:=c.b} 8 with b:=c.b}:=zbV h (zI _ _);exact zG (z08 h) (zG (zbG d 8)<|zbI (λ_=>zG (zfR a (by simp)) (zbN (λx=>AV.agg (zoh x)) (v:=⟨zbr _ _,(zc9 c).Post,(zc9 c).Open⟩) (zcb _ _) trivial)) λ_=>zbI (λ_=>zG (zfR a (by simp)) (zbN (λx=>AV.agg (zoh x)) (v:=⟨(zc9 c).Traps,zbr _ _,(zc9 c).Open⟩) (zcb _ _) trivial)) λ_=>zbI (λ_=>zbN (λx=>AV.agg (zoh x)) (v:=⟨(zc9 c).Traps,(zc9 c).Post,bif (zc9 c).Open then false else true⟩) (zI _ _) trivial) λ_=>zbN (λx=>AV.agg (zoh x)) (v:=(zc9 c)) (zI _ _) trivial)
def zxH (N:Nat)(c:Cur)  : OA :=
 let f:=zf c 5;let d:=({f with b:=c.b}:Cur);let j:=zf d 100;let a:=zy d 100;let e:=({ (zf d 4) with b:=c.b}:Cur);let g:=ze9 (zy d 4)<|zdW e 2; (oN (zD c 5)<|cond (ieq (zy c 5) 0) (oN (zD d 4)<|oN (zdI e 2)<|oN (zhd (zy d 4)<|zdW e 2)<|some [.agg [.s .u8 c.b,.i .i64 (zW e 2).i,.i .i64 (zW e 2).h],.agg [.i .i64 g.Kind,.i .i64 g.Page,.b g.Write,.i .i64 g.N]])<|cond (ieq (zy c 5) 1) (oN (zD d 100)<|oN (zfr a)<|some [.agg [.s .u8 c.b,.i .i64 j.i,.i .i64 j.h],.agg [.i .i64 (zfj a).Kind,.i .i64 (zfj a).Page,.b (zfj a).Write,.i .i64 (zfj a).N]])<|cond (ieq (zy c 5) 2) (oN (zD d 100)<|oN (zfr a)<|some [.agg [.s .u8 c.b,.i .i64 j.i,.i .i64 j.h],.agg [.i .i64 (zgu a).Kind,.i .i64 (zgu a).Page,.b (zgu a).Write,.i .i64 (zgu a).N]])<|cond (ieq (zy c 5) 3) (some [.agg [.s .u8 c.b,.i .i64 f.i,.i .i64 f.h],.agg [.i .i64 4,.i .i64 0,.b false,.i .i64 0]])<|some [.agg [.s .u8 c.b,.i .i64 f.i,.i .i64 f.h],.agg [.i .i64 0,.i .i64 0,.b false,.i .i64 0]])
def zra (c:Cur)(s:Cur)(a:GExit):Prop:=(∃N,zxH N c=some (AV.agg (zcg s)::[.agg<|zgz a]))/\(s.b=c.b/\0<=s.i)/\(True)
def zkr (c:Cur)  : Bool:=wC (zra c)
def zgH (c:Cur)  : Cur:=wS (zra c)
def zcH (c:Cur)  : GExit:=wV (zra c)
def zZp {c:Cur}(h:zkr c=true):zra c (zgH c) (zcH c):=wG h
def zx7 (c:Cur)  : 0<=(zgH c).i:=wP λh=>h.2.1.2
def zZq (c:Cur)(h:∃N,Ends (wE (λa=>.agg (zgz a)) c.b λa=>True)<|zxH N c):zkr c=true:=wI (λ_ _ h=>h) h
def zy7:zeR:=rP0 λc=>(zkr c,zgH c,[.agg<|zgz<|zcH c])
def zMl:zb7 Tryz.prog 349 [false,true,true] zy7:=hP0 zfo zbe zAv zo (zq []) (λ_ h=>(zZp h).1)
def zVo {c:Cur}(h:zbj c):zkr c=true:=by
 refine zZq c ⟨0,?_⟩;unfold zxH oN;conv=>zeta
 have a:zbj {zf c 5 with b:=c.b}:=zbV h (zI _ _);have d:zbj {zf {zf c 5 with b:=c.b} 4 with b:=c.b}:=zbV h (zI _ _);exact zG (zbG h 5) (zbI (λ_=>zG (zbG a 4) (zG (zkQ d 2) (zG rfl (zbN (λx=>AV.agg (zgz x)) (v:=ze9 _ _) (zcS _ _) trivial)))) λ_=>zbI (λ_=>zG (zbG a 100) (zG rfl (zbN (λx=>AV.agg (zgz x)) (v:=zfj _) (zI _ _) trivial))) λ_=>zbI (λ_=>zG (zbG a 100) (zG rfl (zbN (λx=>AV.agg (zgz x)) (v:=zgu _) (zI _ _) trivial))) λ_=>zbI (λ_=>zbN (λx=>AV.agg (zgz x)) (v:=⟨4,0,false,0⟩) (zI _ _) trivial) λ_=>zbN (λx=>AV.agg (zgz x)) (v:=⟨0,0,false,0⟩) (zI _ _) trivial)
def zbac:zdn:=[(279,[false,true,true],zui),(280,[false,true,true],zBx),(349,[false,true,true],zy7)]++zbab
def zrR:zco zbac:=zcZ zAv (by
 intro x a;simp only[qG,qO,or_false]at a;rcases a with rfl|rfl|rfl
 .exact zDJ
 .exact zPp
 .exact zMl)
def zzG (N:Nat)(c:Cur)  : OA :=
 let a:=zcH c;let e:=({ (zgH c) with b:=c.b}:Cur);let d:=({ (zf e 8) with b:=c.b}:Cur); (oN (zkr c)<|oN (zD e 8)<|cond (ieq (zy e 8) 0) (oN (zD d 7)<|some [.agg [.s .u8 c.b,.i .i64 (zf d 7).i,.i .i64 (zf d 7).h],.agg [.i .i64<|wsub .i64 (zy d 7) 1,.i .i64 a.Page,.b a.Write,.i .i64 a.N]])<|cond (ieq (zy e 8) 1) (oN (zby d [-1,3,4])<|some [.agg [.s .u8 c.b,.i .i64 (zZ d [-1,3,4]).i,.i .i64 (zZ d [-1,3,4]).h],.agg [.i .i64 a.Kind,.i .i64<|zbr d [-1,3,4],.b a.Write,.i .i64 a.N]])<|cond (ieq (zy e 8) 2) (oN (zby d [-1,99,100])<|some [.agg [.s .u8 c.b,.i .i64 (zZ d [-1,99,100]).i,.i .i64 (zZ d [-1,99,100]).h],.agg [.i .i64 a.Kind,.i .i64 a.Page,.b a.Write,.i .i64<|zbr d [-1,99,100]]])<|some [.agg [.s .u8 c.b,.i .i64 (zf e 8).i,.i .i64 (zf e 8).h],.agg [.i .i64 a.Kind,.i .i64 a.Page,.b a.Write,.i .i64 a.N]])
def zsL (c:Cur)(s:Cur)(a:GExit):Prop:=(∃N,zzG N c=some (AV.agg (zcg s)::[.agg<|zgz a]))/\(s.b=c.b/\0<=s.i)/\(True)
def zq8 (c:Cur)  : Bool:=wC (zsL c)
def zq9 (c:Cur)  : Cur:=wS (zsL c)
def zAF (c:Cur)  : GExit:=wV (zsL c)
def z2B {c:Cur}(h:zq8 c=true):zsL c (zq9 c) (zAF c):=wG h
def z2D (c:Cur)  : 0<=(zq9 c).i:=wP λh=>h.2.1.2
def z2C (c:Cur)(h:∃N,Ends (wE (λa=>.agg (zgz a)) c.b λa=>True)<|zzG N c):zq8 c=true:=wI (λ_ _ h=>h) h
def zBz:zeR:=rP0 λc=>(zq8 c,zq9 c,[.agg<|zgz<|zAF c])
def zPr:zb7 Tryz.prog 281 [false,true,true] zBz:=hP0 zfo zbe zrR zo (zq []) (λ_ h=>(z2B h).1)
def z3o {c:Cur}(h:zbj c):zq8 c=true:=by
 refine z2C c ⟨0,?_⟩;unfold zzG oN;conv=>zeta
 have d:zbj {zgH c with b:=c.b}:=zbV h (zx7 _);have a:zbj {zf {zgH c with b:=c.b} 8 with b:=c.b}:=zbV h (zI _ _);exact zG (zVo h) (zG (zbG d 8)<|zbI (λ_=>zG (zbG a 7) (zbN (λx=>AV.agg (zgz x)) (v:=⟨wsub .i64 _ 1,(zcH c).Page,(zcH c).Write,(zcH c).N⟩) (zI _ _) trivial)) λ_=>zbI (λ_=>zG (zfR a (by simp)) (zbN (λx=>AV.agg (zgz x)) (v:=⟨(zcH c).Kind,zbr _ _,(zcH c).Write,(zcH c).N⟩) (zcb _ _) trivial)) λ_=>zbI (λ_=>zG (zfR a (by simp)) (zbN (λx=>AV.agg (zgz x)) (v:=⟨(zcH c).Kind,(zcH c).Page,(zcH c).Write,zbr _ _⟩) (zcb _ _) trivial)) λ_=>zbN (λx=>AV.agg (zgz x)) (v:=(zcH c)) (zI _ _) trivial)
def zxI (N:Nat)(c:Cur)  : OA :=
 let a:=({ (zf c 256) with b:=c.b}:Cur);let d:=({ (zf a 256) with b:=c.b}:Cur);let e:=zZ d [0,1,128,255,zy c 256,zy a 256,-1,256,9223372036854775807]; (oN (zD c 256)<|oN (zD a 256)<|oN (zby d [0,1,128,255,zy c 256,zy a 256,-1,256,9223372036854775807])<|some [.agg [.s .u8 c.b,.i .i64 e.i,.i .i64 e.h],aI<|zbr d [0,1,128,255,zy c 256,zy a 256,-1,256,9223372036854775807]])
def zrb (c:Cur)(s:Cur)(a:Int):Prop:=(∃N,zxI N c=some (AV.agg (zcg s)::[aI a]))/\(s.b=c.b/\0<=s.i)/\(True)
def zoI (c:Cur)  : Bool:=wC (zrb c)
def zoJ (c:Cur)  : Cur:=wS (zrb c)
def zxx (c:Cur)  : Int:=wV (zrb c)
def zZr {c:Cur}(h:zoI c=true):zrb c (zoJ c) (zxx c):=wG h
def zZt (c:Cur)  : 0<=(zoJ c).i:=wP λh=>h.2.1.2
def zZs (c:Cur)(h:∃N,Ends (wE (λa=>aI a) c.b λa=>True)<|zxI N c):zoI c=true:=wI (λ_ _ h=>h) h
def zy8:zeR:=rP0 λc=>(zoI c,zoJ c,[aI<|zxx c])
def zMm:zb7 Tryz.prog 223 [false,true,true] zy8:=hP0 zfo zbe zrR zo (zq []) (λ_ h=>(zZr h).1)
def zbcP {c:Cur}(h:zbj c):zoI c=true:=by
 refine zZs c ⟨0,?_⟩;unfold zxI oN;conv=>zeta
 have a:zbj {zf c 256 with b:=c.b}:=zbV h (zI _ _);have d:zbj {zf {zf c 256 with b:=c.b} 256 with b:=c.b}:=zbV h (zI _ _);exact zG (zbG h 256) (zG (zbG a 256)<|zG (zfR d (by simp))<|zbN aI (zcb _ _) trivial)
def zve (N:Nat)(c:Cur)  : OA :=
 let a:=zZ c [0,1,2,3,0,1,-1,4,9223372036854775807]; (oN (zby c [0,1,2,3,0,1,-1,4,9223372036854775807])<|some [.agg [.s .u8 c.b,.i .i64 a.i,.i .i64 a.h],aI<|zbr c [0,1,2,3,0,1,-1,4,9223372036854775807]])
def zpb (c:Cur)(s:Cur)(a:Int):Prop:=(∃N,zve N c=some (AV.agg (zcg s)::[aI a]))/\(s.b=c.b/\0<=s.i)/\(True)
def znc (c:Cur)  : Bool:=wC (zpb c)
def znd (c:Cur)  : Cur:=wS (zpb c)
def zuN (c:Cur)  : Int:=wV (zpb c)
def zXo {c:Cur}(h:znc c=true):zpb c (znd c) (zuN c):=wG h
def zXq (c:Cur)  : 0<=(znd c).i:=wP λh=>h.2.1.2
def zXp (c:Cur)(h:∃N,Ends (wE (λa=>aI a) c.b λa=>True)<|zve N c):znc c=true:=wI (λ_ _ h=>h) h
def zw9:zeR:=rP0 λc=>(znc c,znd c,[aI<|zuN c])
def zJf:zb7 Tryz.prog 143 [false,true,true] zw9:=hP0 zfo zbe zrR zo (zq []) (λ_ h=>(zXo h).1)
def zbbO {c:Cur}(h:zbj c):znc c=true:=by
 refine zXp c ⟨0,?_⟩;unfold zve oN;conv=>zeta
 exact zG (zfR h (by simp)) (zbN aI (zcb _ _) trivial)
def z3l (N:Nat)(c:Cur)  : OA :=
 let a:=zZ c [0,0,1,1,2,-1,9223372036854775807]; (oN (zby c [0,0,1,1,2,-1,9223372036854775807])<|some [.agg [.s .u8 c.b,.i .i64 a.i,.i .i64 a.h],aI<|zbr c [0,0,1,1,2,-1,9223372036854775807]])
def zuO (c:Cur)(s:Cur)(a:Int):Prop:=(∃N,z3l N c=some (AV.agg (zcg s)::[aI a]))/\(s.b=c.b/\0<=s.i)/\(True)
def zSi (c:Cur)  : Bool:=wC (zuO c)
def zSj (c:Cur)  : Cur:=wS (zuO c)
def z0z (c:Cur)  : Int:=wV (zuO c)
def z5r {c:Cur}(h:zSi c=true):zuO c (zSj c) (z0z c):=wG h
def zEd:zeR:=rP0 λc=>(zSi c,zSj c,[aI<|z0z c])
def zSV:zb7 Tryz.prog 114 [false,true,true] zEd:=hP0 zfo zbe zrR zo (zq []) (λ_ h=>(z5r h).1)
def zvd (N:Nat)(c:Cur)  : OA :=
 let e:=({ (zf c 3) with b:=c.b}:Cur);let d:=({ (zf e 4) with b:=c.b}:Cur);let a:=({ (zf d 6) with b:=c.b}:Cur); (oN (zD c 3)<|oN (zD e 4)<|oN (zD d 6)<|oN (zD a 3)<|some [.agg [.s .u8 c.b,.i .i64 (zf a 3).i,.i .i64 (zf a 3).h],.agg [.i .i64<|zQ .i64 1<|zy c 3,.i .i64<|zy e 4,.i .i64<|zy d 6,.i .i64<|zQ .i64 1<|zy a 3]])
def zpa (c:Cur)(s:Cur)(a:Entry):Prop:=(∃N,zvd N c=some (AV.agg (zcg s)::[aT .entry a]))/\(s.b=c.b/\0<=s.i)/\(True)
def zjs (c:Cur)  : Bool:=wC (zpa c)
def zia (c:Cur)  : Cur:=wS (zpa c)
def zn5 (c:Cur)  : Entry:=wV (zpa c)
def zXm {c:Cur}(h:zjs c=true):zpa c (zia c) (zn5 c):=wG h
def zv8 (c:Cur)  : 0<=(zia c).i:=wP λh=>h.2.1.2
def zXn (c:Cur)(h:∃N,Ends (wE (λa=>aT .entry a) c.b λa=>True)<|zvd N c):zjs c=true:=wI (λ_ _ h=>h) h
def zw8:zeR:=rP0 λc=>(zjs c,zia c,[aT .entry<|zn5 c])
def zJe:zb7 Tryz.prog 262 [false,true,true] zw8:=hP0 zfo zbe zrR zo (zq []) (λ_ h=>(zXm h).1)
def zOj {c:Cur}(h:zbj c):zjs c=true:=by
 refine zXn c ⟨0,?_⟩;unfold zvd oN;conv=>zeta
 have a:zbj {zf c 3 with b:=c.b}:=zbV h (zI _ _);have d:zbj {zf {zf c 3 with b:=c.b} 4 with b:=c.b}:=zbV h (zI _ _);have e:zbj {zf {zf {zf c 3 with b:=c.b} 4 with b:=c.b} 6 with b:=c.b}:=zbV h (zI _ _);exact zG (zbG h 3) (zG (zbG a 4)<|zG (zbG d 6)<|zG (zbG e 3)<|zbN (aT .entry) (v:=⟨_,_,_,_⟩) (zI _ _) trivial)
def zbad:zdn:=[(281,[false,true,true],zBz),(223,[false,true,true],zy8),(143,[false,true,true],zw9),(114,[false,true,true],zEd),(262,[false,true,true],zw8)]++zbac
def z7F:zco zbad:=zcZ zrR (by
 intro x a;simp only[qG,qO,or_false]at a;rcases a with rfl|rfl|rfl|rfl|rfl
 .exact zPr
 .exact zMm
 .exact zJf
 .exact zSV
 .exact zJe)
section
open Go Go.RowKit
structure Cw (w0:World) (blk:Nat) (u:Value) (c:Cur) (w:World):Prop where
 os:w.os=w0.os
 tape:w.tape=w0.tape
 output:w.output=w0.output
 size:w0.heap.size<=w.heap.size
 keep:∀b,b<w0.heap.size->b≠blk->w.heap[b]?=w0.heap[b]?
 cur:∃e,w.heap[blk]?=some (.cells #[u,.int .i64 c.i,.int .i64 c.h] e (0,0))
def Cw.trans {g w1 h:World}{blk:Nat}{u:Value}{i d:Cur}(a:Cw g blk u i w1)(c:Cw w1 blk u d h):Cw g blk u d h :=
 ⟨c.os.trans a.os,c.tape.trans a.tape,c.output.trans a.output,qS a.size c.size,λb e f=>(c.keep b (jG e a.size) f).trans (a.keep b e f),c.cur⟩
def Cw.drew {a w:World}{blk:Nat}{u:Value}{c:Cur}(h:Cw a blk u c w):Cw a blk u c w.drew:=⟨h.os,h.tape,h.output,h.size,h.keep,h.cur⟩
def Cw.at (w:World)(blk:Nat)(u:Value)(c:Cur)(h:∃e,w.heap[blk]?=some (.cells #[u,.int .i64 c.i,.int .i64 c.h] e (0,0))):Cw w blk u c w:=⟨rfl,rfl,rfl,qV _,λ_ _ _=>rfl,h⟩
def Cw.alloc {d w:World}{blk:Nat}{u:Value}{c:Cur}(h:Cw d blk u c w)(a:blk<w.heap.size)(o:Obj):Cw d blk u c (w.alloc o):=
 ⟨h.os,h.tape,h.output,qS h.size (by simp),λb a g=>(heap_alloc_old w o<|jG a h.size).trans (h.keep b a g),by obtain⟨e,f⟩:=h.cur;exact⟨e,(heap_alloc_old w o a).trans f⟩⟩
def Cw.lt {b w:World}{blk:Nat}{u:Value}{c:Cur}(h:Cw b blk u c w):blk<w.heap.size:=by obtain⟨e,a⟩:=h.cur;exact(qN.1 a).1
def zIj {P:Program}{f:FuncId}{y:LC->LA->Option (Bool×LC×LA)}(V:zb7 P f [false,true,true] y){w:World}{blk:Nat}{u:Value}{c c2:Cur}{z:zba}(q:∃e,w.heap[blk]?=some (.cells #[u,.int .i64 c.i,.int .i64 c.h] e (0,0)))(hu:Rep false w u (.s .u8 c.b) z)(W:∀x,z x->x<w.heap.size/\x≠blk){avs rs:LA}{xs:List Value}{Ka:zba}(l:zed false w (zF avs) xs λ_=>Ka)(p:∀x,Ka x->x<w.heap.size/\x≠blk)(hr:y (zcg c) avs=some (true,zcg c2,rs)) :
 Calls P f (#[.pointer<|some ⟨blk,0,none⟩]++(zcd avs xs).toArray) w λe B=>∃C A,e = .returned (zlC<|zcd rs C)/\Cw w blk u c2 B/\zuS (zqb f) B (zF rs) C A/\(∀i x,i<(zF rs).length->A i x->w.heap.size<=x/\x<B.heap.size):=by
 obtain⟨e,Y⟩:=q;refine(V.2 w blk _ e (zcg c) (λj x=>j=0/\z x) avs xs Ka (zcg c2) rs Y rfl rfl ?_ ?_ ?_ l ?_ hr).mono ?_
 .intro j cv v m k
  match j,m,k with
  | 0,m,k=>cases m;cases k;exact hu.weak (λx l=>⟨rfl,l⟩)
  | 1,m,k=>cases m;cases k;exact .i _ _ _
  | 2,m,k=>cases m;cases k;exact .i _ _ _
  |j+3,m,k=>simp[zcg]at m
 .intro j x _ l;exact W x l.2
 .intro i j x r t n hne l hx2;have:i=0:=l.1;subst this;simp[zbf]at n
 .intro x l;refine⟨(p x l).1,(p x l).2,λj t n d=>?_⟩;have:j=0:=d.1;subst this;simp[zbf]at n
 .intro E B hp;cases E with
  |panicked _=>exact hp.elim
  |outgrown=>exact hp.elim
  |returned v=>
   obtain⟨Q,R,S,T,U,a,G,K',C,A,I,L,g3,F,M,N,g7,O,g9,J,K⟩:=hp;have g:∀i x,i<(zcg c).length->zbf [false,true,true] i->¬ ((λ(j:Nat) x=>j=0/\z x) i x):=by intro i x r n d;have:i=0:=d.1;subst this;simp[zbf]at n
   have k:a = #[u,.int .i64 c2.i,.int .i64 c2.h]:=by
    have hs:a.size=3:=L;have D:=(F 0 _ (a[0]'(by omega)) rfl (jM _)).2 (by simp[zbf]);have H:=F 1 _ (a[1]'(by omega)) rfl (jM _);have E:=F 2 _ (a[2]'(by omega)) rfl (jM _);have D:u=a[0]'(by omega):=(by simpa using D);apply Array.ext;{exact hs}
    .intro i r hi2
     match i,r with
     | 0,_=>exact D.symm
     | 1,_=>exact H
     | 2,_=>exact E
     |i+3,h=>omega
   subst k;refine⟨C,A,by rw[N],⟨Q,R,S,T,λb X Z=>U b X Z λj t n d=>g j b t n d,G,I⟩,M,λi x r d=>?_⟩;obtain⟨k1,k2,k3⟩:=O i x r d;rcases k3 with⟨j,t,n,d⟩|d;{exact absurd d (g j x t n)};{exact⟨d,k1⟩}
def zfW (c:Cur):List LI:=zv7 c 3
def zAk (c:Cur):Cur:={zn3 c 3 with b:=c.b}
def z1S (c:Cur):Int:=zy (zAk c) 8
def zjv (c:Cur):Cur:={zf (zAk c) 8 with b:=c.b}
def z1R (c:Cur):Int:=zy (zjv c) 3
def zux (c:Cur):Cur:={zf (zjv c) 3 with b:=c.b}
def l04n (c:Cur):Int:=zy (zux c) 4
def z1P (c:Cur):Cur:={zf (zux c) 4 with b:=c.b}
def zvH (c:Cur):Int:=zbr (zjv c) [-1,100]
def z1Q (c:Cur):Cur:={zZ (zjv c) [-1,100] with b:=c.b}
def zpQ (_:Nat)(c:Cur):OA:=
 bif zj5 c 3 then (bif zD (zAk c) 8 then (bif ieq (z1S c) 0 then (cond (zD (zjv c) 3) (cond (zD (zux c) 4) (some (AV.agg (zcg<|z1P c)::[aS (.sl .int)<|up (zfW c) (z1R c)<|tk (ix (zfW c) 0 [])<|l04n c])) none) none)
  else (bif ieq (z1S c) 1 then (cond (zby (zjv c) [-1,100]) (some (AV.agg (zcg<|z1Q c)::[aS (.sl .int)<|up (zfW c) 1<|up (ix (zfW c) 1 []) 2<|zvH c])) none)
  else (cond (ieq (z1S c) 2) (cond (zD (zjv c) 3) (some (AV.agg (zcg<|zux c)::[aS (.sl .int)<|tk (zfW c)<|z1R c])) none)<|some (AV.agg (zcg<|zjv c)::[aS (.sl .int)<|zfW c])))) else none) else none
def zsE (c:Cur)(s:Cur)(a:List LI):Prop:=(∃N,zpQ N c=some (AV.agg (zcg s)::[aS (.sl .int) a]))/\(s.b=c.b/\0<=s.i)/\(a.length<=3/\∀r∈a,r.length<=4)
def zq2 (c:Cur)  : Bool:=wC (zsE c)
def zj3 (c:Cur)  : Cur:=wS (zsE c)
def zrZ (c:Cur)  : List LI:=wV (zsE c)
def zNt {c:Cur}(h:zq2 c=true):zsE c (zj3 c) (zrZ c):=wG h
def z2s (c:Cur)  : 0<=(zj3 c).i:=wP λh=>h.2.1.2
def z2r (c:Cur)(h:∃N,Ends (wE (λa=>aS (.sl .int) a) c.b λa=>a.length<=3/\∀r∈a,r.length<=4)<|zpQ N c):zq2 c=true:=wI (λ_ _ h=>h) h
def ztT:zeR:=rP0 λc=>(zq2 c,zj3 c,[aS (.sl .int)<|zrZ c])
def z7s {w:World}{blk:Nat}{u:Value}{c:Cur}{l:zba}{n:Int}(g:∃e,w.heap[blk]?=some (.cells #[u,.int .i64 c.i,.int .i64 c.h] e (0,0)))(t:Rep false w u (.s .u8 c.b) l)(q:∀x,l x->x<w.heap.size/\x≠blk)(r:zj5 c n=true) :
 Calls Tryz.prog 224 #[.pointer<|some ⟨blk,0,none⟩,.int .i64 n] w λe k=>∃v j,e = .returned v/\Cw w blk u {zn3 c n with b:=c.b} k/\Rep true k v (.s (.sl .int)<|zv7 c n) j/\(∀x,j x->w.heap.size<=x/\x<k.heap.size):=by
 have:=zIj (c:=c) (c2:=zn3 c n) zyL g t q (avs:=[.one<|.i .i64 n]) (rs:=[aS (.sl .int)<|zv7 c n]) (xs:=[.int .i64 n]) (Ka:=λ_=>False) ⟨rfl,λi A x a d=>by
  match i,a,d with
  | 0,a,d=>cases a;cases d;exact .i _ _ _
  |i+1,a,d=>simp at d⟩ (λx d=>d.elim) (by show some (zj5 ⟨c.b,c.i,c.h⟩ n,_,_)=_;rw[show (⟨c.b,c.i,c.h⟩:Cur)=c from rfl,r])
 refine Calls.mono this ?_
 rintro e k ⟨z,j,rfl,f,m,p⟩
 match z,m.1 with
 |[y],_=>exact⟨y,j 0,rfl,⟨f.os,f.tape,f.output,f.size,f.keep,f.cur⟩,m.2 0 _ y rfl rfl,λx d=>p 0 x (by simp[zF,AV.cvs]) d⟩
def zun {w:World}{blk:Nat}{u:Value}{c:Cur}{j:zba}{n:Int}(g:∃e,w.heap[blk]?=some (.cells #[u,.int .i64 c.i,.int .i64 c.h] e (0,0)))(r:Rep false w u (.s .u8 c.b) j)(p:∀x,j x->x<w.heap.size/\x≠blk)(q:zD c n=true) :
 Calls Tryz.prog 106 #[.pointer<|some ⟨blk,0,none⟩,.int .i64 n] w λe l=>e = .returned (.int .i64<|zy c n)/\Cw w blk u {zf c n with b:=c.b} l:=by
 have:=zIj (c:=c) (c2:=zf c n) zvC g r p (avs:=[.one<|.i .i64 n]) (rs:=[aI<|zy c n]) (xs:=[.int .i64 n]) (Ka:=λ_=>False) ⟨rfl,λi z x a d=>by
  match i,a,d with
  | 0,a,d=>cases a;cases d;exact .i _ _ _
  |i+1,a,d=>simp at d⟩ (λx d=>d.elim) (by show some (zD ⟨c.b,c.i,c.h⟩ n,_,_)=_;rw[show (⟨c.b,c.i,c.h⟩:Cur)=c from rfl,q])
 refine Calls.mono this ?_
 rintro e l ⟨t,v,rfl,f,k,A⟩
 match t,k.1,k.2 with
 |[y],_,m=>have:=(m 0 _ y rfl rfl).int_inv;subst this;exact⟨rfl,f.os,f.tape,f.output,f.size,f.keep,f.cur⟩
def z5e {w:World}{blk:Nat}{u:Value}{c:Cur}{k:zba}{l:LI}{v:Value}{Ka:zba}(f:∃e,w.heap[blk]?=some (.cells #[u,.int .i64 c.i,.int .i64 c.h] e (0,0)))(t:Rep false w u (.s .u8 c.b) k)(q:∀x,k x->x<w.heap.size/\x≠blk)(r:zby c l=true)(z:Rep false w v (.s .int l) Ka)(j:∀x,Ka x->x<w.heap.size/\x≠blk) :
 Calls Tryz.prog 144 #[.pointer<|some ⟨blk,0,none⟩,v] w λe n=>e = .returned (.int .i64<|zbr c l)/\Cw w blk u {zZ c l with b:=c.b} n:=by
 have:=zIj (c:=c) (c2:=zZ c l) zti f t q (avs:=[.one<|.s .int l]) (rs:=[aI<|zbr c l]) (xs:=[v]) (Ka:=Ka) ⟨rfl,λi C x a g=>by
  match i,a,g with
  | 0,a,g=>cases a;cases g;exact z
  |i+1,a,g=>simp at g⟩ j (by show some (zby ⟨c.b,c.i,c.h⟩ l,_,_)=_;rw[show (⟨c.b,c.i,c.h⟩:Cur)=c from rfl,r])
 refine Calls.mono this ?_
 rintro e n ⟨A,B,rfl,d,m,D⟩
 match A,m.1,m.2 with
 |[y],_,p=>have:=(p 0 _ y rfl rfl).int_inv;subst this;exact⟨rfl,d.os,d.tape,d.output,d.size,d.keep,d.cur⟩
def z5m {w:World}{v:Value}{l:List LI}{K:zba}(h:Rep true w v (.s (.sl .int) l) K)(n:l.length=3):∃(b off cap:Nat) (arr:LV) (e:TypeId) (V:Nat->Value) (c:Nat->zba),v = .slice (some ⟨b,off,none⟩) 3 cap/\w.heap[b]?=some (.cells arr e (0,0))/\3<=cap/\off+cap<=arr.size/\K b/\
 (∀i x,i<3->c i x->K x/\x≠b)/\(∀i g x,i<3->g<3->c i x->c g x->i=g)/\(∀i,i<3->arr[off+i]?=some (V i))/\∀i x,l[i]?=some x->Rep true w (V i) (.s .int x) (c i):=by
 cases h with
 |nil=>simp at n
 |void _ _ _ B=>cases B
 |sl _ _ b off cap arr e E V c _ y k r p f u a d C z=>have:=k rfl;subst this;have t:Ty.width (.sl .int)=1:=rfl;rw[t,u2]at f;refine⟨b,off,cap,arr,e,λi=>V i 0,λi=>c i 0,by rw[n],y,by omega,f,u,λi x q j=>⟨(a i 0 x (by omega) (by decide) j).1,(a i 0 x (by omega) (by decide) j).2 rfl⟩,λi g x q A j m=>(d rfl i 0 g 0 x (by omega) (by decide) (by omega) (by decide) j m).1,λi q=>?_,λi x D=>z i x D 0 _ rfl⟩;have:=C i 0 (by omega) (by decide);rwa [t,u2,jZ] at this
def zXe {w:World}{v:Value}{l:LI}{K:zba}(h:Rep true w v (.s .int l) K)(d:l.length=4):∃(b off cap:Nat) (arr:LV) (e:TypeId),v = .slice (some ⟨b,off,none⟩) 4 cap/\w.heap[b]?=some (.cells arr e (0,0))/\4<=cap/\off+cap<=arr.size/\K b/\
 ∀i x,l[i]?=some x->arr[off+i]?=some (.int .i64 x):=by
 cases h with
 |nil=>simp at d
 |void _ _ _ u=>cases u
 |sl _ _ b off cap arr e A V z _ q c j f a p k g y r=>have:=c rfl;subst this;have m:Ty.width .int=1:=rfl;rw[m,u2]at a;refine⟨b,off,cap,arr,e,by rw[d],q,by omega,a,p,λi x n=>?_⟩;have t:i<l.length:=(qA.1 n).1;have:=y i 0 t (by decide);rw[m,u2,jZ] at this;rw[this,(r i x n 0 (.i .i64 x) rfl).int_inv]
def zJT {o:Bool}{w:World}{b off cap:Nat}{arr:LV}{e:TypeId}(g:w.heap[b]?=some (.cells arr e (0,0))){l:LI}(r:l.length<=1000)(c:l.length<=cap)(m:off+cap<=arr.size)(n:∀i x,l[i]?=some x->arr[off+i]?=some (.int .i64 x)):Rep o w (.slice (some ⟨b,off,none⟩) l.length cap) (.s .int l) (λx=>x=b):=by
 refine .sl .int l b off cap arr e (0,0) (λi j=>.int .i64 (l.getD i 0)) (λ_ _ _=>False) _ g (λ_=>rfl) (by rw[zpy];omega) c (by show off+cap*1<=arr.size;omega) rfl (λi j x _ _ h=>h.elim) (λ_ i j t u x _ _ _ _ h=>h.elim) (λi j f k=>?_) (λi x p j q a=>?_);{have d:j=0:=(by have:j<1:=k;omega);subst d;have:=n i _ (qB f);show arr[off+i*1+0]?=_;rw[u2,jZ,this];simp[List.getD,qB f]}
 .match j,a with
  | 0,a=>cases a;have:l.getD i 0=x:=(by simp[List.getD,p]);show Rep o w (.int .i64<|l.getD i 0) _ _;rw[this];exact .i _ _ _
  |j+1,a=>simp[Ty.cells]at a
def zJU {w:World}{b off cap:Nat}{arr:LV}{e:TypeId}(n:w.heap[b]?=some (.cells arr e (0,0))){l:List LI}(A:l.length<=1000)(c:l.length<=cap)(t:off+cap<=arr.size)(V:Nat->Value){K:zba}(f:K b)(u:∀i,i<l.length->arr[off+i]?=some (V i))(r:∀i x,l[i]?=some x->∃d,Rep false w (V i) (.s .int x) d/\∀y,d y->K y):Rep false w (.slice (some ⟨b,off,none⟩) l.length cap) (.s (.sl .int) l) K:=by
 refine .sl (.sl .int) l b off cap arr e (0,0) (λi _=>V i) (λ_ _=>K) _ n (λ_=>rfl) (by rw[zpy];omega) c (by show off+cap*1<=arr.size;omega) f (λi j x _ _ h=>⟨h,λh=>by cases h⟩) (λh=>by cases h) (λi j p q=>?_) (λi x v j z a=>?_);{have g:j=0:=(by have:j<1:=q;omega);subst g;show arr[off+i*1+0]?=_;rw[u2,jZ];exact u i p}
 .match j,a with
  | 0,a=>cases a;obtain⟨d,k,m⟩:=r i x v;exact k.weak m
  |j+1,a=>simp[Ty.cells]at a
def zwJ {w:World}{b o:Nat}{arr:LV}{e:TypeId}(a:w.heap[b]?=some (.cells arr e (0,0))):w.frozen? ⟨b,o,none⟩=false:=by simp[World.frozen?,a]
set_option maxHeartbeats 3000000 in
def zYN {w:World}{blk:Nat}{u:Value}{c:Cur}{K0:zba}{r:Ans}(N:Nat)(b5:∃e,w.heap[blk]?=some (.cells #[u,.int .i64 c.i,.int .i64 c.h] e (0,0)))(hu:Rep false w u (.s .u8 c.b) K0)(hK:∀x,K0 x->x<w.heap.size/\x≠blk)(hE:zpQ N c=some r) :
 Calls Tryz.prog 145 #[.pointer<|some ⟨blk,0,none⟩] w λe p=>∃c2 l v Kr,r=AV.agg (zcg c2)::[aS (.sl .int) l]/\e = .returned v/\Cw w blk u c2 p/\Rep false p v (.s (.sl .int) l) Kr/\(∀x,Kr x->w.heap.size<=x/\x<p.heap.size):=by
 unfold zpQ at hE;cases hm:zj5 c 3 with
 |false=>rw[hm]at hE;cases hE
 |true=>
 cases K:zD (zAk c) 8 with
 |false=>rw[hm,K]at hE;cases hE
 |true=>
 rw[hm,K,cT,cT]at hE;have a7:∀{p:World} {O:Cur},Cw w blk u O p->O.b=c.b->Rep false p u (.s .u8 O.b) K0/\∀x,K0 x->x<p.heap.size/\x≠blk:=by intro p O h e;rw[e];exact⟨hu.frame λx d=>h.keep x (hK x d).1 (hK x d).2,λx d=>⟨jG (hK x d).1 h.size,(hK x d).2⟩⟩
 have hM:=(zAB hm).2.2 (by omega) (by omega)
 have a8:(zfW c).length=3:=by have:=hM.1;unfold ln at this;unfold zfW;omega
 have h5:=(zjo K).2.2 (by omega)
 obtain⟨k,hk⟩:∃k,zy (zAk c) 8=k:=⟨_,rfl⟩;have f1:z1S c=k:=hk;rw[f1]at hE
 go_enter Tryz.func145,Tryz.ntmps145
 go_wp2_with fail
 refine(z7s b5 hu hK hm).mono ?_
 rintro e L ⟨v,K1,rfl,F,b3,m⟩
 have b3:Rep true L v (.s (.sl .int)<|zfW c) K1:=b3;have F:Cw w blk u (zAk c) L:=F;obtain⟨E,t,a3,d7,e0,V,Kc,rfl,c3,g9,d1,Z,G,e9,hV,c1⟩:=z5m b3 a8;have h3:blk<w.heap.size:=by obtain⟨e,he⟩:=b5;exact(qN.1 he).1
 have e5:E≠blk:=by have:=(m E Z).1;omega
 have cellAt:∀{p:World} {O:Cur},Cw L blk u O p->p.heap[E]?=some (.cells d7 e0 (0,0)):=λh=>(h.keep E (m E Z).2 e5).trans c3
 go_wp2_with fail
 obtain⟨g1,f2⟩:=a7 F rfl;refine(zun F.cur g1 f2 K).mono ?_;rw[hk]
 rintro e X ⟨rfl,B⟩
 have B:Cw L blk u (zjv c) X:=B;obtain⟨g2,f3⟩:=a7 (F.trans B) rfl;have g0:=B.size;have g8:w.heap.size<=E/\E<L.heap.size:=m E Z
 have b2:∀{p:World} (i:Nat) (x:LI),(∀b,Kc i b->b<L.heap.size->b≠blk->b≠E->p.heap[b]?=L.heap[b]?)->i<3->(zfW c)[i]?=some x->Rep false p (V i) (.s .int x) (Kc i)/\∀y,Kc i y->w.heap.size<=y/\y<L.heap.size:=by intro p i x hf P d;refine⟨((c1 i x d).frame λy S=>?_).ro,λy S=>m y (G i y P S).1⟩;have:=m y (G i y P S).1;exact hf y S this.2 (by omega) (G i y P S).2
 go_wp2_with fail
 .have h0:ieq k 0=true:=by assumption
  rw[h0,cT]at hE;cases J:zD (zjv c) 3 with
  |false=>rw[J]at hE;cases hE
  |true=>
  cases b4:zD (zux c) 4 with
  |false=>rw[J,b4]at hE;cases hE
  |true=>
   rw[J,b4,cT,cT]at hE;have hj:=(zjo J).2.2 (by omega);obtain⟨j,a0⟩:=uY hj.1;have c8:z1R c=(j:Int):=a0;have hn:=(zjo b4).2.2 (by omega);obtain⟨n,c9⟩:=uY hn.1;have f8:l04n c=(n:Int):=c9;rw[c8,f8]at hE;rw[a0]at hj;rw[c9]at hn;have e6:j<3:=(by omega);have h6:n<4:=(by omega);obtain⟨R0,c0⟩:∃R0,(zfW c)[0]?=some R0:=⟨_,qB (by omega)⟩;have e2:R0.length=4:=hM.2 R0 (qJ c0);obtain⟨f,a,g,T,e1,f0,c4,c6,a9,D,W⟩:=zXe (c1 0 R0 c0) e2;have Q:∀{p:World} {O:Cur},Cw L blk u O p->p.cell? ⟨E,t,none⟩=some (.slice (some ⟨f,a,none⟩) 4 g):=λh=>(by have:=hV 0 (by omega);rw[jZ,f0] at this;rw[cell_of_block<|cellAt h];exact this);have b7:∀{p:World} {O:Cur},Cw L blk u O p->p.cell? ⟨E,t+j,none⟩=some (V j)/\p.frozen? ⟨E,t+j,none⟩=false:=λh=>by rw[cell_of_block<|cellAt h];exact⟨hV j e6,zwJ<|cellAt h⟩
   have d8:∀{I:World},Cw L blk u (z1P c) I->∃c2 l v Kr,r=AV.agg (zcg c2)::[aS (.sl .int) l]/\Ending.returned (.slice (some ⟨E,t,none⟩) 3 a3) = .returned v/\Cw w blk u c2 (I.setCell ⟨E,t+j,none⟩<|.slice (some ⟨f,a,none⟩) n g)/\Rep false (I.setCell ⟨E,t+j,none⟩<|.slice (some ⟨f,a,none⟩) n g) v (.s (.sl .int) l) Kr/\
    (∀x,Kr x->w.heap.size<=x/\x<(I.setCell ⟨E,t+j,none⟩<|.slice (some ⟨f,a,none⟩) n g).heap.size):=by
    intro I h4;have hz:=h4.size;have a6:=m f (G 0 f (by omega) D).1
    have U:f≠blk:=by omega
    have a5:f≠E:=(G 0 f (by omega) D).2
    have ho:∀b,b≠E->(I.setCell ⟨E,t+j,none⟩<|.slice (some ⟨f,a,none⟩) n g).heap[b]?=I.heap[b]?:=λb K=>heap_setCell_other I _ b _ K;have d0:=heap_setCell_same I E (t+j) d7 e0 (.slice (some ⟨f,a,none⟩) n g) (cellAt h4);have A:=F.trans h4;refine⟨_,_,_,K1,(Option.some.inj hE).symm,rfl,⟨A.os,A.tape,A.output,by rw[World.size_setCell];exact A.size,λb K hn=>(ho b (by omega)).trans (A.keep b K hn),by obtain⟨e,he⟩:=A.cur;exact⟨e,(ho blk λh=>e5 h.symm).trans he⟩⟩,?_,λx d=>⟨(m x d).1,by rw[World.size_setCell];have:=m x d;omega⟩⟩
    have c7:ix (zfW c) 0 []=R0:=by unfold ix;simp[List.getD,c0]
    have a1:(up (zfW c) (j:Int)<|tk (ix (zfW c) 0 []) (n:Int)).length=3:=by rw[zjV];exact a8
    have:=zJU d0 (l:=up (zfW c) (j:Int) (tk (ix (zfW c) 0 []) (n:Int))) (by omega) (cap:=a3) (off:=t) (by omega) (by simpa using d1) (λi=>if i=j then .slice (some ⟨f,a,none⟩) n g else V i) Z (λi P=>by
     rw[a1]at P;rw[kF]
     by_cases M:i=j
     .subst M;rw[if_pos rfl,if_pos (by omega),if_pos rfl]
     .rw [if_neg (by omega),if_neg M]
      exact hV i P) (λi x d=>by
     have P:i<3:=by rw[<- a1];exact(qA.1 d).1
     unfold up at d;rw[jD]at d
     by_cases M:i=j
     .subst M;rw[kH,if_pos rfl,if_pos (by omega),c7]at d
      cases d;refine⟨λx=>x=f,?_,λy S=>by rw[S];exact(G 0 f (by omega) D).1⟩
      have hl:(tk R0 (n:Int)).length=n:=by simp[tk];omega
      have:=zJT (o:=false) (w:=I.setCell ⟨E,t+i,none⟩ (.slice (some ⟨f,a,none⟩) n g)) (b:=f) (off:=a) (cap:=g) (arr:=T) (e:=e1) ((ho f a5).trans ((h4.keep f a6.2 U).trans c4)) (l:=tk R0 (n:Int)) (by omega) (by omega) a9 (λq z hq=>by
       unfold tk at hq;rw[jN]at hq;split at hq
       .exact W q z hq
       .cases hq)
      rw[hl] at this;rw[if_pos rfl];exact this
     .rw [kH,if_neg (by omega)]at d
      rw[if_neg M];exact⟨Kc i,(b2 i x (λb _ K hn c3=>(ho b c3).trans (h4.keep b K hn)) P d).1,λy S=>(G i y P S).1⟩)
    rw[a1] at this;exact this
   have Y:Cw L blk u (zjv c) X.drew:=B.drew;obtain⟨e8,e7⟩:=a7 (F.trans Y) rfl;have d2:=Q Y
   go_region_with (first
    |(go_at_call_of 106 (Value.int IntKind.i64 3);refine(zun (c:=zjv c) (n:=3) Y.cur e8 e7 J).mono ?_;rw[a0];rintro e w3 ⟨rfl,H⟩;have H:Cw X.drew blk u (zux c) w3:=H;have C:=Y.trans H;have d3:=Q C;obtain⟨g3,f4⟩:=a7 (F.trans C) rfl)
    |(go_at_call_of 106 (Value.int IntKind.i64 4);refine(zun (c:=zux c) (n:=4) C.cur g3 f4 b4).mono ?_;rw[c9];rintro e I ⟨rfl,b8⟩;have b8:Cw w3 blk u (z1P c) I:=b8;have b9:=C.trans b8;have d4:=Q b9;obtain⟨d5,d6⟩:=b7 b9))
   (all_goals go_wp2);(all_goals go_ret);all_goals exact d8 b9
 .have h0:ieq k 0=false:=by assumption
  have h1:ieq k 1=true:=by assumption
  rw[h0,h1,cF,cT]at hE;cases c5:zby (zjv c) [-1,100] with
  |false=>rw[c5]at hE;cases hE
  |true=>
   rw[c5,cT]at hE;obtain⟨R1,a4⟩:∃R1,(zfW c)[1]?=some R1:=⟨_,qB (by omega)⟩;have e3:R1.length=4:=hM.2 R1 (qJ a4);obtain⟨f,a,g,T,e1,e4,c4,c6,a9,D,W⟩:=zXe (c1 1 R1 a4) e3;have a6:=m f (G 1 f (by omega) D).1;have U:f≠blk:=(by omega);have a5:f≠E:=(G 1 f (by omega) D).2;have R:∀{p:World} {O:Cur},Cw L blk u O p->p.cell? ⟨E,t+1,none⟩=some (.slice (some ⟨f,a,none⟩) 4 g):=λh=>(by have:=hV 1 (by omega);rw[e4] at this;rw[cell_of_block<|cellAt h];exact this);have a2:∀{p:World} {O:Cur},Cw L blk u O p->p.heap[f]?=some (.cells T e1 (0,0)):=λh=>(h.keep f a6.2 U).trans c4;have b6:∀{p:World} {O:Cur},Cw L blk u O p->p.cell? ⟨f,a+2,none⟩=some (.int .i64 R1[2])/\p.frozen? ⟨f,a+2,none⟩=false:=λh=>by rw[cell_of_block<|a2 h];exact⟨W 2 _<|qB (by omega),zwJ<|a2 h⟩
   have Y:Cw L blk u (zjv c) X.drew:=B.drew;have d2:=R Y;have d9:∀{I:World},Cw L blk u (z1Q c) I->∃c2 l v Kr,r=AV.agg (zcg c2)::[aS (.sl .int) l]/\Ending.returned (.slice (some ⟨E,t,none⟩) 3 a3) = .returned v/\Cw w blk u c2 (I.setCell ⟨f,a+2,none⟩<|.int .i64<|zvH c)/\Rep false (I.setCell ⟨f,a+2,none⟩<|.int .i64<|zvH c) v (.s (.sl .int) l) Kr/\
    (∀x,Kr x->w.heap.size<=x/\x<(I.setCell ⟨f,a+2,none⟩<|.int .i64<|zvH c).heap.size):=by
    intro I h4;have hz:=h4.size;have ho:∀b,b≠f->(I.setCell ⟨f,a+2,none⟩<|.int .i64<|zvH c).heap[b]?=I.heap[b]?:=λb K=>heap_setCell_other I _ b _ K;have d0:=heap_setCell_same I f (a+2) T e1 (.int .i64<|zvH c) (a2 h4);have A:=F.trans h4;refine⟨_,_,_,K1,(Option.some.inj hE).symm,rfl,⟨A.os,A.tape,A.output,by rw[World.size_setCell];exact A.size,λb K hn=>(ho b (by omega)).trans (A.keep b K hn),by obtain⟨e,he⟩:=A.cur;exact⟨e,(ho blk λh=>U h.symm).trans he⟩⟩,?_,λx d=>⟨(m x d).1,by rw[World.size_setCell];have:=m x d;omega⟩⟩
    have c7:ix (zfW c) 1 []=R1:=by unfold ix;show (zfW c).getD 1 []=R1;simp[List.getD,a4]
    have a1:(up (zfW c) 1<|up (ix (zfW c) 1 []) 2<|zvH c).length=3:=by rw[zjV];exact a8
    have:=zJU ((ho E λh=>a5 h.symm).trans (cellAt h4)) (l:=up (zfW c) 1 (up (ix (zfW c) 1 []) 2<|zvH c)) (by omega) (cap:=a3) (off:=t) (by omega) d1 V Z (λi P=>hV i (by omega)) (λi x d=>by
     have P:i<3:=by rw[<- a1];exact(qA.1 d).1
     unfold up at d;rw[jD]at d
     by_cases M:i=1
     .subst M;rw[show (1:Int).toNat=1 from rfl,if_pos rfl,if_pos (by omega),c7]at d
      cases d;refine⟨λx=>x=f,?_,λy S=>by rw[S];exact(G 1 f (by omega) D).1⟩
      have hl:(List.set R1 (2:Int).toNat<|zvH c).length=4:=by simp;omega
      have:=zJT (o:=false) (w:=I.setCell ⟨f,a+2,none⟩ (.int .i64<|zvH c)) (b:=f) (off:=a) (cap:=g) d0 (l:=List.set R1 (2:Int).toNat (zvH c)) (by omega) (by omega) (by simpa using a9) (λq z hq=>by
       rw[jD]at hq;rw[kF]
       by_cases f9:q=2
       .subst f9;rw[show (2:Int).toNat=2 from rfl,if_pos rfl,if_pos (by omega)]at hq
        cases hq;rw[if_pos rfl,if_pos (by omega)]
       .rw [show (2:Int).toNat=2 from rfl,if_neg (by omega)]at hq
        rw[if_neg (by omega)]
        exact W q z hq)
      rw[hl] at this;rw[e4];exact this
     .rw [show (1:Int).toNat=1 from rfl,if_neg (by omega)]at d
      refine⟨Kc i,(b2 i x (λb f6 K hn g7=>?_) P d).1,λy S=>(G i y P S).1⟩;exact(ho b λe=>M (e9 i 1 b P (by omega) f6 (by rw[e];exact D))).trans (h4.keep b K hn))
    rw[a1] at this;exact this
   have hA:Cw L blk u (zjv c) (X.alloc<|Obj.cells #[Value.int .i64<|-1,Value.int .i64 100] 3).drew:=(B.alloc B.lt _).drew;obtain⟨g4,f5⟩:=a7 (F.trans hA) rfl;have dA:=R hA;have g5:Rep false (X.alloc<|Obj.cells #[Value.int .i64<|-1,Value.int .i64 100] 3).drew (.slice (some ⟨X.heap.size,0,none⟩) 2 2) (.s .int [-1,100]) (λx=>x=X.heap.size):=by
    have hh:(X.alloc<|Obj.cells #[Value.int .i64<|-1,Value.int .i64 100] 3).drew.heap[X.heap.size]?=some (.cells #[Value.int .i64<|-1,Value.int .i64 100] 3 (0,0)):=heap_alloc_new X _;exact zJT (o:=false) hh (l:=[-1,100]) (cap:=2) (off:=0) (by decide) (by decide) (by decide) (λi x d=>by
     match i,d with
     | 0,d=>cases d;rfl
     | 1,d=>cases d;rfl
     |i+2,d=>simp at d)
   go_region_with (first
    |(go_at_call_of 144 (Value.slice (some ⟨X.heap.size,0,none⟩) 2 2);refine(z5e (c:=zjv c) (l:=[-1,100]) hA.cur g4 f5 c5 g5 (λx d=>by rw[d];exact⟨by simp,Nat.ne_of_gt B.lt⟩)).mono ?_;rintro e w3 ⟨rfl,H⟩;have H:Cw (X.alloc<|Obj.cells #[Value.int .i64<|-1,Value.int .i64 100] 3).drew blk u (z1Q c) w3:=H;have C:=hA.trans H;have d3:=R C;obtain⟨d4,d5⟩:=b6 C))
   (all_goals go_wp2);(all_goals go_ret);all_goals exact d9 C
 .have h0:ieq k 0=false:=by assumption
  have h1:ieq k 1=false:=by assumption
  have h2:ieq k 2=true:=by assumption
  rw[h0,h1,h2,cF,cF,cT]at hE;cases J:zD (zjv c) 3 with
  |false=>rw[J]at hE;cases hE
  |true=>
   rw[J,cT]at hE;have hj:=(zjo J).2.2 (by omega);obtain⟨j,a0⟩:=uY hj.1;have c8:z1R c=(j:Int):=a0;rw[c8]at hE;refine(zun B.cur g2 f3 J).mono ?_;rw[a0];rintro e w3 ⟨rfl,H⟩;have H:Cw X blk u (zux c) w3:=H;go_wp2;go_ret;have e6:j<3:=(by omega);have f7:(tk (zfW c) (j:Int)).length=j:=(by simp[tk];omega);have C:=B.trans H;refine⟨_,_,_,K1,(Option.some.inj hE).symm,rfl,F.trans C,?_,λx d=>⟨(m x d).1,by have:=m x d;have:=C.size;omega⟩⟩
   have:=zJU (cellAt C) (l:=tk (zfW c) (j:Int)) (by omega) (cap:=a3) (off:=t) (by omega) d1 V Z (λi P=>hV i (by omega)) (λi x d=>by
    have P:i<(tk (zfW c) (j:Int)).length:=(qA.1 d).1;have g6:(zfW c)[i]?=some x:=by unfold tk at d;rw[jN]at d;split at d;{exact d};{cases d}
    exact⟨Kc i,(b2 i x (λb _ K hn _=>C.keep b K hn) (by omega) g6).1,λy S=>(G i y (by omega) S).1⟩)
   rw[f7] at this;exact this
 .have h0:ieq k 0=false:=by assumption
  have h1:ieq k 1=false:=by assumption
  have h2:ieq k 2=false:=by assumption
  rw[h0,h1,h2,cF,cF,cF]at hE
  go_ret
  exact⟨_,_,_,K1,(Option.some.inj hE).symm,rfl,F.trans B,(b3.frame λx d=>B.keep x (m x d).2 (by have:=m x d;omega)).ro,λx d=>⟨(m x d).1,by have:=m x d;omega⟩⟩
def zVT {c:Cur}(h:zbj c):zq2 c=true:=by
 refine z2r c ⟨0,?_⟩;unfold zpQ;have t:=zbdr h (a0:=3) (by omega) (by omega);have y:zbj (zAk c):=zbV h (z2u _ _);have k:zbj (zjv c):=zbV h (zI _ _);have z:zbj (zux c):=zbV h (zI _ _);have p:=(zAB t).2.2 (by omega) (by omega);have A:(zfW c).length=3:=(by have:=p.1;unfold ln at this;unfold zfW;omega);have f:∀r∈zfW c,r.length<=4:=λr f=>k8 (p.2 r f);have u:∀n,(ix (zfW c) n []).length<=4:=(by intro n;unfold ix List.getD;cases e:(zfW c)[n.toNat]? with|none=>simp|some r=>exact f r (qJ e));have g:∀(n:Int) (r:LI),r.length<=4->∀q∈up (zfW c) n r,q.length<=4:=by intro n r j q e;rcases qZ e with e|rfl;{exact f q e};{exact j}
 have d:∀(s:Cur) (l:List LI),s.b=c.b->0<=s.i->l.length<=3->(∀r∈l,r.length<=4)->Ends (λa=>∃s m,a=(AV.agg (zcg s)::[aS (.sl .int) m])/\(s.b=c.b/\0<=s.i)/\(m.length<=3/\∀r∈m,r.length<=4)) (some (AV.agg (zcg s)::[aS (.sl .int) l])):=
  λs l v w x j=>⟨_,rfl,s,l,rfl,⟨v,w⟩,x,j⟩
 exact zG t (zG (zbG y 8) (zbI (λ_=>zG (zbG k 3) (zG (zbG z 4) (d _ _ rfl (zI _ _) (by rw[zjV];omega) (g _ _<|qS (zD2 _ _)<|u _))))
  (λ_=>zbI (λ_=>zG (zfR k (by simp)) (d _ _ rfl (zcb _ _) (by rw[zjV];omega) (g _ _ (by rw[zjV];exact u _)))) λ_=>zbI (λ_=>zG (zbG k 3) (d _ _ rfl (zI _ _) (qS (zD2 _ _) (by omega)) λr e=>f r (jY e))) λ_=>d _ _ rfl (zI _ _) (by omega) f)))
def zPl:zb7 Tryz.prog 145 [false,true,true] ztT:=by
 refine⟨zkz (by kernel_rfl),?_⟩;intro w blk d e cs K T xs Ka U rs D P a4 k A X n W g;unfold ztT rP0 at g;obtain⟨⟨p,q,r⟩,rfl,g⟩:=z4Z g;obtain⟨rfl,R,rfl,rfl⟩:=zw3 g;dsimp only at R ⊢;have hs:d.size=3:=P;have M:xs=[]:=List.eq_nil_of_length_eq_zero n.1;subst M;obtain⟨N,hE⟩:=(zNt R).1;have v1:=(k 1 _ (d[1]'(by omega)) rfl (jM _)).int_inv;have v2:=(k 2 _ (d[2]'(by omega)) rfl (jM _)).int_inv
 have m:d = #[d[0]'(by omega),.int .i64 q,.int .i64 r]:=by
  apply Array.ext;{exact hs}
  .intro i E hi2
   match i,E with
   | 0,_=>rfl
   | 1,_=>exact v1
   | 2,_=>exact v2
   |i+3,h=>omega
 have hu:=k 0 _ (d[0]'(by omega)) rfl (jM _);have f:Rep false w (d[0]'(by omega)) (.s .u8 p) (K 0):=hu;generalize d[0]'(by omega)=u at m f;subst m;refine(zYN (c:=⟨p,q,r⟩) (u:=u) (K0:=K 0) N ⟨e,D⟩ f (λx n=>A 0 x (show 0<3 by decide) n) hE).mono ?_;rintro e2 w' ⟨z,l,v,S,hr,rfl,y,Y,t⟩;have B:AV.agg (zcg<|zj3 ⟨p,q,r⟩)::[aS (.sl .int)<|zrZ ⟨p,q,r⟩]=AV.agg (zcg z)::[aS (.sl .int) l]:=hr;simp only[List.cons.injEq,AV.agg.injEq,AV.one.injEq,and_true]at B;obtain⟨C,I⟩:=B;have I:zrZ ⟨p,q,r⟩=l:=(by cases I;rfl);subst I;have O:zj3 ⟨p,q,r⟩=z:=(by have C:=C;simp only[zcg,List.cons.injEq,CV.s.injEq,CV.i.injEq,true_and,and_true,heq_eq_eq]at C;obtain⟨F,G,H⟩:=C;generalize zj3 ⟨p,q,r⟩=s at F G H;obtain⟨a1,a2,a3⟩:=s;obtain⟨b1,b2,b3⟩:=z;simp only at F G H;rw[F,G,H]);rw[O];obtain⟨V,J⟩:=y.cur;refine⟨y.os,y.tape,y.output,y.size,λb D hn _=>y.keep b D hn,#[u,.int .i64 z.i,.int .i64 z.h],V,λ_ _=>False,[v],λ_=>S,J,rfl,rfl,?_,⟨rfl,λi Q x a n=>?_⟩,rfl,λj x _ h=>h.elim,λi x E L=>⟨(t x L).2,?_,.inr (t x L).1⟩,λi j x _ _ _ h=>h.elim,?_,λi j x _ _ h=>h.elim⟩
 .intro j Q u' a f
  match j,a,f with
  | 0,a,f=>cases a;exact⟨λh=>by simp[zbf]at h,λ_=>f⟩
  | 1,a,f=>cases a;cases f;rfl
  | 2,a,f=>cases a;cases f;rfl
  |j+3,a,f=>simp[zcg]at a
 .match i,a,n with
  | 0,a,n=>cases a;cases n;exact Y
  |i+1,a,n=>simp at n
 {have:=(qN.1 D).1;have:=(t x L).1;omega};{intro i j Q x E ho Z a0 _;have h1:i<1:=(qA.1 E).1;have h2:j<1:=Z;omega}
def zbae:zdn:=[(145,[false,true,true],ztT)]++zbad
def zW3:zco zbae:=zcZ z7F (by
 intro x a;simp only[qG,qO,or_false]at a;rcases a with rfl
 .exact zPl)
end
end
end Go.Proofs.YtjapbkodhfpbbaaGreat.E
