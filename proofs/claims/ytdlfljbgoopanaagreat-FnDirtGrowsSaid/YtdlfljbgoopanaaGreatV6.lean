/- What is proved here: a part of the proof that the statement of this claim holds (several texts of wip/, laid together). -/
import Derived.Test.YtdlfljbgoopanaaGreatV5
import Derived.WalkKit
import Derived.Tactics2
import Derived.Deep.RegionWith
import Derived.Laws.Rows
namespace Go.Proofs.YtdlfljbgoopanaaGreat.E
open Go
set_option linter.defProp false
set_option linter.constructorNameAsVariable false
set_option linter.unusedVariables false
set_option maxRecDepth 100000
set_option linter.unusedSimpArgs false
set_option linter.unusedSectionVars false
noncomputable section
def z8L:zbf:=[(143,zr0),(324,ztV)]++z0y
def zlA:zU z8L:=zi zvu (zi zwU zrJ)
def zUe {a b:Bool}(h:(a=true)↔(b=true)):a=b:=by cases a<;>cases b<;>simp_all
@[simp] def zbce (x:Int):zl x 0 3=hasB x 4:=zUe (by rw[zfW];unfold hasB;rw[decide_eq_true_iff];omega)
@[simp] def zNI (x:Int):zl x 0 7=hasB x 8:=zUe (by rw[zfW];unfold hasB;rw[decide_eq_true_iff];omega)
def zeV (t:List Slot)(p:Int)(s:Slot):List Slot:=bif hasB p (ln t) then up t p s else t
@[simp] def zbcf (t:List Slot)(p:Int)(s:Slot):(zeV t p s).length=t.length:=by unfold zeV;cases hasB p (ln t)<;>simp
@[simp] abbrev zjx (t:List Slot)(p:Int)(s:Slot):Bool:=pc (t.length<=1048576)
@[simp] abbrev zg3 (t:List Slot)(p:Int)(s:Slot):List Slot:=zeV t p s
def zn9:Run:=rF3 (dS .slot) dI (dT .slot) λb c d=>(zjx b c d,[aS .slot<|zg3 b c d])
def zCQ (N:Nat)(a:lS)(b:Int)(c:Slot):OA:=
 (oN (few<|ln<|ap [] a)<|oN (zN b 0<|wsub .i64 (ln a) 1)<|cond (zl b 0<|wsub .i64 (ln a) 1) (oN (inb b<|ln<|ap [] a)<|share (up (ap [] a) b c) λd=>some [aS .slot d])<|some [aS .slot<|ap [] a])
def zPM (a:List Slot)(b:Int)(c:Slot)(d:zjx a b c=true):∃N,zCQ N a b c=some [aS .slot<|zg3 a b c]:=by have e:=zM.1 d;refine⟨0,?_⟩;unfold zCQ oN;refine mu (must rfl (br (λ_=>mu (shr ?_)) λ_=>?_));all_goals first|rfl|(simp only [*,zg3,zeV,cT,cF]<;>rfl)|simp_all[Ty.cells,zg3,zeV]
def zIR:vO 379 zn9:=kF3 zlA zn zA zq (zo []) zPM
def zCt (N:Nat)(a:lS)(b:Int)(c:Slot):OA:=
 (oN (zhd a)<|oN (zbg b<|ln a)<|cond (zcb b<|ln a) (oN (inb b<|ln<|ze1 a)<|share (up (ze1 a) b c) λd=>some [aS .slot d])<|some [aS .slot<|ze1 a])
def zPs (a:List Slot)(b:Int)(c:Slot)(d:zjx a b c=true):∃N,zCt N a b c=some [aS .slot<|zg3 a b c]:=by have e:=zM.1 d;refine⟨0,?_⟩;unfold zCt oN;refine mu (must rfl (br (λ_=>mu (shr ?_)) λ_=>?_));all_goals first|rfl|(simp only [*,zg3,zeV,cT,cF]<;>rfl)|simp_all[Ty.cells,zg3,zeV]
def zIw:vO 235 zn9:=kF3 zlA zn zA zq (zo []) zPs
def zh8 (p n:Int):Bool:=bif zef p then zl n 0 7 else false
def zqp (p n:Int):Int:=bif zh8 p n then wor .i64 p (zmx .i64 1 n) else p
def cv7 {n:Int}(h:hasB n 8=true):wcv .u64 n=n/\ile 0 n=true:=by have:=qD h;exact⟨zQu (by omega) (by omega),qJ (by omega)⟩
@[simp] abbrev zf7 (p n:Int):Bool:=true
@[simp] abbrev zer (p n:Int):Int:=zqp p n
@[simp] abbrev zhN (p n:Int):Bool:=zh8 p n
def zpd:Run:=rF2 dI dI λb c=>(zf7 b c,[aI<|zer b c,aB<|zhN b c])
def zGG (N:Nat)(a b:Int):OA:=
 (oN (zcn a)<|cond (nB<|zeS a) (some [aI a,aB false])<|oN (zN b 0 7)<|cond (nB<|zl b 0 7) (some [aI a,aB false])<|oN (ile 0<|wcv .u64 b)<|some [aI<|wor .i64 a<|zmx .i64 1<|wcv .u64 b,aB true])
def zS3 (b a:Int)(c:zf7 b a=true):∃N,zGG N b a=some [aI<|zer b a,aB<|zhN b a]:=by have d:=@cv7 a;refine⟨0,?_⟩;unfold zGG oN nB;refine must rfl (brN (λ_=>?_) λ_=>must rfl (brN (λ_=>?_) λ_=>mu ?_));all_goals first|rfl|(simp only [*,zer,zhN,zqp,zh8,cT,cF]<;>rfl)|simp_all[Ty.cells,zer,zhN,zqp,zh8]
def zLR:vO 381 zpd:=kF2 zlA zn zA zq (zo []) zS3
def zGg (N:Nat)(a b:Int):OA:=
 (oN (zcn a)<|cond (nB<|zeS a) (some [aI a,aB false])<|oN (zN b 0 7)<|cond (nB<|zl b 0 7) (some [aI a,aB false])<|oN (ile 0 b)<|some [aI<|wor .i64 a<|zmx .i64 1 b,aB true])
def zSG (b a:Int)(c:zf7 b a=true):∃N,zGg N b a=some [aI<|zer b a,aB<|zhN b a]:=by have d:=@cv7 a;refine⟨0,?_⟩;unfold zGg oN nB;refine must rfl (brN (λ_=>?_) λ_=>must rfl (brN (λ_=>?_) λ_=>mu ?_));all_goals first|rfl|(simp only [*,zer,zhN,zqp,zh8,cT,cF]<;>rfl)|simp_all[Ty.cells,zer,zhN,zqp,zh8]
def zLw:vO 242 zpd:=kF2 zlA zn zA zq (zo []) zSG
def posts (c:Ctl)(n:Int):Bool:=bif znG c then (cond (zl n 0 7) (ieq (wand .i64 (zln .i64 c.Post n) 1) 1) false) else false
@[simp] abbrev ztt (c:Ctl)(n:Int):Bool:=true
@[simp] abbrev zod (c:Ctl)(n:Int):Bool:=posts c n
def zsA:Run:=rF2 dC dI λb c=>(ztt b c,[aB<|zod b c])
def zQN (N:Nat)(b:Ctl)(a:Int):OA:=
 (oN (zfu b)<|cond (zoa b) (oN (zN a 0 7)<|cond (zl a 0 7) (oN (ile 0<|wcv .u64 a)<|some [aB<|ieq (wand .i64 (zln .i64 b.Post<|wcv .u64 a) 1) 1]) oF) oF)
def zYl (b:Ctl)(a:Int)(c:ztt b a=true):∃N,zQN N b a=some [aB<|zod b a]:=by have d:=@cv7 a;refine⟨0,?_⟩;unfold zQN oN;refine must rfl (br (λ_=>must rfl (br (λ_=>mu ?_) λ_=>?_)) λ_=>?_);all_goals first|rfl|(simp only [*,zod,posts,cT,cF]<;>rfl)|simp_all[Ty.cells,zod,posts]
def zSj:vO 395 zsA:=kF2 zlA zn zA zq (zo []) zYl
def zQC (N:Nat)(b:Ctl)(a:Int):OA:=
 (oN (zfu b)<|cond (zoa b) (oN (zN a 0 7)<|cond (zl a 0 7) (oN (ile 0 a)<|some [aB<|ieq (wand .i64 (zln .i64 b.Post a) 1) 1]) oF) oF)
def zYc (b:Ctl)(a:Int)(c:ztt b a=true):∃N,zQC N b a=some [aB<|zod b a]:=by have d:=@cv7 a;refine⟨0,?_⟩;unfold zQC oN;refine must rfl (br (λ_=>must rfl (br (λ_=>mu ?_) λ_=>?_)) λ_=>?_);all_goals first|rfl|(simp only [*,zod,posts,cT,cF]<;>rfl)|simp_all[Ty.cells,zod,posts]
def zR7:vO 308 zsA:=kF2 zlA zn zA zq (zo []) zYc
def zb2 (b:Bare)(g:Int):Bool:=bif zbZ b then hasB g (ln b.Guests) else false
def zeM {b:Bare}{g:Int}:(zb2 b g=true)↔zbZ b=true/\hasB g (ln b.Guests)=true:=by unfold zb2;cases zbZ b<;>simp
@[simp] abbrev zms (b:Bare)(g:Int):Bool:=zb2 b g
def zHn:Run:=rF2 (dT .bare) dI λb c=>(zcF b c,[aB<|zms b c])
def zQQ (N:Nat)(a:Bare)(b:Int):OA:=
 (oN (zdC a)<|cond (zb9 a) (oN (zN b 0<|wsub .i64 (ln a.Guests) 1)<|some [aB<|zl b 0<|wsub .i64 (ln a.Guests) 1]) oF)
def zYn (a:Bare)(b:Int)(c:zcF a b=true):∃N,zQQ N a b=some [aB<|zms a b]:=by have d:=zM.1 c;have e:a.Guests.length<=1048576:=d.2.1.1;refine⟨0,?_⟩;unfold zQQ oN;refine must rfl (br (λ_=>must rfl ?_) λ_=>?_);all_goals first|rfl|(simp only [*,zms,zb2,cT,cF]<;>rfl)|simp_all[Ty.cells,zms,zb2]
def zSm:vO 378 zHn:=kF2 zlA zn zA zq (zo []) zYn
@[simp] abbrev zmX (b:Bare)(g:Int):GExit:=(gAt b g).Exit
def zD1:Run:=rF2 (dT .bare) dI λb c=>(zcF b c,[.agg<|zgB<|zmX b c])
def zJT (N:Nat)(c:Bare)(d:Int):OA:=
 let a:=zek c d; (oN (zem c d)<|some [.agg [.i .i64 a.Exit.Kind,.i .i64 a.Exit.Page,.b a.Exit.Write,.i .i64 a.Exit.N]])
def zVd (a:Bare)(b:Int)(c:zcF a b=true):∃N,zJT N a b=some [.agg<|zgB<|zmX a b]:=by
 have d:=zM.1 c;refine⟨0,?_⟩;unfold zJT oN;conv=>zeta
 refine mu ?_;first|rfl|(simp only [*,zmX,cT,cF]<;>rfl)|simp_all[Ty.cells,zmX]
def zN6:vO 239 zD1:=kF2 zlA zn zA zq (zo []) zVd
def z8M:zbf:=[(379,zn9),(235,zn9),(381,zpd),(242,zpd),(395,zsA),(308,zsA),(378,zHn),(239,zD1)]++z8L
def zfU:zU z8M:=zi zIR (zi zIw<|zi zLR<|zi zLw<|zi zSj<|zi zR7<|zi zSm<|zi zN6 zlA)
def zXy {b:Type}{l:List b}{i:Int}{d:b}(h:hasB i (ln l)=true):up l i (ix l i d)=l:=by obtain⟨k,rfl,a⟩:=zeH (n:=l.length) h;unfold up;rw[zbv a,kG];exact u1 a
def zvq {b:Bare}{g:Int}(h:hasB g (ln b.Guests)=true):gAt b g=ix b.Guests g zx:=by unfold gAt;rw[h];rfl
def z4M {b:Bare}{g:Int}(h:hasB g (ln b.Guests)=true):zeK b g (gAt b g)=b:=by unfold zeK;rw[zvq h,zXy h]
def chg (b:Bare)(g:Int)(c:Bool)(x:Guest):Bare:=bif (cond (zb2 b g) c false) then zeK b g x else b
def zb5 (b:Bare)(g:Int)(c:Bool):Bool:=bif zb2 b g then c else false
def zt3 (p:Int)(s:Slot):Bool:=bif hasB p 4 then zeO s 8 else false
def zv8 (x:Guest)(p:Int)(s:Slot):Guest:={x with Written:=zeV x.Written p s}
def zey (x:Guest)(p:Int):Guest:={x with Live:=zeV x.Live p (zbJ x.Written p)}
def zjl:GExit:=⟨0,0,false,0⟩
def ztK (x:Guest)(v:Int):Bool:=bif zl v 0 99 then (cond (ieq x.Exit.Kind 2) true<|ieq x.Exit.Kind 3) else false
def zve (x:Guest)(v:Int):Guest:=zci (stopped (cond (ieq x.Exit.Kind 2) {x with A:=v} x) zjl)
def zxY (x:Guest):Bool:=bif ieq x.Exit.Kind 1 then true else ieq x.Exit.Kind 4
def zvU (x:Guest):Guest:=bif ieq x.Exit.Kind 1 then stopped x zjl else held (stopped x zjl)
def zm0 (x:Guest)(n:Int):Guest:={x with Pending:=zqp x.Pending n}
def zC4 (x:Guest)(c:Ctl):Guest:={x with Ctl:=c}
def zbax {x:Guest}{n:Int}(h:zh8 x.Pending n=false):zm0 x n=x:=by unfold zm0 zqp;rw[h];rfl
def zWU {x:Guest}(p:Int)(s:Slot)(h:SmG x):SmG (zv8 x p s):=⟨h.1,by simpa [zv8] using h.2.1,h.2.2.1,h.2.2.2⟩
def zuM {x:Guest}(p:Int)(h:SmG x):SmG (zey x p):=⟨h.1,h.2.1,by simpa [zey] using h.2.2.1,h.2.2.2⟩
def z7j {x:Guest}(v:Int)(h:SmG x):SmG (zve x v):=by unfold zve;cases ieq x.Exit.Kind 2<;>exact zlv h
def z7k {x:Guest}(h:SmG x):SmG (zvU x):=by unfold zvU;cases ieq x.Exit.Kind 1;{exact zWS (g:=stopped x zjl) h};{exact h}
def zpX {b:Bare}{g:Int}{c:Bool}{x:Guest}(h:SmB b)(a:SmG x):SmB (chg b g c x):=by unfold chg;cases (cond (zb2 b g) c false);{exact h};{exact zpD h a}
@[simp] abbrev zkp (b:Bare)(g p:Int)(s:Slot):Bool:=pc (SmB b)
@[simp] abbrev zdF (b:Bare)(g p:Int)(s:Slot):Bare:=chg b g (zt3 p s) (zv8 (gAt b g) p s)
@[simp] abbrev zdR (b:Bare)(g p:Int)(s:Slot):Bool:=zb5 b g (zt3 p s)
def zjS:Run:=rF4 (dT .bare) dI dI (dT .slot) λb c d e=>(zkp b c d e,[aT .bare<|zdF b c d e,aB<|zdR b c d e])
def zGr (N:Nat)(f:Bare)(b c:Int)(d:Slot):OA:=
 let a:=zY f;let e:=ix a.Guests b zx; (oN (zbp f)<|oN (zcF a b)<|cond (nB<|zms a b) (some [aT .bare a,aB false])<|oN (zN c 0 3)<|cond (nB<|zl c 0 3) (some [aT .bare a,aB false])<|oN (zlT d 8)<|cond (nB<|zjw d 8) (some [aT .bare a,aB false])<|oN (inb b<|ln a.Guests)<|oN (zjx e.Written c d)<|oN (inb b<|ln a.Guests)<|share (up a.Guests b ({e with Written:=(zg3 e.Written c d)}:Guest)) λg=>some [aT .bare ({a with Guests:=g}:Bare),aB true])
def zSQ (b:Bare)(a c:Int)(d:Slot)(e:zkp b a c d=true):∃N,zGr N b a c d=some [aT .bare<|zdF b a c d,aB<|zdR b a c d]:=by
 have f:=zM.1 e;have g:=zgx a f;have k:zb2 b a=true->hasB a (ln b.Guests)=true:=λh=>(zeM.1 h).2;have i:zb2 b a=true->gAt b a=ix b.Guests a zx:=λh=>zvq (zeM.1 h).2;have j:=g.2.1;refine⟨0,?_⟩;unfold zGr oN nB;conv=>zeta
 refine mu (mu<|brN (λ_=>?_) λ_=>must rfl (brN (λ_=>?_) λ_=>must rfl (brN (λ_=>?_) λ_=>mu (mu<|mu<|shr ?_))));all_goals first|rfl|(simp only [*,zdF,zdR,chg,zb5,zt3,zv8,zeK,cT,cF]<;>rfl)|simp_all[Ty.cells,zdF,zdR,chg,zb5,zt3,zv8,zeK]
def zwT:vO 338 zjS:=kF4 zfU zn zA zq (zo []) zSQ
def zF4 (N:Nat)(a:Bare)(b e:Int)(f:Slot):OA:=
 let d:=zbp a;let g:=({ (zek a b) with Written:=(zg3 (zek a b).Written e f)}:Guest);let c:=aT .bare<|zY a; (oN (zbg e 4)<|cond (zcb e 4) (oN (zlT f 8)<|oN (zem a b)<|oN (zdC a)<|cond (nB<|zb9 a) (oN d<|some [c,aB false])<|cond (nB<|zel a b) (oN d<|some [c,aB false])<|cond (nB<|zjw f 8) (oN d<|some [c,aB false])<|oN (zjx (zek a b).Written e f)<|oN (cond (ieq a.Pending a.Pending) true false)<|oN (ieq b b)<|oN (zbI a b g)<|some [aT .bare<|zcO a b g,aB true])<|oN (zem a b)<|oN (zdC a)<|cond (nB<|zb9 a) (oN d<|some [c,aB false])<|cond (nB<|zel a b) (oN d<|some [c,aB false])<|oN d<|some [c,aB false])
def zSu (b:Bare)(a c:Int)(d:Slot)(f:zkp b a c d=true):∃N,zF4 N b a c d=some [aT .bare<|zdF b a c d,aB<|zdR b a c d]:=by
 have g:=zM.1 f;have e:=zgx a g;have i:_/\_/\_/\_:=e;have h:=λp s=>zWU (x:=gAt b a) p s e;unfold zv8 at h;refine⟨0,?_⟩;unfold zF4 oN nB;conv=>zeta
 refine must rfl (br (λ_=>must rfl (mu (must rfl (brN (λ_=>mu ?_) λ_=>brN (λ_=>mu ?_) λ_=>brN (λ_=>mu ?_) λ_=>mu (mu<|mu<|mu ?_))))) λ_=>mu (must rfl (brN (λ_=>mu ?_) λ_=>brN (λ_=>mu ?_) λ_=>mu ?_)));all_goals first|rfl|(simp only [*,zdF,zdR,chg,zb5,zt3,zv8,zb2,zeP,cT,cF]<;>rfl)|simp_all[Ty.cells,zdF,zdR,chg,zb5,zt3,zv8,zb2,zeP]
def zwO:vO 146 zjS:=kF4 zfU zn zA zq (zo []) zSu
@[simp] abbrev zma (b:Bare)(g p:Int):Bool:=pc (SmB b)
@[simp] abbrev zdi (b:Bare)(g p:Int):Bare:=chg b g (hasB p 4) (zey (gAt b g) p)
@[simp] abbrev zeY (b:Bare)(g p:Int):Bool:=zb5 b g (hasB p 4)
def zio:Run:=rF3 (dT .bare) dI dI λb c d=>(zma b c d,[aT .bare<|zdi b c d,aB<|zeY b c d])
def zA6 (N:Nat)(f:Bare)(d b:Int):OA:=
 let a:=zY f;let e:=inb d<|ln a.Guests;let c:=ix a.Guests d zx; (oN (zbp f)<|oN (zcF a d)<|cond (nB<|zms a d) (some [aT .bare a,aB false])<|oN (zN b 0 3)<|cond (nB<|zl b 0 3) (some [aT .bare a,aB false])<|oN e<|oN e<|oN (zhQ c.Written b)<|oN (zjx c.Live b<|zfn c.Written b)<|oN e<|share (up a.Guests d ({c with Live:=(zg3 c.Live b<|zfn c.Written b)}:Guest)) λg=>some [aT .bare ({a with Guests:=g}:Bare),aB true])
def zMy (b:Bare)(a c:Int)(d:zma b a c=true):∃N,zA6 N b a c=some [aT .bare<|zdi b a c,aB<|zeY b a c]:=by
 have e:=zM.1 d;have f:=zgx a e;have j:zb2 b a=true->hasB a (ln b.Guests)=true:=λh=>(zeM.1 h).2;have g:zb2 b a=true->gAt b a=ix b.Guests a zx:=λh=>zvq (zeM.1 h).2;have i:=f.2.2.1;refine⟨0,?_⟩;unfold zA6 oN nB;conv=>zeta
 refine mu (mu<|brN (λ_=>?_) λ_=>must rfl (brN (λ_=>?_) λ_=>mu (mu (must rfl (mu<|mu<|shr ?_)))));all_goals first|rfl|(simp only [*,zdi,zeY,chg,zb5,zey,zeK,cT,cF]<;>rfl)|simp_all[Ty.cells,zdi,zeY,chg,zb5,zey,zeK]
def zt8:vO 341 zio:=kF3 zfU zn zA zq (zo []) zMy
def zAW (N:Nat)(a:Bare)(b c:Int):OA:=
 let e:=aT .bare<|zY a;let d:=zek a b;let f:=({d with Live:=(zg3 d.Live c<|zfn d.Written c)}:Guest); (oN (zbg c 4)<|oN (zem a b)<|oN (zdC a)<|cond (nB<|zb9 a) (oN (zbp a)<|some [e,aB false])<|cond (nB<|zel a b) (oN (zbp a)<|some [e,aB false])<|cond (nB<|zcb c 4) (oN (zbp a)<|some [e,aB false])<|oN (zhQ d.Written c)<|oN (zjx d.Live c<|zfn d.Written c)<|oN (cond (ieq a.Pending a.Pending) true false)<|oN (ieq b b)<|oN (zbI a b f)<|some [aT .bare<|zcO a b f,aB true])
def zMn (b:Bare)(a c:Int)(e:zma b a c=true):∃N,zAW N b a c=some [aT .bare<|zdi b a c,aB<|zeY b a c]:=by
 have f:=zM.1 e;have d:=zgx a f;have h:_/\_/\_/\_:=d;have g:=λp=>zuM (x:=gAt b a) p d;unfold zey at g;refine⟨0,?_⟩;unfold zAW oN nB;conv=>zeta
 refine must rfl (mu (must rfl (brN (λ_=>mu ?_) λ_=>brN (λ_=>mu ?_) λ_=>brN (λ_=>mu ?_) λ_=>must rfl (mu<|mu<|mu<|mu ?_))));all_goals first|rfl|(simp only [*,zdi,zeY,chg,zb5,zey,zb2,zeP,cT,cF]<;>rfl)|simp_all[Ty.cells,zdi,zeY,chg,zb5,zey,zb2,zeP]
def zt7:vO 148 zio:=kF3 zfU zn zA zq (zo []) zMn
@[simp] abbrev zhz (b:Bare)(g v:Int):Bool:=pc (SmB b)
@[simp] abbrev zcr (b:Bare)(g v:Int):Bare:=chg b g (ztK (gAt b g) v) (zve (gAt b g) v)
@[simp] abbrev zcB (b:Bare)(g v:Int):Bool:=zb5 b g (ztK (gAt b g) v)
def zhw:Run:=rF3 (dT .bare) dI dI λb c d=>(zhz b c d,[aT .bare<|zcr b c d,aB<|zcB b c d])
def zyo (N:Nat)(i:Bare)(b e:Int):OA:=
 let a:=zY i;let h:=inb b<|ln a.Guests;let d:=(⟨0,0,false,0⟩:GExit);let c:=ix a.Guests b zx;let g:=({c with A:=e}:Guest); (oN (zbp i)<|oN (zcF a b)<|cond (nB<|zms a b) (some [aT .bare a,aB false])<|oN (zN e 0 99)<|cond (nB<|zl e 0 99) (some [aT .bare a,aB false])<|oN h<|cond (ieq c.Exit.Kind 2) (oN (zcI g d)<|oN (zO<|zcM g d)<|oN h<|share (up a.Guests b<|zck<|zcM g d) λf=>some [aT .bare ({a with Guests:=f}:Bare),aB true])<|cond (ieq c.Exit.Kind 3) (oN (zcI c d)<|oN (zO<|zcM c d)<|oN h<|share (up a.Guests b<|zck<|zcM c d) λf=>some [aT .bare ({a with Guests:=f}:Bare),aB true])<|some [aT .bare a,aB false])
def zJb (b:Bare)(a c:Int)(d:zhz b a c=true):∃N,zyo N b a c=some [aT .bare<|zcr b a c,aB<|zcB b a c]:=by
 have e:=zM.1 d;have f:=zgx a e;have j:zb2 b a=true->hasB a (ln b.Guests)=true:=λh=>(zeM.1 h).2;have g:zb2 b a=true->gAt b a=ix b.Guests a zx:=λh=>zvq (zeM.1 h).2;have i:_/\_/\_/\_:=f;refine⟨0,?_⟩;unfold zyo oN nB;conv=>zeta
 refine mu (mu<|brN (λ_=>?_) λ_=>must rfl (brN (λ_=>?_) λ_=>mu (br (λ_=>mu (mu<|mu<|shr ?_)) λ_=>br (λ_=>mu (mu<|mu<|shr ?_)) λ_=>?_)));all_goals first|rfl|(simp only [*,zcr,zcB,chg,zb5,ztK,zve,zjl,zeK,SmG,stopped,cT,cF]<;>rfl)|simp_all[Ty.cells,zcr,zcB,chg,zb5,ztK,zve,zjl,zeK,SmG,stopped]
def zth:vO 344 zhw:=kF3 zfU zn zA zq (zo []) zJb
def zyg (N:Nat)(a:Bare)(b g:Int):OA:=
 let c:=zek a b;let l:=ieq (zmX a b).Kind 2;let e:=zbp a;let j:=ieq a.Pending a.Pending;let d:=aT .bare<|zY a;let k:=({c with A:=g}:Guest);let f:=(⟨0,0,false,0⟩:GExit);let i:=zcM k f;let m:=aT .bare<|zcO a b<|zck i;let h:=zcM c f;let n:=aT .bare<|zcO a b<|zck h; (oN (zcF a b)<|cond l (oN (zN g 0 99)<|oN (zem a b)<|oN (zdC a)<|cond (nB<|zb9 a) (oN e<|some [d,aB false])<|cond (nB<|zel a b) (oN e<|some [d,aB false])<|cond (nB<|zl g 0 99) (oN e<|some [d,aB false])<|cond l (oN (zcI k f)<|oN (zO i)<|oN (cond j true false)<|oN (ieq b b)<|oN (zbI a b<|zck i)<|some [m,aB true])<|oN (zcI c f)<|oN (zO h)<|oN (cond j true false)<|oN (ieq b b)<|oN (zbI a b<|zck h)<|some [n,aB true])<|cond (ieq (zmX a b).Kind 3) (oN (zN g 0 99)<|oN (zem a b)<|oN (zdC a)<|cond (nB<|zb9 a) (oN e<|some [d,aB false])<|cond (nB<|zel a b) (oN e<|some [d,aB false])<|cond (nB<|zl g 0 99) (oN e<|some [d,aB false])<|cond l (oN (zcI k f)<|oN (zO i)<|oN (cond j true false)<|oN (ieq b b)<|oN (zbI a b<|zck i)<|some [m,aB true])<|oN (zcI c f)<|oN (zO h)<|oN (cond j true false)<|oN (ieq b b)<|oN (zbI a b<|zck h)<|some [n,aB true])<|oN (zem a b)<|oN (zdC a)<|cond (nB<|zb9 a) (oN e<|some [d,aB false])<|cond (nB<|zel a b) (oN e<|some [d,aB false])<|oN e<|some [d,aB false])
def zI2 (b:Bare)(a c:Int)(f:zhz b a c=true):∃N,zyg N b a c=some [aT .bare<|zcr b a c,aB<|zcB b a c]:=by
 have g:=zM.1 f;have d:=zgx a g;have j:_/\_/\_/\_:=d;have h:SmG ({gAt b a with A:=c}:Guest):=d;have i:∀e,SmG (zci<|stopped (gAt b a) e):=λe=>zlv (zYY e d);refine⟨0,?_⟩;unfold zyg oN nB;conv=>zeta
 refine mu (br (λ_=>must rfl (mu (must rfl (brN (λ_=>mu ?_) λ_=>brN (λ_=>mu ?_) λ_=>brN (λ_=>mu ?_) λ_=>br (λ_=>mu (mu<|mu<|mu<|mu ?_)) λ_=>mu (mu<|mu<|mu<|mu ?_))))) λ_=>br (λ_=>must rfl (mu (must rfl (brN (λ_=>mu ?_) λ_=>brN (λ_=>mu ?_) λ_=>brN (λ_=>mu ?_) λ_=>br (λ_=>mu (mu<|mu<|mu<|mu ?_)) λ_=>mu (mu<|mu<|mu<|mu ?_))))) λ_=>mu (must rfl (brN (λ_=>mu ?_) λ_=>brN (λ_=>mu ?_) λ_=>mu ?_)));all_goals first|rfl|(simp only [*,zcr,zcB,chg,zb5,ztK,zve,zjl,zb2,zeP,cT,cF]<;>rfl)|simp_all[Ty.cells,zcr,zcB,chg,zb5,ztK,zve,zjl,zb2,zeP]
def zte:vO 153 zhw:=kF3 zfU zn zA zq (zo []) zI2
@[simp] abbrev zct (b:Bare)(g:Int):Bare:=chg b g (zxY<|gAt b g) (zvU<|gAt b g)
@[simp] abbrev zcD (b:Bare)(g:Int):Bool:=zb5 b g (zxY<|gAt b g)
def zhy:Run:=rF2 (dT .bare) dI λb c=>(zcF b c,[aT .bare<|zct b c,aB<|zcD b c])
def zyq (N:Nat)(g:Bare)(c:Int):OA:=
 let a:=zY g;let f:=inb c<|ln a.Guests;let d:=(⟨0,0,false,0⟩:GExit);let b:=ix a.Guests c zx; (oN (zbp g)<|oN (zcF a c)<|cond (nB<|zms a c) (some [aT .bare a,aB false])<|oN f<|cond (ieq b.Exit.Kind 1) (oN (zcI b d)<|oN f<|share (up a.Guests c<|zcM b d) λe=>some [aT .bare ({a with Guests:=e}:Bare),aB true])<|cond (ieq b.Exit.Kind 4) (oN (zcI b d)<|oN (zO<|zcM b d)<|oN f<|share (up a.Guests c<|zjq<|zcM b d) λe=>some [aT .bare ({a with Guests:=e}:Bare),aB true])<|some [aT .bare a,aB false])
def zJd (b:Bare)(a:Int)(c:zcF b a=true):∃N,zyq N b a=some [aT .bare<|zct b a,aB<|zcD b a]:=by
 have d:=zM.1 c;have e:=zgx a d;have i:zb2 b a=true->hasB a (ln b.Guests)=true:=λh=>(zeM.1 h).2;have f:zb2 b a=true->gAt b a=ix b.Guests a zx:=λh=>zvq (zeM.1 h).2;have g:_/\_/\_/\_:=e;refine⟨0,?_⟩;unfold zyq oN nB;conv=>zeta
 refine mu (mu<|brN (λ_=>?_) λ_=>mu (br (λ_=>mu (mu<|shr ?_)) λ_=>br (λ_=>mu (mu<|mu<|shr ?_)) λ_=>?_));all_goals first|rfl|(simp only [*,zct,zcD,chg,zb5,zxY,zvU,zjl,zeK,SmG,stopped,cT,cF]<;>rfl)|simp_all[Ty.cells,zct,zcD,chg,zb5,zxY,zvU,zjl,zeK,SmG,stopped]
def ztj:vO 345 zhy:=kF2 zfU zn zA zq (zo []) zJd
def zyi (N:Nat)(a:Bare)(b:Int):OA:=
 let f:=ieq (zmX a b).Kind 4;let e:=ieq a.Pending a.Pending;let d:=aT .bare<|zY a;let c:=({ (zek a b) with Exit:=(⟨0,0,false,0⟩:GExit)}:Guest);let g:=aT .bare<|zcO a b<|zjq c; (oN (zcF a b)<|cond (ieq (zmX a b).Kind 1) (oN (zem a b)<|oN (zdC a)<|cond (nB<|zb9 a) (oN (zbp a)<|some [d,aB false])<|cond (nB<|zel a b) (oN (zbp a)<|some [d,aB false])<|cond f (oN (zO c)<|oN (cond e true false)<|oN (ieq b b)<|oN (zbI a b<|zjq c)<|some [g,aB true])<|oN (cond e true false)<|oN (ieq b b)<|oN (zbI a b c)<|some [aT .bare<|zcO a b c,aB true])<|oN (zem a b)<|oN (zdC a)<|cond (nB<|zb9 a) (oN (zbp a)<|some [d,aB false])<|cond (nB<|zel a b) (oN (zbp a)<|some [d,aB false])<|cond (nB f) (oN (zbp a)<|some [d,aB false])<|cond f (oN (zO c)<|oN (cond e true false)<|oN (ieq b b)<|oN (zbI a b<|zjq c)<|some [g,aB true])<|oN (cond e true false)<|oN (ieq b b)<|oN (zbI a b c)<|some [aT .bare<|zcO a b c,aB true])
def zI4 (b:Bare)(a:Int)(d:zcF b a=true):∃N,zyi N b a=some [aT .bare<|zct b a,aB<|zcD b a]:=by
 have e:=zM.1 d;have f:=zgx a e;have g:_/\_/\_/\_:=f;have c:ieq (gAt b a).Exit.Kind 1=true->ieq (gAt b a).Exit.Kind 4=false:=λh=>zO7 h (by decide);refine⟨0,?_⟩;unfold zyi oN nB;conv=>zeta
 refine mu (br (λ_=>mu (must rfl (brN (λ_=>mu ?_) λ_=>brN (λ_=>mu ?_) λ_=>br (λ_=>mu (mu<|mu<|mu ?_)) λ_=>mu (mu<|mu ?_)))) λ_=>mu (must rfl (brN (λ_=>mu ?_) λ_=>brN (λ_=>mu ?_) λ_=>brN (λ_=>mu ?_) λ_=>br (λ_=>mu (mu<|mu<|mu ?_)) λ_=>mu (mu<|mu ?_))));all_goals first|rfl|(simp only [*,zct,zcD,chg,zb5,zxY,zvU,zjl,zb2,zeP,SmG,stopped,cT,cF]<;>rfl)|simp_all[Ty.cells,zct,zcD,chg,zb5,zxY,zvU,zjl,zb2,zeP,SmG,stopped]
def ztg:vO 155 zhy:=kF2 zfU zn zA zq (zo []) zI4
def zbbn {b:Bare}{g:Int}{c:Bool}{x:Guest}(h:zb2 b g=false):chg b g c x=b:=by unfold chg;rw[h];rfl
def z9P {b:Bare}{g n:Int}(h:zb2 b g=true):chg b g (zh8 (gAt b g).Pending n) (zm0 (gAt b g) n)=zeK b g (zm0 (gAt b g) n):=by unfold chg;rw[h];cases a:zh8 (gAt b g).Pending n;{rw [zbax a,z4M (zeM.1 h).2];rfl};{rfl}
@[simp] abbrev zhA (b:Bare)(g n:Int):Bool:=pc (SmB b)
@[simp] abbrev zcs (b:Bare)(g n:Int):Bare:=chg b g (zh8 (gAt b g).Pending n) (zm0 (gAt b g) n)
@[simp] abbrev zcC (b:Bare)(g n:Int):Bool:=zb5 b g (zh8 (gAt b g).Pending n)
def zhx:Run:=rF3 (dT .bare) dI dI λb c d=>(zhA b c d,[aT .bare<|zcs b c d,aB<|zcC b c d])
def zyp (N:Nat)(e:Bare)(b d:Int):OA:=
 let a:=zY e;let c:=ix a.Guests b zx; (oN (zbp e)<|oN (zcF a b)<|cond (nB<|zms a b) (some [aT .bare a,aB false])<|oN (inb b<|ln a.Guests)<|oN (zf7 c.Pending d)<|oN (inb b<|ln a.Guests)<|share (up a.Guests b ({c with Pending:=(zer c.Pending d)}:Guest)) λf=>some [aT .bare ({a with Guests:=f}:Bare),aB<|zhN c.Pending d])
def zJc (a:Bare)(b c:Int)(d:zhA a b c=true):∃N,zyp N a b c=some [aT .bare<|zcs a b c,aB<|zcC a b c]:=by
 have i:=zM.1 d;have j:zb2 a b=true->hasB b (ln a.Guests)=true:=λh=>(zeM.1 h).2;have f:zb2 a b=true->gAt a b=ix a.Guests b zx:=λh=>zvq (zeM.1 h).2;have g:=@z9P a b c;have e:=@zbbn a b (zh8 (gAt a b).Pending c) (zm0 (gAt a b) c);refine⟨0,?_⟩;unfold zyp oN nB;conv=>zeta
 refine mu (mu<|brN (λ_=>?_) λ_=>mu (must rfl (mu<|shr ?_)));all_goals first|rfl|(simp only [*,zcs,zcC,zb5,zeK,zm0,cT,cF]<;>rfl)|simp_all[Ty.cells,zcs,zcC,zb5,zeK,zm0]
def zti:vO 346 zhx:=kF3 zfU zn zA zq (zo []) zJc
def zyh (N:Nat)(a:Bare)(b c:Int):OA:=
 let e:=(zek a b).Pending;let d:=aT .bare<|zY a;let f:=({ (zek a b) with Pending:=(zer e c)}:Guest); (oN (zem a b)<|oN (zf7 e c)<|oN (zem a b)<|oN (zdC a)<|cond (nB<|zb9 a) (oN (zbp a)<|some [d,aB false])<|cond (nB<|zel a b) (oN (zbp a)<|some [d,aB false])<|cond (nB<|zhN e c) (oN (zbp a)<|some [d,aB false])<|oN (cond (ieq a.Pending a.Pending) true false)<|oN (ieq b b)<|oN (zbI a b f)<|some [aT .bare<|zcO a b f,aB true])
def zI3 (b:Bare)(a c:Int)(d:zhA b a c=true):∃N,zyh N b a c=some [aT .bare<|zcs b a c,aB<|zcC b a c]:=by
 have e:=zM.1 d;have f:=zgx a e;have g:_/\_/\_/\_:=f;refine⟨0,?_⟩;unfold zyh oN nB;conv=>zeta
 refine mu (must rfl (mu (must rfl (brN (λ_=>mu ?_) λ_=>brN (λ_=>mu ?_) λ_=>brN (λ_=>mu ?_) λ_=>mu (mu<|mu ?_)))));all_goals first|rfl|(simp only [*,zcs,zcC,chg,zb5,zm0,zb2,zeP,cT,cF]<;>rfl)|simp_all[Ty.cells,zcs,zcC,chg,zb5,zm0,zb2,zeP]
def ztf:vO 157 zhx:=kF3 zfU zn zA zq (zo []) zI3
@[simp] abbrev zko (b:Bare)(g:Int)(c:Ctl):Bool:=pc (SmB b)
@[simp] abbrev zdd (b:Bare)(g:Int)(c:Ctl):Bare:=chg b g (znG c) (zC4 (gAt b g) c)
@[simp] abbrev zdn (b:Bare)(g:Int)(c:Ctl):Bool:=zb5 b g (znG c)
def zjR:Run:=rF3 (dT .bare) dI dC λb c d=>(zko b c d,[aT .bare<|zdd b c d,aB<|zdn b c d])
def zGq (N:Nat)(d:Bare)(b:Int)(c:Ctl):OA:=
 let a:=zY d; (oN (zbp d)<|oN (zcF a b)<|cond (nB<|zms a b) (some [aT .bare a,aB false])<|oN (zfu c)<|cond (nB<|zoa c) (some [aT .bare a,aB false])<|oN (inb b<|ln a.Guests)<|share (up a.Guests b ({ (ix a.Guests b zx) with Ctl:=c}:Guest)) λe=>some [aT .bare ({a with Guests:=e}:Bare),aB true])
def zSP (a:Bare)(b:Int)(c:Ctl)(d:zko a b c=true):∃N,zGq N a b c=some [aT .bare<|zdd a b c,aB<|zdn a b c]:=by
 have f:=zM.1 d;have g:zb2 a b=true->hasB b (ln a.Guests)=true:=λh=>(zeM.1 h).2;have e:zb2 a b=true->gAt a b=ix a.Guests b zx:=λh=>zvq (zeM.1 h).2;refine⟨0,?_⟩;unfold zGq oN nB;conv=>zeta
 refine mu (mu<|brN (λ_=>?_) λ_=>must rfl (brN (λ_=>?_) λ_=>mu (shr ?_)));all_goals first|rfl|(simp only [*,zdd,zdn,chg,zb5,zC4,zeK,cT,cF]<;>rfl)|simp_all[Ty.cells,zdd,zdn,chg,zb5,zC4,zeK]
def zwS:vO 347 zjR:=kF3 zfU zn zA zq (zo []) zSP
def zF3 (N:Nat)(a:Bare)(b:Int)(c:Ctl):OA:=
 let d:=aT .bare<|zY a;let e:=({ (zek a b) with Ctl:=c}:Guest); (oN (zfu c)<|oN (zem a b)<|oN (zdC a)<|cond (nB<|zb9 a) (oN (zbp a)<|some [d,aB false])<|cond (nB<|zel a b) (oN (zbp a)<|some [d,aB false])<|cond (nB<|zoa c) (oN (zbp a)<|some [d,aB false])<|oN (cond (ieq a.Pending a.Pending) true false)<|oN (ieq b b)<|oN (zbI a b e)<|some [aT .bare<|zcO a b e,aB true])
def zSt (b:Bare)(a:Int)(c:Ctl)(d:zko b a c=true):∃N,zF3 N b a c=some [aT .bare<|zdd b a c,aB<|zdn b a c]:=by
 have e:=zM.1 d;have f:=zgx a e;have g:_/\_/\_/\_:=f;refine⟨0,?_⟩;unfold zF3 oN nB;conv=>zeta
 refine must rfl (mu (must rfl (brN (λ_=>mu ?_) λ_=>brN (λ_=>mu ?_) λ_=>brN (λ_=>mu ?_) λ_=>mu (mu<|mu ?_))));all_goals first|rfl|(simp only [*,zdd,zdn,chg,zb5,zC4,zb2,zeP,cT,cF]<;>rfl)|simp_all[Ty.cells,zdd,zdn,chg,zb5,zC4,zb2,zeP]
def zwN:vO 159 zjR:=kF3 zfU zn zA zq (zo []) zSt
def zMW (p c v:Int):Bool:=bif hasB p 8 then (cond (hasB c 4) (zl v 0 99) false) else false
def zk2 (b:Bare)(p c v:Int):Bool:=bif zbZ b then zMW p c v else false
def zo2 (b:Bare)(p c v:Int):Bare:=bif zk2 b p c v then {b with Memory:=zbT b.Memory p c v} else b
def zlx (b:Bare):Bare:=bif zbZ b then {b with Pending:=zhv b.Pending} else b
def zrF (b:Bare):Int:=bif zbZ b then zm1 b.Pending else -1
def zkH (b:Bare):Bool:=bif zbZ b then !ilt (zeB b.Pending) 0 else false
def zqc (b:Bare)(g a n:Int):Bool:=bif zb2 b g then (cond (zl a 0 15) (zfs (gAt b g).Live (zbj a) n) false) else false
def zEH (b:Bare)(g a n:Int):Int:=zcH (gAt b g).Live (zbj a) n
def zzZ (b:Bare)(g a v:Int):Bool:=bif zqc b g a 2 then zl v 0 99 else false
def z0N (b:Bare)(g a v:Int):Bare:=bif zzZ b g a v then {b with Memory:=zbT b.Memory (zEH b g a 2) (zd7 a) v} else b
def zTS (b:Bare)(g a:Int):Int:=bif zqc b g a 1 then cellAt b.Memory (zEH b g a 1) (zd7 a) else 0
@[simp] abbrev zdm (b:Bare):Bare:=zlx b
@[simp] abbrev zeq (b:Bare):Int:=zrF b
@[simp] abbrev zdE (b:Bare):Bool:=zkH b
def zjQ:Run:=rF1 (dT .bare) λb=>(zbp b,[aT .bare<|zdm b,aI<|zeq b,aB<|zdE b])
def zGp (N:Nat)(b:Bare):OA:=
 let a:=zY b; (oN (zbp b)<|oN (zdC a)<|cond (nB<|zb9 a) (some [aT .bare a,aI<|-1,aB false])<|oN (zcn a.Pending)<|some [aT .bare ({a with Pending:=(zf8 a.Pending)}:Bare),aI<|zf9 a.Pending,aB<|zhR a.Pending])
def zSO (a:Bare)(b:zbp a=true):∃N,zGp N a=some [aT .bare<|zdm a,aI<|zeq a,aB<|zdE a]:=by
 have c:=zM.1 b;refine⟨0,?_⟩;unfold zGp oN nB;conv=>zeta
 refine mu (must rfl (brN (λ_=>?_) λ_=>must rfl ?_));all_goals first|rfl|(simp only [*,zdm,zeq,zdE,zlx,zrF,zkH,zhv,zm1,cT,cF]<;>rfl)|simp_all[Ty.cells,zdm,zeq,zdE,zlx,zrF,zkH,zhv,zm1]
def zwR:vO 352 zjQ:=kF1 zfU zn zA zq (zo []) zSO
@[simp] abbrev zvB (b:Bare)(p c v:Int):Bool:=pc (SmB b)
@[simp] abbrev zh3 (b:Bare)(p c v:Int):Bare:=zo2 b p c v
@[simp] abbrev zkU (b:Bare)(p c v:Int):Bool:=zk2 b p c v
def zrZ:Run:=rF4 (dT .bare) dI dI dI λb c d e=>(zvB b c d e,[aT .bare<|zh3 b c d e,aB<|zkU b c d e])
def zCe (N:Nat)(a:Bare)(b c d:Int):OA:=
 let e:=aT .bare<|zY a; (oN (zbp a)<|oN (zdC a)<|cond (nB<|zb9 a) (some [e,aB false])<|oN (zbg b 8)<|cond (nB<|zcb b 8) (some [e,aB false])<|oN (zbg c 4)<|cond (nB<|zcb c 4) (some [e,aB false])<|oN (zN d 0 99)<|cond (nB<|zl d 0 99) (some [e,aB false])<|oN (zei a.Memory b c d)<|some [aT .bare ({ (zY a) with Memory:=(zeG a.Memory b c d)}:Bare),aB true])
def zPd (a:Bare)(b c d:Int)(e:zvB a b c d=true):∃N,zCe N a b c d=some [aT .bare<|zh3 a b c d,aB<|zkU a b c d]:=by
 have f:=zM.1 e;have g:_/\_/\_:=f;refine⟨0,?_⟩;unfold zCe oN nB;conv=>zeta
 refine mu (must rfl (brN (λ_=>?_) λ_=>must rfl (brN (λ_=>?_) λ_=>must rfl (brN (λ_=>?_) λ_=>must rfl (brN (λ_=>?_) λ_=>mu ?_)))));all_goals first|rfl|(simp only [*,zh3,zkU,zo2,zk2,zMW,cT,cF]<;>rfl)|simp_all[Ty.cells,zh3,zkU,zo2,zk2,zMW]
def zvs:vO 161 zrZ:=kF4 zfU zn zA zq (zo []) zPd
def zF2 (N:Nat)(a:Bare):OA:=
 (oN (zbp a)<|oN (zcn a.Pending)<|oN (zdC a)<|cond (nB<|zb9 a) (some [aT .bare<|zY a,aI<|-1,aB false])<|cond (nB<|zhR a.Pending) (some [aT .bare<|zY a,aI<|-1,aB false])<|some [aT .bare ({ (zY a) with Pending:=(zf8 a.Pending)}:Bare),aI<|zf9 a.Pending,aB true])
def zSs (a:Bare)(b:zbp a=true):∃N,zF2 N a=some [aT .bare<|zdm a,aI<|zeq a,aB<|zdE a]:=by have c:=zM.1 b;refine⟨0,?_⟩;unfold zF2 oN nB;refine mu (must rfl (must rfl (brN (λ_=>?_) λ_=>brN (λ_=>?_) λ_=>?_)));all_goals first|rfl|(simp only [*,zdm,zeq,zdE,zlx,zrF,zkH,zhv,zm1,cT,cF]<;>rfl)|simp_all[Ty.cells,zdm,zeq,zdE,zlx,zrF,zkH,zhv,zm1]
def zwM:vO 166 zjQ:=kF1 zfU zn zA zq (zo []) zSs
def z8N:zbf:=z8M
def zH1:zU z8N:=zfU
def zfa (l:List Guest)(n:Int):LI:=idxs (λ(x:Guest)=>posts x.Ctl n) l 0
def zU4 {d:Type}(p:d->Bool):∀(l:List d) (i:Nat),∀k∈idxs p l i,(i:Int)<=k/\k<(i:Int)+l.length
 |[],_,k,a=>by cases a
 |x::l,i,k,a=>by have c:=zU4 p l (i+1);simp only[jB];unfold idxs at a;cases b:p x;{rw [b]at a;have:=c k a;omega};{rw [b]at a;rcases qG.1 a with rfl|a;{omega};{have:=c k a;omega}}
@[simp] abbrev zfK (b:Bare)(n:Int):LI:=zfa b.Guests n
def zn3:Run:=rF2 (dT .bare) dI λb c=>(zeE b c,[aS .int<|zfK b c])
def zCK (N:Nat)(c:Bare)(f:Int):OA:=
 (iter (σ:=(Int×Int×Int×LI×lM×lG×LI×Unit)) N (λd a=>let b:=a.2.2.2.2.2.1;let e:=(ix b a.2.1 zx).Ctl; (cond (ilt a.2.1<|ln b) (oN (inb a.2.1<|ln b)<|oN (ztt e a.1)<|cond (zod e a.1) (oN (few<|ln<|ap a.2.2.2.1 [a.2.1])<|d (a.1,zQ .i64 a.2.1 1,a.2.2.1,ap a.2.2.2.1 [a.2.1],a.2.2.2.2.1,b,a.2.2.2.2.2.2.1,()))<|d (a.1,zQ .i64 a.2.1 1,a.2.2.1,a.2.2.2.1,a.2.2.2.2.1,b,a.2.2.2.2.2.2.1,()))<|some [aS .int a.2.2.2.1])) (f,0,c.Pending,[],c.Memory,c.Guests,c.Outs,()))
def zQk:=zo [(384,0,{n:=28,tm:=[(1,ti),(2,.lp 0 0),(5,.sl 0 []),(6,ti)],lo:=[(0,[.sl 1 [],.sl 2 [],.sl 3 [],ti])],ro:=[(0,.int,true),(1,.sl .int,false),(2,.guest,false),(3,.int,false)]})]
def zPG (a:Bare)(b:Int)(g:zeE a b=true):∃N,zCK N a b=some [aS .int<|zfK a b]:=by
 have h:=zM.1 g;have e:=zda h.2.1.1;refine zcy λN d=>?_;unfold zCK oN;conv=>zeta
 refine(zbq a.Guests (λi (t:LI)=>(b,(i:Int),a.Pending,t,a.Memory,a.Guests,a.Outs,())) _ (λi (x:Guest) (t:LI) f=>bif posts x.Ctl b then (cond (few<|ln<|ap t [(i:Int)]) (f<|ap t [(i:Int)]) none) else f t) (λ(t:LI)=>some [.one<|.s .int t]) (λi c t rec=>?_) (λt rec=>?_) _ ([])<|d e.1).trans ?_;{simp only [zbL c,zbn c,zbv c,zbi c e.1,cT]};{simp only [zbD,cF]};exact zpt (λ(x:Guest)=>posts x.Ctl b) _ a.Guests 0 [] (by simpa using e.2)
def zIL:vO 384 zn3:=kF2 zH1 zn zA zq zQk zPG
def zCo (N:Nat)(d:Bare)(g:Int):OA:=
 (iter (σ:=(Int×Int×Int×LI×lG×Unit)) N (λe a=>let c:=a.2.2.2.2.1;let b:=a.2.2.1;let f:=(ix c b zx).Ctl; (cond (ilt b a.2.1) (oN (inb b<|ln c)<|oN (ztt f a.1)<|cond (zod f a.1) (oN (few<|ln<|ap a.2.2.2.1 [b])<|e (a.1,a.2.1,zQ .i64 b 1,ap a.2.2.2.1 [b],c,()))<|e (a.1,a.2.1,zQ .i64 b 1,a.2.2.2.1,c,()))<|some [aS .int a.2.2.2.1])) (g,ln d.Guests,0,[],d.Guests,()))
def zQe:=zo [(246,0,{n:=27,tm:=[(1,ti),(5,.sl 0 []),(10,.sl 1 []),(11,ti),(12,ti)],lo:=[],ro:=[(0,.int,true),(1,.guest,false)]})]
def zPn (a:Bare)(b:Int)(g:zeE a b=true):∃N,zCo N a b=some [aS .int<|zfK a b]:=by
 have h:=zM.1 g;have e:=zda h.2.1.1;refine zcy λN d=>?_;unfold zCo oN;conv=>zeta
 refine(zbq a.Guests (λi (t:LI)=>(b,ln a.Guests,(i:Int),t,a.Guests,())) _ (λi (x:Guest) (t:LI) f=>bif posts x.Ctl b then (cond (few<|ln<|ap t [(i:Int)]) (f<|ap t [(i:Int)]) none) else f t) (λ(t:LI)=>some [.one<|.s .int t]) (λi c t rec=>?_) (λt rec=>?_) _ ([])<|d e.1).trans ?_;{simp only [zbL c,zbn c,zbv c,zbi c e.1,cT]};{simp only [zbD,cF]};exact zpt (λ(x:Guest)=>posts x.Ctl b) _ a.Guests 0 [] (by simpa using e.2)
def zIp:vO 246 zn3:=kF2 zH1 zn zA zq zQe zPn
def z8O:zbf:=[(384,zn3),(246,zn3)]++z8N
def zH2:zU z8O:=zi zIL (zi zIp zH1)
def zE0 (n:Int)(l:List Guest)(k:Int):List Guest:=up l k (zm0 (ix l k zx) n)
def znT (n:Int)(a:LI)(l:List Guest):List Guest:=a.foldl (zE0 n) l
def zDX (n:Int)(l:List Guest)(k:Int):(zE0 n l k).length=l.length:=zgA _ _ _
def z2i {n:Int}{l:List Guest}{k:Int}(a:hasB k (ln l)=true)(h:zmK l):zmK (zE0 n l k):=zE4 h (zWT h a _)
def zEm {n:Int}:∀(a:LI) {l:List Guest},(∀k∈a,hasB k (ln l)=true)->zmK l->zmK (znT n a l)/\(znT n a l).length=l.length
 |[],_,_,h=>⟨h,rfl⟩
 |k::a,l,b,h=>by have e:=z2i (n:=n) (b k (by simp)) h;obtain⟨c,d⟩:=zEm (n:=n) a (l:=zE0 n l k) (λj f=>by rw[ln,zDX];exact b j (by simp[f])) e;exact⟨c,d.trans<|zDX _ _ _⟩
def zIc {e:Type}(n:Int)(K:List Guest->Option e):∀(a:LI) (i:Nat) (l:List Guest),(∀k∈a,hasB k (ln l)=true)->
 goL (λ_ k (t:List Guest) d=>bif inb k (ln t) then (cond (inb k<|ln t) (d<|up t k<|zm0 (ix t k zx) n) none) else none) K a i l=K (znT n a l)
 |[],_,_,_=>rfl
 |k::a,i,l,h=>by have c:inb k (ln l)=true:=h k (by simp);simp only[goL,c,cT];exact zIc n K a (i+1) (zE0 n l k) (λj b=>by rw[ln,zDX];exact h j (by simp[b]))
def zE1 (b:Bare)(n:Int):Bare:=bif ieq (ln<|zfa b.Guests n) 0 then {b with Pending:=zqp b.Pending n} else {b with Guests:=znT n (zfa b.Guests n) b.Guests}
def zf2 (b:Bare)(n:Int):Bool:=bif zbZ b then hasB n 8 else false
def zj7 (b:Bare)(n:Int):Bare:=bif zf2 b n then zE1 b n else b
def zAz {b:Bare}{n:Int}:∀k∈zfa b.Guests n,hasB k (ln b.Guests)=true:=λk a=>by have:=zU4 _ _ _ k a;exact qJ (by simp only[ln];omega)
def z1D {b:Bare}{n:Int}(h:ieq (ln<|zfa b.Guests n) 0=true):znT n (zfa b.Guests n) b.Guests=b.Guests:=by have a:((zfa b.Guests n).length:Int)=0:=qD h;have:zfa b.Guests n=[]:=uS.1 (by omega);rw[this];rfl
def zMX {b:Bare}{n:Int}:(cond (ieq (ln<|zfa b.Guests n) 0) (some [AV.agg<|Ty.cells .bare ⟨b.Memory,znT n (zfa b.Guests n) b.Guests,b.Outs,zqp b.Pending n⟩,AV.one<|.b true])<|some [AV.agg<|Ty.cells .bare ⟨b.Memory,znT n (zfa b.Guests n) b.Guests,b.Outs,b.Pending⟩,AV.one<|.b true])=some [AV.agg<|Ty.cells .bare<|zE1 b n,AV.one<|.b true]:=by unfold zE1;cases h:ieq (ln<|zfa b.Guests n) 0;{rfl};{simp only [cT,z1D h]}
@[simp] abbrev zdq (b:Bare)(n:Int):Bare:=zj7 b n
@[simp] abbrev zdL (b:Bare)(n:Int):Bool:=zf2 b n
def zjc:Run:=rF2 (dT .bare) dI λb c=>(zeE b c,[aT .bare<|zdq b c,aB<|zdL b c])
def zCC (N:Nat)(i:Bare)(e:Int):OA:=
 let b:=zY i; (oN (zbp i)<|oN (zdC b)<|cond (nB<|zb9 b) (some [aT .bare b,aB false])<|oN (zN e 0 7)<|cond (nB<|zl e 0 7) (some [aT .bare b,aB false])<|oN (zeE b e)<|iter (σ:=(Int×Int×Int×Int×LI×lM×lG×LI×lM×lG×LI×Unit)) N (λj a=>let h:=a.2.2.2.2.2.2.2.1;let d:=a.2.2.2.2.1;let c:=a.2.2.2.2.2.2.1;let f:=ix d a.2.1 0;let g:=ix c f zx; (cond (ilt a.2.1<|ln d) (oN (inb a.2.1<|ln d)<|oN (inb a.2.1<|ln d)<|oN (inb f<|ln c)<|oN (zf7 g.Pending a.1)<|oN (inb f<|ln c)<|j (a.1,zQ .i64 a.2.1 1,a.2.2.1,a.2.2.2.1,d,a.2.2.2.2.2.1,up c f ({g with Pending:=(zer g.Pending a.1)}:Guest),h,a.2.2.2.2.2.2.2.2.1,a.2.2.2.2.2.2.2.2.2.1,a.2.2.2.2.2.2.2.2.2.2.1,()))<|cond (ieq (ln d) 0) (oN (zf7 a.2.2.1 a.1)<|some [aT .bare (⟨a.2.2.2.2.2.1,c,h,zer a.2.2.1 a.1⟩:Bare),aB true])<|some [aT .bare (⟨a.2.2.2.2.2.1,c,h,a.2.2.1⟩:Bare),aB true])) (e,0,b.Pending,0,zfK b e,b.Memory,b.Guests,b.Outs,[],[],[],()))
def zQg:=zo [(351,0,{n:=62,tm:=[(1,ti),(2,.lp 0 0),(4,.lp 1 0),(6,.sl 0 []),(7,ti)],lo:=[(0,[.sl 1 [],.sl 2 [],.sl 3 [],ti]),(1,[.sl 4 [],.sl 5 [],.sl 6 [],ti])],ro:=[(0,.int,true),(1,.sl .int,true),(2,.guest,true),(3,.int,true),(4,.sl .int,true),(5,.guest,true),(6,.int,true)]})]
def zPy (a:Bare)(c:Int)(l:zeE a c=true):∃N,zCC N a c=some [aT .bare<|zdq a c,aB<|zdL a c]:=by
 have h:=zM.1 l;have j:(zfa a.Guests c).length<=big:=qU (zvD _ _ _) (zda h.2.1.1).1;refine zcy λN g=>?_;unfold zCC zdq zdL zj7 zf2 oN nB;conv=>zeta
 refine must (zbh h) (must rfl (brN (λe=>?_) λe=>must rfl (brN (λd=>?_) λd=>must (zbh h) ?_)));{simp only [show zbZ a=false from e,cF]};{simp only [show zbZ a=true from e,show hasB c 8=false from by first|exact d|exact(zNI c).symm.trans d,cT,cF]};simp only[show zbZ a=true from e,show hasB c 8=true from by first|exact d|exact(zNI c).symm.trans d,cT];refine(zbq (zfK (zY a) c) (λi (t:lG)=>(c,(i:Int),(zY a).Pending,0,zfK (zY a) c,(zY a).Memory,t,(zY a).Outs,[],[],[],())) _ (λ_ k (t:List Guest) m=>bif inb k (ln t) then (cond (inb k<|ln t) (m<|up t k<|zm0 (ix t k zx) c) none) else none) (λ(t:lG)=>cond (ieq (ln<|zfK (zY a) c) 0) (cond (zf7 (zY a).Pending c) (some [.agg<|Ty.cells .bare (⟨(zY a).Memory,t,(zY a).Outs,zer (zY a).Pending c⟩:Bare),.one<|.b true]) none)<|some [.agg<|Ty.cells .bare (⟨(zY a).Memory,t,(zY a).Outs,(zY a).Pending⟩:Bare),.one<|.b true]) (λi f t rec=>?_) (λt rec=>?_) _ ((zY a).Guests)<|g j).trans ?_;{simp only [zbL f,zbn f,zbv f,zbi f j,cT];rfl};{simp only [zbD,cF];rfl};exact(zIc c _ _ 0 _ zAz).trans zMX
def zvw:vO 351 zjc:=kF2 zH2 zn zA zq zQg zPy
def zCf (N:Nat)(b:Bare)(c:Int):OA:=
 let e:=zY b; (oN (zbp b)<|oN (zdC b)<|cond (nB<|zb9 b) (some [aT .bare e,aB false])<|oN (zN c 0 7)<|cond (nB<|zl c 0 7) (some [aT .bare e,aB false])<|oN (zeE b c)<|iter (σ:=(Int×Int×Int×Int×Int×LI×lM×lG×LI×lM×lG×LI×Unit)) N (λl a=>let h:=a.2.2.2.2.1;let g:=a.2.2.2.2.2.1;let k:=a.2.2.2.2.2.2.2.2.2.1;let i:=a.2.2.2.2.2.2.2.2.2.2.2.1;let f:=ix g a.2.2.1 0;let d:=a.2.2.2.2.2.2.2.2.2.2.1;let j:=ix d f zx; (cond (ilt a.2.2.1 a.2.1) (oN (inb a.2.2.1<|ln g)<|oN (inb f<|ln d)<|oN (zf7 j.Pending a.1)<|oN (inb f<|ln d)<|l (a.1,a.2.1,zQ .i64 a.2.2.1 1,a.2.2.2.1,h,g,a.2.2.2.2.2.2.1,a.2.2.2.2.2.2.2.1,a.2.2.2.2.2.2.2.2.1,k,up d f ({j with Pending:=(zer j.Pending a.1)}:Guest),i,()))<|cond (ieq (ln g) 0) (oN (zf7 h a.1)<|some [aT .bare (⟨k,d,i,zer h a.1⟩:Bare),aB true])<|some [aT .bare (⟨k,d,i,h⟩:Bare),aB true])) (c,ln<|zfK b c,0,0,e.Pending,zfK b c,[],[],[],e.Memory,e.Guests,e.Outs,()))
def zQb:=zo [(164,0,{n:=59,tm:=[(1,ti),(4,.lp 0 0),(6,.lp 1 0),(7,.sl 0 []),(24,.sl 0 []),(25,ti),(26,ti)],lo:=[(0,[.sl 1 [],.sl 2 [],.sl 3 [],ti]),(1,[.sl 4 [],.sl 5 [],.sl 6 [],ti])],ro:=[(0,.int,true),(1,.sl .int,true),(2,.guest,true),(3,.int,true),(4,.sl .int,true),(5,.guest,true),(6,.int,true)]})]
def zPe (a:Bare)(c:Int)(l:zeE a c=true):∃N,zCf N a c=some [aT .bare<|zdq a c,aB<|zdL a c]:=by
 have h:=zM.1 l;have j:(zfa a.Guests c).length<=big:=qU (zvD _ _ _) (zda h.2.1.1).1;refine zcy λN g=>?_;unfold zCf zdq zdL zj7 zf2 oN nB;conv=>zeta
 refine must (zbh h) (must rfl (brN (λe=>?_) λe=>must rfl (brN (λd=>?_) λd=>must (zbh h) ?_)));{simp only [show zbZ a=false from e,cF]};{simp only [show zbZ a=true from e,show hasB c 8=false from by first|exact d|exact(zNI c).symm.trans d,cT,cF]};simp only[show zbZ a=true from e,show hasB c 8=true from by first|exact d|exact(zNI c).symm.trans d,cT];refine(zbq (zfK a c) (λi (t:lG)=>(c,ln<|zfK a c,(i:Int),0,(zY a).Pending,zfK a c,[],[],[],(zY a).Memory,t,(zY a).Outs,())) _ (λ_ k (t:List Guest) m=>bif inb k (ln t) then (cond (inb k<|ln t) (m<|up t k<|zm0 (ix t k zx) c) none) else none) (λ(t:lG)=>cond (ieq (ln<|zfK a c) 0) (cond (zf7 (zY a).Pending c) (some [.agg<|Ty.cells .bare (⟨(zY a).Memory,t,(zY a).Outs,zer (zY a).Pending c⟩:Bare),.one<|.b true]) none)<|some [.agg<|Ty.cells .bare (⟨(zY a).Memory,t,(zY a).Outs,(zY a).Pending⟩:Bare),.one<|.b true]) (λi f t rec=>?_) (λt rec=>?_) _ ((zY a).Guests)<|g j).trans ?_;{simp only [zbL f,zbn f,zbv f,zbi f j,cT];rfl};{simp only [zbD,cF];rfl};exact(zIc c _ _ 0 _ zAz).trans zMX
def zvt:vO 164 zjc:=kF2 zH2 zn zA zq zQb zPe
def z2K:zbf:=[(338,zjS),(146,zjS),(341,zio),(148,zio),(344,zhw),(153,zhw),(345,zhy),(155,zhy),(346,zhx),(157,zhx),(347,zjR),(159,zjR),(161,zrZ),(352,zjQ),(166,zjQ),(351,zjc),(164,zjc)]++z8O
def zC5:zU z2K:=zi zwT (zi zwO<|zi zt8<|zi zt7<|zi zth<|zi zte<|zi ztj<|zi ztg<|zi zti<|zi ztf<|zi zwS<|zi zwN<|zi zvs<|zi zwR<|zi zwM<|zi zvw<|zi zvt zH2)
def z4Z {n:Int}(h:(ieq n 4||ieq n 8)=true):n=4\/n=8:=by rcases jW _ _ ▸ h with h|h;{exact .inl (qD h)};{exact .inr (qD h)}
def z3Y {n:Int}(h:(ieq n 8||ieq n 12)=true):n=8\/n=12:=by rcases jW _ _ ▸ h with h|h;{exact .inl (qD h)};{exact .inr (qD h)}
@[simp] abbrev zld (n:Int):Bool:=ieq n 4||ieq n 8
@[simp] abbrev ziM (n:Int):List Slot:=List.replicate n.toNat ⟨-1,0⟩
def zr3:Run:=rF1 dI λb=>(zld b,[aS .slot<|ziM b])
def zT5 (N:Nat)(b:Int):OA:=
 (oN (zsE b 0 24)<|iter (σ:=(Int×lS×Unit)) N (λc a=>cond (igt a.1 0) (oN zbS<|oN (few<|ln<|ap a.2.1 [zbl])<|c (wsub .i64 a.1 1,ap a.2.1 [zbl],()))<|some [aS .slot a.2.1]) (ztr b 0 24,[],()))
def zQl:=zo [(311,0,{n:=17,tm:=[(3,.sl 0 []),(4,ti)],lo:=[],ro:=[(0,.slot,true)]})]
def zPJ (a:Int)(b:zld a=true):∃N,zT5 N a=some [aS .slot<|ziM a]:=by refine⟨30,?_⟩;have h:a=4\/a=8:=z4Z b;rcases h with rfl|rfl<;>(change _=_;kernel_rfl)
def zvz:vO 311 zr3:=kF1 zC5 zn zA zq zQl zPJ
@[simp] abbrev zqX (n:Int):Bool:=ieq n 8||ieq n 12
@[simp] abbrev zlQ (n:Int):List LI:=List.replicate n.toNat [0,0,0,0]
def zvX:Run:=rF1 dI λb=>(zqX b,[aS (.sl .int)<|zlQ b])
def z0b (N:Nat)(b:Int):OA:=
 (oN (zsE b 0 24)<|iter (σ:=(Int×lM×Unit)) N (λc a=>cond (igt a.1 0) (oN (cond (few 4) (ieq 4 4) false)<|oN (few<|ln<|ap a.2.1 [rp 4 0])<|c (wsub .i64 a.1 1,ap a.2.1 [rp 4 0],()))<|some [aS (.sl .int) a.2.1]) (ztr b 0 24,[],()))
def zXk:=zo [(281,0,{n:=17,tm:=[(3,.sl 0 []),(4,ti)],lo:=[],ro:=[(0,.sl .int,true)]})]
def zVD (a:Int)(b:zqX a=true):∃N,z0b N a=some [aS (.sl .int)<|zlQ a]:=by refine⟨30,?_⟩;have h:a=8\/a=12:=z3Y b;rcases h with rfl|rfl<;>(change _=_;kernel_rfl)
def zyL:vO 281 zvX:=kF1 zC5 zn zA zq zXk zVD
def z2L:zbf:=[(311,zr3),(281,zvX)]++z2K
def zQ2:zU z2L:=zi zvz (zi zyL zC5)
def znu:List Slot:=List.replicate 4 ⟨-1,0⟩
def zgi (p:List Ins):Guest:=⟨p,0,0,znu,znu,⟨0,0,false⟩,0,⟨0,0,false,0⟩,false,[]⟩
@[simp] abbrev zk8 (p:List Ins):Bool:=pc (p.length<=1048576)
@[simp] abbrev zcY (p:List Ins):Guest:=zgi p
def znZ:Run:=rF1 (dS .ins) λb=>(zk8 b,[aT .guest<|zcY b])
def zCF (N:Nat)(a:lI):OA:=
 (oN (few<|ln<|ap [] a)<|oN (zld 4)<|oN (zld 4)<|some [aT .guest (⟨ap [] a,0,0,ziM 4,ziM 4,⟨0,0,false⟩,0,⟨0,0,false,0⟩,false,[]⟩:Guest)])
def zPB (a:List Ins)(b:zk8 a=true):∃N,zCF N a=some [aT .guest<|zcY a]:=by have c:=zM.1 b;refine⟨0,?_⟩;unfold zCF oN;refine mu (must rfl (must rfl ?_));first|rfl|(simp only [*,zcY,zgi,znu,cT,cF]<;>rfl)|simp_all[Ty.cells,zcY,zgi,znu]
def zpv:vO 258 znZ:=kF1 zQ2 zn zA zq (zo []) zPB
def zbbz:zbf:=[(258,znZ)]++z2L
def zwy:zU zbbz:=zi zpv zQ2
def zPR:List LI:=List.replicate 8 [0,0,0,0]
def SmPs (a:List (List Ins)):Prop:=a.length<=1048576/\∀p∈a,p.length<=1048576
def zRu {d c j:Type}(m:Nat)(f:d->c)(K:List c->Option j):∀(l:List d) (i:Nat) (a:List c),a.length+l.length<=2147483648->
 goL (λ(i:Nat) x a k=>bif ilt (i:Int) (m:Int) then (cond (few<|ln<|ap a [f x]) (k<|ap a [f x]) none) else K a) K l i a=K (a++(l.take<|m-i).map f)
 |[],i,a,_=>by simp[goL]
 |x::l,i,a,g=>by simp only[jB]at g;have e:few (ln<|ap a [f x])=true:=ziA (by simp[ap];omega);by_cases h:i<m;{have b:ilt (i:Int) (m:Int)=true:=qJ (by omega);simp only[goL,b,e,cT];rw[zRu m f K l (i+1) (ap a [f x]) (by simp[ap];omega)];rw[show m-i=m-(i+1)+1 by omega];simp[ap]};{have b:ilt (i:Int) (m:Int)=false:=qH (by omega);simp only[goL,b,cF];rw[show m-i=0 by omega];simp}
@[simp] abbrev znd (a:GAct):Bool:=true
@[simp] abbrev zzm (a:GAct):Bool:=zl a.Kind 1 17
def zHm:Run:=rF1 (dT .act) λb=>(znd b,[aB<|zzm b])
def zQE (N:Nat)(a:GAct):OA:=
 (oN (zN a.Kind 1 17)<|some [aB<|zl a.Kind 1 17])
def zYf (a:GAct)(b:znd a=true):∃N,zQE N a=some [aB<|zzm a]:=by refine⟨0,?_⟩;unfold zQE oN;refine must rfl ?_;first|rfl|(simp only [*,zzm,cT,cF]<;>rfl)|simp_all[Ty.cells,zzm]
def zSa:vO 283 zHm:=kF1 zwy zn zA zq (zo []) zYf
@[simp] abbrev zx1 (k:Int):Bool:=true
@[simp] abbrev zts (k:Int):Bool:=zl k 13 17
def zBD:Run:=rF1 dI λb=>(zx1 b,[aB<|zts b])
def zGB (N:Nat)(a:Int):OA:=
 (oN (zN a 13 17)<|some [aB<|zl a 13 17])
def zSZ (a:Int)(b:zx1 a=true):∃N,zGB N a=some [aB<|zts a]:=by refine⟨0,?_⟩;unfold zGB oN;refine must rfl ?_;first|rfl|(simp only [*,zts,cT,cF]<;>rfl)|simp_all[Ty.cells,zts]
def zLM:vO 37 zBD:=kF1 zwy zn zA zq (zo []) zSZ
@[simp] abbrev zmr (a:GAct):Ctl:=⟨a.X,a.Y,ieq a.Z 1⟩
def zsu:Run:=rF1 (dT .act) λb=>(znd b,[.agg<|zos<|zmr b])
def zQF (N:Nat)(a:GAct):OA:=
 (some [.agg [.i .i64 a.X,.i .i64 a.Y,.b<|ieq a.Z 1]])
def zG9 (a:GAct)(b:zbX big [aT .act a])(c:znd a=true):∃N,zQF N a=some [.agg<|zos<|zmr a]:=by refine⟨0,?_⟩;unfold zQF;first|rfl|(simp only [*,zmr,cT,cF]<;>rfl)|simp_all[Ty.cells,zmr]
def zSb:vO 293 zsu:=hF1 zwy zn zA zq (zo []) zG9
def zRY:vO 77 zsu:=hF1 zwy zn zA zq (zo []) zG9
def zUu:zbf:=[(338,zjS),(146,zjS),(341,zio),(148,zio),(344,zhw),(153,zhw),(345,zhy),(155,zhy),(346,zhx),(157,zhx),(347,zjR),(159,zjR),(161,zrZ),(352,zjQ),(166,zjQ),(351,zjc),(164,zjc),(281,zvX)]++z8K
def zC6:zU zUu:=zi zwT (zi zwO<|zi zt8<|zi zt7<|zi zth<|zi zte<|zi ztj<|zi ztg<|zi zti<|zi ztf<|zi zwS<|zi zwN<|zi zvs<|zi zwR<|zi zwM<|zi zvw<|zi zvt<|zi zyL z5Y)
def zdM (x:Mon):Bare:=⟨zPR,x.Guests,x.Outs,x.Pending⟩
def zoY (x:Mon)(b:Bare):Mon:={x with Guests:=b.Guests,Pending:=b.Pending}
def zcK (h:Host)(m:Int)(b:Bare):Host:={h with Mons:=up h.Mons m (zoY (ix h.Mons m mZ) b)}
@[simp] abbrev zgb (x:Mon):Bool:=pc (zfz x)
@[simp] abbrev zb6 (x:Mon):Bare:=zdM x
def zBJ:Run:=rF1 (dT .mon) λb=>(zgb b,[aT .bare<|zb6 b])
def zGQ (N:Nat)(a:Mon):OA:=
 (oN (zqX 8)<|oN (zhj a.Guests)<|oN (few<|ln<|ap [] a.Outs)<|some [aT .bare (⟨zlQ 8,zhW a.Guests,ap [] a.Outs,a.Pending⟩:Bare)])
def zTh (a:Mon)(c:zgb a=true):∃N,zGQ N a=some [aT .bare<|zb6 a]:=by have b:=zM.1 c;refine⟨0,?_⟩;unfold zGQ oN;exact must rfl (must (zbh<|(zwA _).2 b.2.2.2.1) (must (zpK b.2.2.2.2.1) rfl))
def zMd:vO 339 zBJ:=kF1 zC6 zn zbE zis (zo []) zTh
@[simp] abbrev zga (h:Host)(m:Int)(b:Bare):Bool:=pc (hasB m (ln h.Mons)=true/\zmK b.Guests)
@[simp] abbrev zi2 (h:Host)(m:Int)(b:Bare):Host:=zcK h m b
def zNE {l:List Mon}{m:Int}(a:hasB m (ln l)=true)(b:Bare):inb m (ln<|up l m {ix l m mZ with Guests:=b.Guests})=true/\
 up (up l m {ix l m mZ with Guests:=b.Guests}) m {ix (up l m {ix l m mZ with Guests:=b.Guests}) m mZ with Pending:=b.Pending}=up l m (zoY (ix l m mZ) b):=by
 obtain⟨k,rfl,c⟩:=zeH (n:=l.length) a;refine⟨zB (by rw[ln,zgA];exact a),?_⟩
 rw[zrq,zd6 c];rfl
def ztZ:LW
 |[.agg [.s (.sl .int) b,.s .mon c,.s .entry d,.s .entry e],.one<|.i .i64 f,.agg [.s (.sl .int) g,.s .guest h,.s .int j,.i .i64 k]]=>some (zga (⟨b,c,d,e⟩:Host) f (⟨g,h,j,k⟩:Bare),[aH<|zi2 (⟨b,c,d,e⟩:Host) f (⟨g,h,j,k⟩:Bare)])
 |_=>none
def zxK (N:Nat)(b:Host)(a:Int)(c:Bare):OA:=
 (oN (zhj c.Guests)<|oN (inb a<|ln b.Mons)<|share (up b.Mons a ({ (ix b.Mons a zh) with Guests:=(zhW c.Guests)}:Mon)) λd=>oN (inb a<|ln d)<|share (up d a ({ (ix d a zh) with Pending:=c.Pending}:Mon)) λe=>some [aH ({b with Mons:=e}:Host)])
def zV5 (N:Nat)(a:Host)(b:Int)(c:Bare):z0P (cQ zUu zql z1C z7w) (zo []) N 12 340 [true,true,true,true,false,false,false,false,false] [aH a,aI b,aT .bare c]=zxK N a b c:=by kernel_rfl
def zTg (b:Host)(c:Int)(a:Bare)(i:zbX big [aH b,aI c,aT .bare a])(h:zga b c a=true):∃N,zxK N b c a=some [aH<|zi2 b c a]:=by obtain⟨d,hg⟩:=zM.1 h;obtain⟨f,g⟩:=zNE d a;refine⟨0,?_⟩;unfold zxK oN;refine must (zbh<|(zwA _).2 hg) (must (zB d)<|shr<|must f<|shr ?_);have e:zhW a.Guests=a.Guests:=rfl;rw[e];show some [AV.agg<|zbd {b with Mons:=_}]=some [AV.agg<|zbd {b with Mons:=_}];rw[show zh=mZ from rfl,g]
def zMc:zfj Tryz.prog 340 [true,true,true,true,false,false,false,false,false] none ztZ:=by refine zN1 (zil zC6 zn zbE zis) (zkJ (by kernel_rfl)) (by kernel_rfl) ?_;intro a g f e h;have c:=zkP e;unfold ztZ at h;split at h;{obtain⟨d,rfl⟩:=ze9 h;obtain⟨N,b⟩:=zTg _ _ _ (by exact c) d;exact⟨_,N,12,(zV5 N _ _ _ ).trans b⟩};{cases h}
def z2Q:zbf:=[(339,zBJ)]++zUu
def zfk:zU z2Q:=zi zMd zC6
def zbcP:zgF:=[(340,[true,true,true,true,false,false,false,false,false],none,ztZ)]++z7w
def zca:zfc zbcP:=zr9 zis (by
 intro x a;simp only[qG,qN,or_false]at a;rcases a with rfl
 .exact zMc)
def z9w (h:Host)(m:Int)(c:Bool)(B:Bare)(ok:Bool)(a b:Host->Ans):OA:=
 bif zT h then (cond (zcm h) (cond (cond (zch h) false true) (some<|a h)<|cond (zbg m<|ln h.Mons) (cond (cond (zcb m<|ln h.Mons) false true) (some<|a h)<|cond (zcd h m) (cond c (cond ok (cond (zdg B.Guests) (cond (inb m<|ln h.Mons) (share (up h.Mons m {ix h.Mons m mZ with Guests:=B.Guests}) λx=>cond (inb m<|ln x) (share (up x m {ix x m mZ with Pending:=B.Pending}) λy=>some (b {h with Mons:=y})) none) none) none)<|some<|b h) none) none) none) none) else none
def z9B (h:Host)(m:Int)(a:Bool)(B:Bare)(b c:Host->Ans):OA:=
 bif zT h then (cond (zg5 h m) (cond (cond (zfp h m) false true) (some<|b h)<|cond (inb m<|ln h.Mons) (cond (zgb<|ix h.Mons m mZ) (cond a (cond (zga h m B) (some<|c<|zcK h m B) none) none) none) none) none) else none
def zbr {h:Host}{m:Int}:(zb1 h m=true)↔zbQ h=true/\hasB m (ln h.Mons)=true:=by unfold zb1;cases zbQ h<;>simp
def zpA {h:Host}{m:Int}{cB:Bool}{B:Bare}{ok:Bool}{o0 o1:Host->Ans}(l:SmH h)(k:zb1 h m=true->cB=true)(j:zb1 h m=true->SmB B)(c:zb1 h m=true->ok=false->zcK h m B=h) :
 z9w h m cB B ok o0 o1=some (cond (zb1 h m) (o1<|zcK h m B)<|o0 h):=by
 have i:zc8 h:=(zS h).2 l;unfold z9w;refine must (zbh i) (must rfl ?_);rw[show zch h=zbQ h from rfl]
 have g:zbQ h=true->hasB m (ln h.Mons)=true->cB=true:=λa b=>k (zbr.2 ⟨a,b⟩);have f:zbQ h=true->hasB m (ln h.Mons)=true->SmB B:=λa b=>j (zbr.2 ⟨a,b⟩);unfold zb1 at c ⊢;cases e:zbQ h
 .rfl
 .refine zcj rfl (must rfl ?_);rw[show zcb m (ln h.Mons)=hasB m (ln h.Mons) from rfl]
  rw[e]at c;cases d:hasB m (ln h.Mons)
  .rfl
  .rw [d]at c;refine zcj rfl (must (zbs i)<|must (g e d) ?_);cases ok
   .simp only [cT,cF,c rfl rfl]
   .obtain⟨e1,e2⟩:=zNE d B;refine must rfl (must (zbh (f e d).2.1)<|must (zB d)<|shr<|must e1<|shr ?_)
    show some (o1 {h with Mons:=_})=_
    rw[e2];rfl
def zpI {h:Host}{m:Int}{cB:Bool}{B:Bare}{o0 o1:Host->Ans}(c:SmH h)(e:zb1 h m=true->cB=true)(d:zb1 h m=true->SmB B):z9B h m cB B o0 o1=some (cond (zb1 h m) (o1<|zcK h m B)<|o0 h):=by unfold z9B;refine must (zbh<|(zS h).2 c) (must rfl ?_);rw[show zfp h m=zb1 h m from rfl];cases a:zb1 h m;{rfl};{have b:=(zbr.1 a).2;exact zcj rfl (must (zB b)<|must (zbh<|c.2.1.2 _<|zbO b _)<|must (e a) (must (zbh ⟨b,(d a).2.1⟩) rfl))}
structure SameB (b c:Bare):Prop where
 g:b.Guests=c.Guests
 p:b.Pending=c.Pending
 o:zbZ b=zbZ c
def SameB.at {b c:Bare}(h:SameB b c)(g:Int):gAt b g=gAt c g:=by unfold gAt;rw[h.g]
def SameB.has {b c:Bare}(h:SameB b c)(g:Int):zb2 b g=zb2 c g:=by unfold zb2;rw[h.g,h.o]
def back_eq {h:Host}{m:Int}{b c:Bare}(hg:b.Guests=c.Guests)(a:b.Pending=c.Pending):zcK h m b=zcK h m c:=by unfold zcK zoY;rw[hg,a]
def zrG {b c:Bare}(a:SameB b c)(h:Host)(m g:Int)(k:Bool)(x:Guest):zcK h m (chg b g k x)=zcK h m (chg c g k x):=by unfold chg;rw[a.has];cases (cond (zb2 c g) k false);{exact back_eq a.g a.p};{exact back_eq (by simp only[cT,zeK,a.g]) a.p}
def znF {b c:Bare}(a:SameB b c)(g:Int)(k:Bool):zb5 b g k=zb5 c g k:=by unfold zb5;rw[a.has]
def zlp {h:Host}{m:Int}(a:hasB m (ln h.Mons)=true):zcK h m (zC h m)=h:=by unfold zcK zoY zC;rw[a,cT];simp only;rw[zXy a]
def zlu {h:Host}{m:Int}(b:zb1 h m=true)(d:zbZ (zdM<|ix h.Mons m mZ)=true):SameB (zdM<|ix h.Mons m mZ) (zC h m):=by obtain⟨c,a⟩:=zbr.1 b;refine⟨?_,?_,d.trans (zsi c a).symm⟩<;>unfold zC zdM<;>rw [a]<;>rfl
def zbaA:zj5 zPR 8=true:=by decide
def zpZ {h:Host}{m:Int}(b:zb1 h m=true):zbZ (zdM<|ix h.Mons m mZ)=true:=by obtain⟨c,a⟩:=zbr.1 b;have:=zsi c a;unfold zC at this;rw[a,cT] at this;unfold zbZ at this ⊢;simp only[zdM,zbaA] at *;simp_all
def zgj {x:Mon}(h:zfz x):SmB (zdM x):=⟨show SmM zPR from ⟨by decide,by decide⟩,h.2.2.2.1,h.2.2.2.2.1⟩
def zvj {b:Bare}{g:Int}{k:Bool}{x:Guest}(h:zb5 b g k=false):chg b g k x=b:=by unfold chg;unfold zb5 at h;rw[h];rfl
def zfJ (h:Host)(m:Int)(b:Bare):Host:=bif zb1 h m then zcK h m b else h
def zfi (h:Host)(m:Int)(ok:Bool):Bool:=bif zb1 h m then ok else false
@[simp] abbrev zgI (h:Host)(m:Int)(g p:Int)(s:Slot):Host:=zfJ h m (zdF (zC h m) g p s)
@[simp] abbrev zhM (h:Host)(m:Int)(g p:Int)(s:Slot):Bool:=zfi h m (zdR (zC h m) g p s)
@[simp] abbrev ze2 (h:Host)(m:Int)(g v:Int):Host:=zfJ h m (zcr (zC h m) g v)
@[simp] abbrev zfF (h:Host)(m:Int)(g v:Int):Bool:=zfi h m (zcB (zC h m) g v)
@[simp] abbrev ze4 (h:Host)(m:Int)(g:Int):Host:=zfJ h m (zct (zC h m) g)
@[simp] abbrev zfH (h:Host)(m:Int)(g:Int):Bool:=zfi h m (zcD (zC h m) g)
@[simp] abbrev ze3 (h:Host)(m:Int)(g n:Int):Host:=zfJ h m (zcs (zC h m) g n)
@[simp] abbrev zfG (h:Host)(m:Int)(g n:Int):Bool:=zfi h m (zcC (zC h m) g n)
@[simp] abbrev zhK (h:Host)(m:Int)(g:Int)(x:Ctl):Host:=zfJ h m (zdd (zC h m) g x)
@[simp] abbrev zhL (h:Host)(m:Int)(g:Int)(x:Ctl):Bool:=zfi h m (zdn (zC h m) g x)
@[simp] abbrev zf4 (h:Host)(m:Int)(n:Int):Host:=zfJ h m (zdq (zC h m) n)
@[simp] abbrev zgZ (h:Host)(m:Int)(n:Int):Bool:=zfi h m (zdL (zC h m) n)
@[simp] abbrev zgH (h:Host)(m:Int):Host:=zfJ h m (zdm<|zC h m)
@[simp] abbrev zhI (h:Host)(m:Int):Int:=bif zb1 h m then zeq (zC h m) else -1
@[simp] abbrev zhJ (h:Host)(m:Int):Bool:=zfi h m (zdE<|zC h m)
@[simp] abbrev zge (h:Host)(m g p:Int):Bool:=zfi h m (zb5 (zC h m) g<|hasB p 4)
def z4v {b c:Bare}(a:SameB b c)(n:Int):(zj7 b n).Guests=(zj7 c n).Guests/\(zj7 b n).Pending=(zj7 c n).Pending/\zf2 b n=zf2 c n:=by have e:zf2 b n=zf2 c n:=(by unfold zf2;rw[a.o]);unfold zj7;rw[e];cases zf2 c n;{exact⟨a.g,a.p,rfl⟩};{unfold zE1;rw[a.g];cases ieq (ln<|zfa c.Guests n) 0;{exact⟨by simp only[cT,cF],by simp only[cT,cF,a.p],rfl⟩};{exact⟨by simp only[cT,a.g],by simp only[cT,a.p],rfl⟩}}
def z4u {b:Bare}{n:Int}(h:zf2 b n=false):zj7 b n=b:=by unfold zj7;rw[h];rfl
def z5i {b c:Bare}(a:SameB b c):(zlx b).Guests=(zlx c).Guests/\(zlx b).Pending=(zlx c).Pending/\zrF b=zrF c/\zkH b=zkH c:=by unfold zlx zrF zkH;rw[a.o,a.p];cases zbZ c;{exact⟨a.g,a.p,rfl,rfl⟩};{exact⟨a.g,rfl,rfl,rfl⟩}
def z5h {b:Bare}(h:zkH b=false):zlx b=b:=by unfold zlx;unfold zkH at h;cases c:zbZ b;{rfl};{rw [c]at h;have a:ilt (zeB b.Pending) 0=true:=(by simpa using h);unfold zhv;simp only[a,cT]}
def z4S {b:Bare}{n:Int}(h:SmB b):SmB (zj7 b n):=by unfold zj7;cases zf2 b n;{exact h};{unfold zE1;cases ieq (ln<|zfa b.Guests n) 0;{exact⟨h.1,(zEm _ zAz h.2.1).1,h.2.2⟩};{exact h}}
def z7i {b:Bare}(h:SmB b):SmB (zlx b):=by unfold zlx;cases zbZ b;{exact h};{exact h}
def zuP {H a:Host}{x y:Bool}(c:H=a)(d:x=y):some [AV.agg<|zbd H,AV.one<|.b x]=some [AV.agg<|zbd a,AV.one<|.b y]:=by rw[c,d]
def z9S {H a:Host}{n k:Int}{x y:Bool}(c:H=a)(d:n=k)(e:x=y):some [AV.agg<|zbd H,AV.one<|.i .i64 n,AV.one<|.b x]=some [AV.agg<|zbd a,AV.one<|.i .i64 k,AV.one<|.b y]:=by rw[c,d,e]
def zP6 {b:Bare}(g p:Int)(s:Slot)(a:SmB b):SmB (zdF b g p s):=zpX a (zWU _ _<|zgx _ a)
def z6J {b:Bare}(g p:Int)(s:Slot)(a:zdR b g p s=false):zdF b g p s=b:=zvj a
def z7e {b c:Bare}(a:SameB b c)(h:Host)(m:Int)(g p:Int)(s:Slot):zcK h m (zdF b g p s)=zcK h m (zdF c g p s)/\zdR b g p s=zdR c g p s:=by have e:=a.at g;simp only[zdF,zdR,e];exact⟨zrG a _ _ _ _ _,znF a _ _⟩
@[simp] abbrev zoO (h:Host)(m:Int)(g p:Int)(s:Slot):Bool:=pc (zc8 h)
def zpa:Run:=rF5 dH dI dI dI (dT .slot) λb c d e f=>(zoO b c d e f,[aH<|zgI b c d e f,aB<|zhM b c d e f])
def zGA (N:Nat)(g:Host)(b d e:Int)(f:Slot):OA:=
 let a:=zk g;let c:=ix a.Mons b zh; (oN (zT g)<|oN (zg5 a b)<|cond (nB<|zfp a b) (some [aH a,aB false])<|oN (inb b<|ln a.Mons)<|oN (zgb c)<|oN (zkp (zb6 c) d e f)<|oN (zga a b<|zdF (zb6 c) d e f)<|some [aH<|zi2 a b<|zdF (zb6 c) d e f,aB<|zdR (zb6 c) d e f])
def zSY (a:Host)(c d e:Int)(f:Slot)(n:zoO a c d e f=true):∃N,zGA N a c d e f=some [aH<|zgI a c d e f,aB<|zhM a c d e f]:=by
 have i:=(zS a).1 (zM.1 n);refine⟨0,?_⟩;have j:=zpI (h:=a) (m:=c) (cB:=zkp (zdM<|ix a.Mons c mZ) d e f) (B:=zdF (zdM<|ix a.Mons c mZ) d e f) (o0:=λH=>[.agg<|zbd H,.one<|.b false]) (o1:=λH=>[.agg<|zbd H,.one<|.b<|zdR (zdM<|ix a.Mons c mZ) d e f]) i
  (λg=>zbh (zgj<|i.2.1.2 _<|zbO (zbr.1 g).2 _)) (λg=>zP6 _ _ _ (zgj<|i.2.1.2 _<|zbO (zbr.1 g).2 _))
 refine(show zGA 0 a c d e f=_ from j).trans ?_;unfold zgI zhM zfJ zfi;cases g:zb1 a c;{rfl};{obtain⟨k,l⟩:=z7e (zlu g<|zpZ g) a c d e f;simp only[cT];exact zuP k l}
def zLL:vO 287 zpa:=kF5 zfk zn zbE zca (zo []) zSY
def zGc (N:Nat)(b:Host)(a d e:Int)(f:Slot):OA:=
 let c:=zk b;let h:=zen b a;let j:=zdF h d e f;let i:=zdR h d e f; (oN (zT b)<|oN (zcm b)<|cond (nB<|zch b) (some [aH c,aB false])<|oN (zbg a<|ln b.Mons)<|cond (nB<|zcb a<|ln b.Mons) (some [aH c,aB false])<|oN (zcd b a)<|oN (zkp h d e f)<|cond i (oN (zdg j.Guests)<|oN (inb a<|ln c.Mons)<|share (up c.Mons a ({ (ix c.Mons a zh) with Guests:=(zdX j.Guests)}:Mon)) λg=>oN (inb a<|ln g)<|share (up g a ({ (ix g a zh) with Pending:=j.Pending}:Mon)) λk=>some [aH ({c with Mons:=k}:Host),aB i])<|some [aH c,aB i])
def zSC (a:Host)(c d e:Int)(f:Slot)(k:zoO a c d e f=true):∃N,zGc N a c d e f=some [aH<|zgI a c d e f,aB<|zhM a c d e f]:=by
 have i:=(zS a).1 (zM.1 k);refine⟨0,?_⟩;have j:=zpA (h:=a) (m:=c) (cB:=zkp (zC a c) d e f) (B:=zdF (zC a c) d e f) (ok:=zdR (zC a c) d e f) (o0:=λH=>[.agg<|zbd H,.one<|.b false]) (o1:=λH=>[.agg<|zbd H,.one<|.b<|zdR (zC a c) d e f]) i
  (λg=>zbh (zeT i (zbr.1 g).2)) (λg=>zP6 _ _ _ (zeT i (zbr.1 g).2)) (λg l=>(congrArg (zcK a c)<|z6J _ _ _ l).trans (zlp (zbr.1 g).2))
 refine(show zGc 0 a c d e f=_ from j).trans ?_;unfold zgI zhM zfJ zfi;cases zb1 a c<;>rfl
def zLr:vO 71 zpa:=kF5 zfk zn zbE zca (zo []) zSC
def zAJ {b:Bare}(g v:Int)(a:SmB b):SmB (zcr b g v):=zpX a (z7j _<|zgx _ a)
def zYs {b:Bare}(g v:Int)(a:zcB b g v=false):zcr b g v=b:=zvj a
def zYR {b c:Bare}(a:SameB b c)(h:Host)(m:Int)(g v:Int):zcK h m (zcr b g v)=zcK h m (zcr c g v)/\zcB b g v=zcB c g v:=by have e:=a.at g;simp only[zcr,zcB,e];exact⟨zrG a _ _ _ _ _,znF a _ _⟩
@[simp] abbrev zk9 (h:Host)(m:Int)(g v:Int):Bool:=pc (zc8 h)
def zlM:Run:=rF4 dH dI dI dI λb c d e=>(zk9 b c d e,[aH<|ze2 b c d e,aB<|zfF b c d e])
def zyt (N:Nat)(f:Host)(b d e:Int):OA:=
 let a:=zk f;let c:=ix a.Mons b zh; (oN (zT f)<|oN (zg5 a b)<|cond (nB<|zfp a b) (some [aH a,aB false])<|oN (inb b<|ln a.Mons)<|oN (zgb c)<|oN (zhz (zb6 c) d e)<|oN (zga a b<|zcr (zb6 c) d e)<|some [aH<|zi2 a b<|zcr (zb6 c) d e,aB<|zcB (zb6 c) d e])
def zJf (a:Host)(c d e:Int)(l:zk9 a c d e=true):∃N,zyt N a c d e=some [aH<|ze2 a c d e,aB<|zfF a c d e]:=by
 have g:=(zS a).1 (zM.1 l);refine⟨0,?_⟩;have i:=zpI (h:=a) (m:=c) (cB:=zhz (zdM<|ix a.Mons c mZ) d e) (B:=zcr (zdM<|ix a.Mons c mZ) d e) (o0:=λH=>[.agg<|zbd H,.one<|.b false]) (o1:=λH=>[.agg<|zbd H,.one<|.b<|zcB (zdM<|ix a.Mons c mZ) d e]) g
  (λf=>zbh (zgj<|g.2.1.2 _<|zbO (zbr.1 f).2 _)) (λf=>zAJ _ _ (zgj<|g.2.1.2 _<|zbO (zbr.1 f).2 _))
 refine(show zyt 0 a c d e=_ from i).trans ?_;unfold ze2 zfF zfJ zfi;cases f:zb1 a c;{rfl};{obtain⟨j,k⟩:=zYR (zlu f<|zpZ f) a c d e;simp only[cT];exact zuP j k}
def zDu:vO 289 zlM:=kF4 zfk zn zbE zca (zo []) zJf
def zyk (N:Nat)(b:Host)(a c d:Int):OA:=
 let f:=zk b;let e:=zen b a; (oN (zT b)<|oN (zcm b)<|cond (nB<|zch b) (some [aH f,aB false])<|oN (zbg a<|ln b.Mons)<|cond (nB<|zcb a<|ln b.Mons) (some [aH f,aB false])<|oN (zcd b a)<|oN (zhz e c d)<|cond (zcB e c d) (oN (zdg (zcr e c d).Guests)<|oN (inb a<|ln f.Mons)<|share (up f.Mons a ({ (ix f.Mons a zh) with Guests:=(zdX (zcr e c d).Guests)}:Mon)) λg=>oN (inb a<|ln g)<|share (up g a ({ (ix g a zh) with Pending:=(zcr e c d).Pending}:Mon)) λh=>some [aH ({f with Mons:=h}:Host),aB<|zcB e c d])<|some [aH f,aB<|zcB e c d])
def zI6 (a:Host)(c d e:Int)(j:zk9 a c d e=true):∃N,zyk N a c d e=some [aH<|ze2 a c d e,aB<|zfF a c d e]:=by
 have g:=(zS a).1 (zM.1 j);refine⟨0,?_⟩;have i:=zpA (h:=a) (m:=c) (cB:=zhz (zC a c) d e) (B:=zcr (zC a c) d e) (ok:=zcB (zC a c) d e) (o0:=λH=>[.agg<|zbd H,.one<|.b false]) (o1:=λH=>[.agg<|zbd H,.one<|.b<|zcB (zC a c) d e]) g
  (λf=>zbh (zeT g (zbr.1 f).2)) (λf=>zAJ _ _ (zeT g (zbr.1 f).2)) (λf k=>(congrArg (zcK a c)<|zYs _ _ k).trans (zlp (zbr.1 f).2))
 refine(show zyk 0 a c d e=_ from i).trans ?_;unfold ze2 zfF zfJ zfi;cases zb1 a c<;>rfl
def zDn:vO 73 zlM:=kF4 zfk zn zbE zca (zo []) zI6
def zAL {b:Bare}(g:Int)(a:SmB b):SmB (zct b g):=zpX a (z7k<|zgx _ a)
def zYu {b:Bare}(g:Int)(a:zcD b g=false):zct b g=b:=zvj a
def zYT {b c:Bare}(a:SameB b c)(h:Host)(m:Int)(g:Int):zcK h m (zct b g)=zcK h m (zct c g)/\zcD b g=zcD c g:=by have e:=a.at g;simp only[zct,zcD,e];exact⟨zrG a _ _ _ _ _,znF a _ _⟩
@[simp] abbrev zlb (h:Host)(m:Int)(g:Int):Bool:=pc (zc8 h)
def zlO:Run:=rF3 dH dI dI λb c d=>(zlb b c d,[aH<|ze4 b c d,aB<|zfH b c d])
def zyv (N:Nat)(e:Host)(b d:Int):OA:=
 let a:=zk e;let c:=ix a.Mons b zh; (oN (zT e)<|oN (zg5 a b)<|cond (nB<|zfp a b) (some [aH a,aB false])<|oN (inb b<|ln a.Mons)<|oN (zgb c)<|oN (zcF (zb6 c) d)<|oN (zga a b<|zct (zb6 c) d)<|some [aH<|zi2 a b<|zct (zb6 c) d,aB<|zcD (zb6 c) d])
def zJh (a:Host)(c d:Int)(k:zlb a c d=true):∃N,zyv N a c d=some [aH<|ze4 a c d,aB<|zfH a c d]:=by
 have f:=(zS a).1 (zM.1 k);refine⟨0,?_⟩;have g:=zpI (h:=a) (m:=c) (cB:=zcF (zdM<|ix a.Mons c mZ) d) (B:=zct (zdM<|ix a.Mons c mZ) d) (o0:=λH=>[.agg<|zbd H,.one<|.b false]) (o1:=λH=>[.agg<|zbd H,.one<|.b<|zcD (zdM<|ix a.Mons c mZ) d]) f
  (λe=>zbh (zgj<|f.2.1.2 _<|zbO (zbr.1 e).2 _)) (λe=>zAL _ (zgj<|f.2.1.2 _<|zbO (zbr.1 e).2 _))
 refine(show zyv 0 a c d=_ from g).trans ?_;unfold ze4 zfH zfJ zfi;cases e:zb1 a c;{rfl};{obtain⟨i,j⟩:=zYT (zlu e<|zpZ e) a c d;simp only[cT];exact zuP i j}
def zDw:vO 290 zlO:=kF3 zfk zn zbE zca (zo []) zJh
def zym (N:Nat)(b:Host)(a c:Int):OA:=
 let e:=zk b;let d:=zen b a; (oN (zT b)<|oN (zcm b)<|cond (nB<|zch b) (some [aH e,aB false])<|oN (zbg a<|ln b.Mons)<|cond (nB<|zcb a<|ln b.Mons) (some [aH e,aB false])<|oN (zcd b a)<|oN (zcF d c)<|cond (zcD d c) (oN (zdg (zct d c).Guests)<|oN (inb a<|ln e.Mons)<|share (up e.Mons a ({ (ix e.Mons a zh) with Guests:=(zdX (zct d c).Guests)}:Mon)) λf=>oN (inb a<|ln f)<|share (up f a ({ (ix f a zh) with Pending:=(zct d c).Pending}:Mon)) λg=>some [aH ({e with Mons:=g}:Host),aB<|zcD d c])<|some [aH e,aB<|zcD d c])
def zI8 (a:Host)(c d:Int)(i:zlb a c d=true):∃N,zym N a c d=some [aH<|ze4 a c d,aB<|zfH a c d]:=by
 have f:=(zS a).1 (zM.1 i);refine⟨0,?_⟩;have g:=zpA (h:=a) (m:=c) (cB:=zcF (zC a c) d) (B:=zct (zC a c) d) (ok:=zcD (zC a c) d) (o0:=λH=>[.agg<|zbd H,.one<|.b false]) (o1:=λH=>[.agg<|zbd H,.one<|.b<|zcD (zC a c) d]) f
  (λe=>zbh (zeT f (zbr.1 e).2)) (λe=>zAL _ (zeT f (zbr.1 e).2)) (λe j=>(congrArg (zcK a c)<|zYu _ j).trans (zlp (zbr.1 e).2))
 refine(show zym 0 a c d=_ from g).trans ?_;unfold ze4 zfH zfJ zfi;cases zb1 a c<;>rfl
def zDp:vO 74 zlO:=kF3 zfk zn zbE zca (zo []) zI8
def zAK {b:Bare}(g n:Int)(a:SmB b):SmB (zcs b g n):=zpX a (zgx (b:=b) _ a)
def zYt {b:Bare}(g n:Int)(a:zcC b g n=false):zcs b g n=b:=zvj a
def zYS {b c:Bare}(a:SameB b c)(h:Host)(m:Int)(g n:Int):zcK h m (zcs b g n)=zcK h m (zcs c g n)/\zcC b g n=zcC c g n:=by have e:=a.at g;simp only[zcs,zcC,e];exact⟨zrG a _ _ _ _ _,znF a _ _⟩
@[simp] abbrev zla (h:Host)(m:Int)(g n:Int):Bool:=pc (zc8 h)
def zlN:Run:=rF4 dH dI dI dI λb c d e=>(zla b c d e,[aH<|ze3 b c d e,aB<|zfG b c d e])
def zyu (N:Nat)(f:Host)(b d e:Int):OA:=
 let a:=zk f;let c:=ix a.Mons b zh; (oN (zT f)<|oN (zg5 a b)<|cond (nB<|zfp a b) (some [aH a,aB false])<|oN (inb b<|ln a.Mons)<|oN (zgb c)<|oN (zhA (zb6 c) d e)<|oN (zga a b<|zcs (zb6 c) d e)<|some [aH<|zi2 a b<|zcs (zb6 c) d e,aB<|zcC (zb6 c) d e])
def zJg (a:Host)(c d e:Int)(l:zla a c d e=true):∃N,zyu N a c d e=some [aH<|ze3 a c d e,aB<|zfG a c d e]:=by
 have g:=(zS a).1 (zM.1 l);refine⟨0,?_⟩;have i:=zpI (h:=a) (m:=c) (cB:=zhA (zdM<|ix a.Mons c mZ) d e) (B:=zcs (zdM<|ix a.Mons c mZ) d e) (o0:=λH=>[.agg<|zbd H,.one<|.b false]) (o1:=λH=>[.agg<|zbd H,.one<|.b<|zcC (zdM<|ix a.Mons c mZ) d e]) g
  (λf=>zbh (zgj<|g.2.1.2 _<|zbO (zbr.1 f).2 _)) (λf=>zAK _ _ (zgj<|g.2.1.2 _<|zbO (zbr.1 f).2 _))
 refine(show zyu 0 a c d e=_ from i).trans ?_;unfold ze3 zfG zfJ zfi;cases f:zb1 a c;{rfl};{obtain⟨j,k⟩:=zYS (zlu f<|zpZ f) a c d e;simp only[cT];exact zuP j k}
def zDv:vO 291 zlN:=kF4 zfk zn zbE zca (zo []) zJg
def zyl (N:Nat)(b:Host)(a c d:Int):OA:=
 let f:=zk b;let e:=zen b a; (oN (zT b)<|oN (zcm b)<|cond (nB<|zch b) (some [aH f,aB false])<|oN (zbg a<|ln b.Mons)<|cond (nB<|zcb a<|ln b.Mons) (some [aH f,aB false])<|oN (zcd b a)<|oN (zhA e c d)<|cond (zcC e c d) (oN (zdg (zcs e c d).Guests)<|oN (inb a<|ln f.Mons)<|share (up f.Mons a ({ (ix f.Mons a zh) with Guests:=(zdX (zcs e c d).Guests)}:Mon)) λg=>oN (inb a<|ln g)<|share (up g a ({ (ix g a zh) with Pending:=(zcs e c d).Pending}:Mon)) λh=>some [aH ({f with Mons:=h}:Host),aB<|zcC e c d])<|some [aH f,aB<|zcC e c d])
def zI7 (a:Host)(c d e:Int)(j:zla a c d e=true):∃N,zyl N a c d e=some [aH<|ze3 a c d e,aB<|zfG a c d e]:=by
 have g:=(zS a).1 (zM.1 j);refine⟨0,?_⟩;have i:=zpA (h:=a) (m:=c) (cB:=zhA (zC a c) d e) (B:=zcs (zC a c) d e) (ok:=zcC (zC a c) d e) (o0:=λH=>[.agg<|zbd H,.one<|.b false]) (o1:=λH=>[.agg<|zbd H,.one<|.b<|zcC (zC a c) d e]) g
  (λf=>zbh (zeT g (zbr.1 f).2)) (λf=>zAK _ _ (zeT g (zbr.1 f).2)) (λf k=>(congrArg (zcK a c)<|zYt _ _ k).trans (zlp (zbr.1 f).2))
 refine(show zyl 0 a c d e=_ from i).trans ?_;unfold ze3 zfG zfJ zfi;cases zb1 a c<;>rfl
def zDo:vO 75 zlN:=kF4 zfk zn zbE zca (zo []) zI7
def zP5 {b:Bare}(g:Int)(x:Ctl)(a:SmB b):SmB (zdd b g x):=zpX a (zgx (b:=b) _ a)
def z6I {b:Bare}(g:Int)(x:Ctl)(a:zdn b g x=false):zdd b g x=b:=zvj a
def z7d {b c:Bare}(a:SameB b c)(h:Host)(m:Int)(g:Int)(x:Ctl):zcK h m (zdd b g x)=zcK h m (zdd c g x)/\zdn b g x=zdn c g x:=by have e:=a.at g;simp only[zdd,zdn,e];exact⟨zrG a _ _ _ _ _,znF a _ _⟩
@[simp] abbrev zoM (h:Host)(m:Int)(g:Int)(x:Ctl):Bool:=pc (zc8 h)
def zo8:Run:=rF4 dH dI dI dC λb c d e=>(zoM b c d e,[aH<|zhK b c d e,aB<|zhL b c d e])
def zGx (N:Nat)(f:Host)(b d:Int)(e:Ctl):OA:=
 let a:=zk f;let c:=ix a.Mons b zh; (oN (zT f)<|oN (zg5 a b)<|cond (nB<|zfp a b) (some [aH a,aB false])<|oN (inb b<|ln a.Mons)<|oN (zgb c)<|oN (zko (zb6 c) d e)<|oN (zga a b<|zdd (zb6 c) d e)<|some [aH<|zi2 a b<|zdd (zb6 c) d e,aB<|zdn (zb6 c) d e])
def zSV (a:Host)(c d:Int)(e:Ctl)(l:zoM a c d e=true):∃N,zGx N a c d e=some [aH<|zhK a c d e,aB<|zhL a c d e]:=by
 have g:=(zS a).1 (zM.1 l);refine⟨0,?_⟩;have i:=zpI (h:=a) (m:=c) (cB:=zko (zdM<|ix a.Mons c mZ) d e) (B:=zdd (zdM<|ix a.Mons c mZ) d e) (o0:=λH=>[.agg<|zbd H,.one<|.b false]) (o1:=λH=>[.agg<|zbd H,.one<|.b<|zdn (zdM<|ix a.Mons c mZ) d e]) g
  (λf=>zbh (zgj<|g.2.1.2 _<|zbO (zbr.1 f).2 _)) (λf=>zP5 _ _ (zgj<|g.2.1.2 _<|zbO (zbr.1 f).2 _))
 refine(show zGx 0 a c d e=_ from i).trans ?_;unfold zhK zhL zfJ zfi;cases f:zb1 a c;{rfl};{obtain⟨j,k⟩:=z7d (zlu f<|zpZ f) a c d e;simp only[cT];exact zuP j k}
def zLI:vO 292 zo8:=kF4 zfk zn zbE zca (zo []) zSV
def zGa (N:Nat)(b:Host)(a c:Int)(d:Ctl):OA:=
 let f:=zk b;let e:=zen b a; (oN (zT b)<|oN (zcm b)<|cond (nB<|zch b) (some [aH f,aB false])<|oN (zbg a<|ln b.Mons)<|cond (nB<|zcb a<|ln b.Mons) (some [aH f,aB false])<|oN (zcd b a)<|oN (zko e c d)<|cond (zdn e c d) (oN (zdg (zdd e c d).Guests)<|oN (inb a<|ln f.Mons)<|share (up f.Mons a ({ (ix f.Mons a zh) with Guests:=(zdX (zdd e c d).Guests)}:Mon)) λg=>oN (inb a<|ln g)<|share (up g a ({ (ix g a zh) with Pending:=(zdd e c d).Pending}:Mon)) λh=>some [aH ({f with Mons:=h}:Host),aB<|zdn e c d])<|some [aH f,aB<|zdn e c d])
def zSA (a:Host)(c d:Int)(e:Ctl)(j:zoM a c d e=true):∃N,zGa N a c d e=some [aH<|zhK a c d e,aB<|zhL a c d e]:=by
 have g:=(zS a).1 (zM.1 j);refine⟨0,?_⟩;have i:=zpA (h:=a) (m:=c) (cB:=zko (zC a c) d e) (B:=zdd (zC a c) d e) (ok:=zdn (zC a c) d e) (o0:=λH=>[.agg<|zbd H,.one<|.b false]) (o1:=λH=>[.agg<|zbd H,.one<|.b<|zdn (zC a c) d e]) g
  (λf=>zbh (zeT g (zbr.1 f).2)) (λf=>zP5 _ _ (zeT g (zbr.1 f).2)) (λf k=>(congrArg (zcK a c)<|z6I _ _ k).trans (zlp (zbr.1 f).2))
 refine(show zGa 0 a c d e=_ from i).trans ?_;unfold zhK zhL zfJ zfi;cases zb1 a c<;>rfl
def zLp:vO 76 zo8:=kF4 zfk zn zbE zca (zo []) zSA
def zJH {b:Bare}(n:Int)(a:SmB b):SmB (zdq b n):=z4S a
def z4g {b:Bare}(n:Int)(a:zdL b n=false):zdq b n=b:=z4u a
def z4J {b c:Bare}(f:SameB b c)(h:Host)(m n:Int):zcK h m (zdq b n)=zcK h m (zdq c n)/\zdL b n=zdL c n:=by obtain⟨a,d,e⟩:=z4v f n;exact⟨back_eq a d,e⟩
@[simp] abbrev znh (h:Host)(m:Int)(n:Int):Bool:=pc (zc8 h)
def zn1:Run:=rF3 dH dI dI λb c d=>(znh b c d,[aH<|zf4 b c d,aB<|zgZ b c d])
def zCI (N:Nat)(e:Host)(b d:Int):OA:=
 let a:=zk e;let c:=ix a.Mons b zh; (oN (zT e)<|oN (zg5 a b)<|cond (nB<|zfp a b) (some [aH a,aB false])<|oN (inb b<|ln a.Mons)<|oN (zgb c)<|oN (zeE (zb6 c) d)<|oN (zga a b<|zdq (zb6 c) d)<|some [aH<|zi2 a b<|zdq (zb6 c) d,aB<|zdL (zb6 c) d])
def zPE (a:Host)(c d:Int)(k:znh a c d=true):∃N,zCI N a c d=some [aH<|zf4 a c d,aB<|zgZ a c d]:=by
 have f:=(zS a).1 (zM.1 k);refine⟨0,?_⟩;have g:=zpI (h:=a) (m:=c) (cB:=zeE (zdM<|ix a.Mons c mZ) d) (B:=zdq (zdM<|ix a.Mons c mZ) d) (o0:=λH=>[.agg<|zbd H,.one<|.b false]) (o1:=λH=>[.agg<|zbd H,.one<|.b<|zdL (zdM<|ix a.Mons c mZ) d]) f
  (λe=>zbh (zgj<|f.2.1.2 _<|zbO (zbr.1 e).2 _)) (λe=>zJH _ (zgj<|f.2.1.2 _<|zbO (zbr.1 e).2 _))
 refine(show zCI 0 a c d=_ from g).trans ?_;unfold zf4 zgZ zfJ zfi;cases e:zb1 a c;{rfl};{obtain⟨i,j⟩:=z4J (zlu e<|zpZ e) a c d;simp only[cT];exact zuP i j}
def zII:vO 295 zn1:=kF3 zfk zn zbE zca (zo []) zPE
def zCk (N:Nat)(b:Host)(a c:Int):OA:=
 let e:=zk b;let d:=zen b a; (oN (zT b)<|oN (zcm b)<|cond (nB<|zch b) (some [aH e,aB false])<|oN (zbg a<|ln b.Mons)<|cond (nB<|zcb a<|ln b.Mons) (some [aH e,aB false])<|oN (zcd b a)<|oN (zeE d c)<|cond (zdL d c) (oN (zdg (zdq d c).Guests)<|oN (inb a<|ln e.Mons)<|share (up e.Mons a ({ (ix e.Mons a zh) with Guests:=(zdX (zdq d c).Guests)}:Mon)) λf=>oN (inb a<|ln f)<|share (up f a ({ (ix f a zh) with Pending:=(zdq d c).Pending}:Mon)) λg=>some [aH ({e with Mons:=g}:Host),aB<|zdL d c])<|some [aH e,aB<|zdL d c])
def zPj (a:Host)(c d:Int)(i:znh a c d=true):∃N,zCk N a c d=some [aH<|zf4 a c d,aB<|zgZ a c d]:=by
 have f:=(zS a).1 (zM.1 i);refine⟨0,?_⟩;have g:=zpA (h:=a) (m:=c) (cB:=zeE (zC a c) d) (B:=zdq (zC a c) d) (ok:=zdL (zC a c) d) (o0:=λH=>[.agg<|zbd H,.one<|.b false]) (o1:=λH=>[.agg<|zbd H,.one<|.b<|zdL (zC a c) d]) f
  (λe=>zbh (zeT f (zbr.1 e).2)) (λe=>zJH _ (zeT f (zbr.1 e).2)) (λe j=>(congrArg (zcK a c)<|z4g _ j).trans (zlp (zbr.1 e).2))
 refine(show zCk 0 a c d=_ from g).trans ?_;unfold zf4 zgZ zfJ zfi;cases zb1 a c<;>rfl
def zIl:vO 79 zn1:=kF3 zfk zn zbE zca (zo []) zPj
def zP4 {b:Bare}(a:SmB b):SmB (zdm b):=z7i a
def z6H {b:Bare}(a:zdE b=false):zdm b=b:=z5h a
def z7c {b c:Bare}(g:SameB b c)(h:Host)(m:Int):zcK h m (zdm b)=zcK h m (zdm c)/\zeq b=zeq c/\zdE b=zdE c:=by obtain⟨a,d,e,f⟩:=z5i g;exact⟨back_eq a d,e,f⟩
def zo7:Run:=rF2 dH dI λb c=>(zcd b c,[aH<|zgH b c,aI<|zhI b c,aB<|zhJ b c])
def zGv (N:Nat)(d:Host)(b:Int):OA:=
 let a:=zk d;let c:=ix a.Mons b zh; (oN (zT d)<|oN (zg5 a b)<|cond (nB<|zfp a b) (some [aH a,aI<|-1,aB false])<|oN (inb b<|ln a.Mons)<|oN (zgb c)<|oN (zbp<|zb6 c)<|oN (zga a b<|zdm<|zb6 c)<|some [aH<|zi2 a b<|zdm<|zb6 c,aI<|zeq<|zb6 c,aB<|zdE<|zb6 c])
def zST (a:Host)(c:Int)(l:zcd a c=true):∃N,zGv N a c=some [aH<|zgH a c,aI<|zhI a c,aB<|zhJ a c]:=by
 have e:=(zS a).1 (zM.1 l);refine⟨0,?_⟩;have f:=zpI (h:=a) (m:=c) (cB:=zbp (zdM<|ix a.Mons c mZ)) (B:=zdm (zdM<|ix a.Mons c mZ)) (o0:=λH=>[.agg<|zbd H,.one<|.i .i64<|-1,.one<|.b false]) (o1:=λH=>[.agg<|zbd H,.one<|.i .i64<|zeq<|zdM<|ix a.Mons c mZ,.one<|.b<|zdE<|zdM<|ix a.Mons c mZ]) e
  (λd=>zbh (zgj<|e.2.1.2 _<|zbO (zbr.1 d).2 _)) (λd=>zP4 (zgj<|e.2.1.2 _<|zbO (zbr.1 d).2 _))
 refine(show zGv 0 a c=_ from f).trans ?_;unfold zgH zhI zhJ zfJ zfi;cases d:zb1 a c;{rfl};{obtain⟨g,j,k⟩:=z7c (zlu d<|zpZ d) a c;simp only[cT];exact z9S g j k}
def zLH:vO 296 zo7:=kF2 zfk zn zbE zca (zo []) zST
def zF8 (N:Nat)(c:Host)(a:Int):OA:=
 let d:=zk c;let b:=zen c a; (oN (zT c)<|oN (zcm c)<|cond (nB<|zch c) (some [aH d,aI<|-1,aB false])<|oN (zbg a<|ln c.Mons)<|cond (nB<|zcb a<|ln c.Mons) (some [aH d,aI<|-1,aB false])<|oN (zcd c a)<|oN (zbp b)<|cond (zdE b) (oN (zdg (zdm b).Guests)<|oN (inb a<|ln d.Mons)<|share (up d.Mons a ({ (ix d.Mons a zh) with Guests:=(zdX (zdm b).Guests)}:Mon)) λe=>oN (inb a<|ln e)<|share (up e a ({ (ix e a zh) with Pending:=(zdm b).Pending}:Mon)) λf=>some [aH ({d with Mons:=f}:Host),aI<|zeq b,aB<|zdE b])<|some [aH d,aI<|zeq b,aB<|zdE b])
def zSy (a:Host)(c:Int)(g:zcd a c=true):∃N,zF8 N a c=some [aH<|zgH a c,aI<|zhI a c,aB<|zhJ a c]:=by
 have e:=(zS a).1 (zM.1 g);refine⟨0,?_⟩;have f:=zpA (h:=a) (m:=c) (cB:=zbp (zC a c)) (B:=zdm (zC a c)) (ok:=zdE (zC a c)) (o0:=λH=>[.agg<|zbd H,.one<|.i .i64<|-1,.one<|.b false]) (o1:=λH=>[.agg<|zbd H,.one<|.i .i64<|zeq<|zC a c,.one<|.b<|zdE<|zC a c]) e
  (λd=>zbh (zeT e (zbr.1 d).2)) (λd=>zP4 (zeT e (zbr.1 d).2)) (λd j=>(congrArg (zcK a c)<|z6H j).trans (zlp (zbr.1 d).2))
 refine(show zF8 0 a c=_ from f).trans ?_;unfold zgH zhI zhJ zfJ zfi;cases zb1 a c<;>rfl
def zLn:vO 80 zo7:=kF2 zfk zn zbE zca (zo []) zSy
def z2R:zbf:=[(287,zpa),(71,zpa),(289,zlM),(73,zlM),(290,zlO),(74,zlO),(291,zlN),(75,zlN),(292,zo8),(76,zo8),(295,zn1),(79,zn1),(296,zo7),(80,zo7)]++z2Q
def zmQ:zU z2R:=zi zLL (zi zLr<|zi zDu<|zi zDn<|zi zDw<|zi zDp<|zi zDv<|zi zDo<|zi zLI<|zi zLp<|zi zII<|zi zIl<|zi zLH<|zi zLn zfk)
def zhD (h:Host)(m t:Int):Host:=bif zbQ h then (cond (hasB m<|ln h.Mons) (cond (zl t 0 3) {h with Mons:=up h.Mons m {ix h.Mons m mZ with Traps:=t}} h) h) else h
def zrp (h:Host)(m t:Int):Bool:=bif zbQ h then (cond (hasB m<|ln h.Mons) (zl t 0 3) false) else false
@[simp] abbrev znj (h:Host)(m t:Int):Bool:=pc (zc8 h)
@[simp] abbrev zie (h:Host)(m t:Int):Host:=zhD h m t
@[simp] abbrev zjv (h:Host)(m t:Int):Bool:=zrp h m t
def zn5:Run:=rF3 dH dI dI λb c d=>(znj b c d,[aH<|zie b c d,aB<|zjv b c d])
def zCM (N:Nat)(d:Host)(b c:Int):OA:=
 let a:=zk d; (oN (zT d)<|oN (zcm a)<|cond (nB<|zch a) (some [aH a,aB false])<|oN (zN b 0<|wsub .i64 (ln a.Mons) 1)<|cond (nB<|zl b 0<|wsub .i64 (ln a.Mons) 1) (some [aH a,aB false])<|oN (zN c 0 3)<|cond (nB<|zl c 0 3) (some [aH a,aB false])<|oN (inb b<|ln a.Mons)<|share (up a.Mons b ({ (ix a.Mons b zh) with Traps:=c}:Mon)) λe=>some [aH ({a with Mons:=e}:Host),aB true])
def zPI (a:Host)(b c:Int)(d:znj a b c=true):∃N,zCM N a b c=some [aH<|zie a b c,aB<|zjv a b c]:=by
 have g:=(zS a).1 (zM.1 d);refine⟨0,?_⟩;unfold zCM zie zjv zhD zrp oN nB;conv=>zeta
 refine must d (must rfl ?_);rw[show zch (zk a)=zbQ a from rfl];cases e:zbQ a;{rfl};{refine zcj rfl (must rfl ?_);rw[show zl b 0 (wsub .i64 (ln (zk a).Mons) 1)=hasB b (ln a.Mons) from zQv e b];cases f:hasB b (ln a.Mons);{rfl};{refine zcj rfl (must rfl ?_);rw[show zl c 0 3=zl c 0 3 from rfl];cases h:zl c 0 3;{rfl};{exact zcj rfl (must (zB f) rfl)}}}
def zIN:vO 329 zn5:=kF3 zmQ zn zbE zca (zo []) zPI
def zCq (N:Nat)(b:Host)(c d:Int):OA:=
 let a:=zk b; (oN (zT b)<|oN (zcm b)<|cond (nB<|zch b) (some [aH a,aB false])<|oN (zbg c<|ln b.Mons)<|cond (nB<|zcb c<|ln b.Mons) (some [aH a,aB false])<|oN (zN d 0 3)<|cond (nB<|zl d 0 3) (some [aH a,aB false])<|oN (inb c<|ln a.Mons)<|share (up a.Mons c ({ (ix a.Mons c zh) with Traps:=d}:Mon)) λe=>some [aH ({a with Mons:=e}:Host),aB true])
def zPp (a:Host)(b c:Int)(d:znj a b c=true):∃N,zCq N a b c=some [aH<|zie a b c,aB<|zjv a b c]:=by
 have g:=(zS a).1 (zM.1 d);refine⟨0,?_⟩;unfold zCq zie zjv zhD zrp oN nB;conv=>zeta
 refine must d (must rfl ?_);rw[show zch a=zbQ a from rfl];cases f:zbQ a;{rfl};{refine zcj rfl (must rfl ?_);rw[show zcb b (ln a.Mons)=hasB b (ln a.Mons) from rfl];cases e:hasB b (ln a.Mons);{rfl};{refine zcj rfl (must rfl ?_);rw[show zl c 0 3=zl c 0 3 from rfl];cases h:zl c 0 3;{rfl};{exact zcj rfl (must (zB e) rfl)}}}
def zIs:vO 85 zn5:=kF3 zmQ zn zbE zca (zo []) zPp
def ziR {h:Host}{m p:Int}:(zb3 h m p=true)↔zbQ h=true/\hasB m (ln h.Mons)=true/\hasB p 8=true:=by unfold zb3;cases zbQ h<;>cases hasB m (ln h.Mons)<;>simp
def zin (h:Host)(m p:Int):Bool:=ieq (ix (ix h.Mons m mZ).Outer p sZ).Page (-1)
def zk1 (h:Host)(m p:Int):Host:=bif zb3 h m p then (cond (zin h m p) h<|zex h m p) else h
def zto (h:Host)(m p:Int):Bool:=bif zb3 h m p then !zin h m p else false
def zm7 (h:Host)(m p:Int):Host:=bif zb3 h m p then (cond (zin h m p) (fetched h m p) h) else h
def zvK (h:Host)(m p:Int):Bool:=bif zb3 h m p then zin h m p else false
@[simp] abbrev ziW (h:Host)(m p:Int):Host:=zk1 h m p
@[simp] abbrev zkt (h:Host)(m p:Int):Bool:=zto h m p
@[simp] abbrev zkb (h:Host)(m p:Int):Host:=zm7 h m p
@[simp] abbrev zlS (h:Host)(m p:Int):Bool:=zvK h m p
def zMN {h:Host}(f:SmH h)(c:zbQ h=true){m p:Int}(d:hasB m (ln h.Mons)=true)(e:hasB p 8=true) :
 (cond (ieq (ix (ix h.Mons m mZ).Outer p sZ).Page<|-1) (ieq (ix (ix h.Mons m mZ).Outer p sZ).Rights 0) false)=zin h m p:=by
 have a:=(zuw (ziO c _<|zbO d mZ) e).no;unfold zdv at a;unfold zin;rw[<- a];cases b:ieq (ix (ix h.Mons m mZ).Outer p sZ).Page (-1)<;>simp [noSlot,b]
def zw2 {h:Host}(d:SmH h)(a:zbQ h=true){m p:Int}(b:hasB m (ln h.Mons)=true)(c:hasB p 8=true):inb p (ln (ix h.Mons m mZ).Outer)=true :=
 zB (by rw[ln,((zfA d a).1.2 _ (zbO b mZ)).1];exact c)
def zpc:Run:=rF3 dH dI dI λb c d=>(ze8 b c d,[aH<|ziW b c d,aB<|zkt b c d])
def zGE (N:Nat)(e:Host)(c b:Int):OA:=
 let a:=zk e;let d:=(ix a.Mons c zh).Outer; (oN (zT e)<|oN (ziZ a c b)<|cond (nB<|zdV a c b) (some [aH a,aB false])<|oN (inb c<|ln a.Mons)<|oN (inb b<|ln d)<|oN zbS<|cond (cond (ieq (ix d b zV).Page zbl.Page) (ieq (ix d b zV).Rights zbl.Rights) false) (some [aH a,aB false])<|oN (zke a c b)<|some [aH<|znr a c b,aB true])
def zS1 (a:Host)(b c:Int)(h:ze8 a b c=true):∃N,zGE N a b c=some [aH<|ziW a b c,aB<|zkt a b c]:=by
 have g:=(zS a).1 (zM.1 h);refine⟨0,?_⟩;unfold zGE ziW zkt zk1 zto oN nB;conv=>zeta
 refine must h (must rfl ?_);rw[show zdV (zk a) b c=zb3 a b c from rfl];cases i:zb3 a b c;{rfl};{obtain⟨e,d,f⟩:=ziR.1 i;refine zcj rfl (must (zB d)<|must (zw2 g e d f) (must rfl ?_));rw[show (cond (ieq (ix (ix (zk a).Mons b zh).Outer c zV).Page zbl.Page) (ieq (ix (ix (zk a).Mons b zh).Outer c zV).Rights zbl.Rights) false)=zin a b c from zMN g e d f];cases j:zin a b c;{exact zcj rfl (must (zbh ⟨(zfA g e).1,d,f⟩) rfl)};{rfl}}
def zLP:vO 326 zpc:=kF3 zmQ zn zbE zca (zo []) zS1
def zGe (N:Nat)(a:Host)(b c:Int):OA:=
 let d:=(ix a.Mons b zh).Outer; (oN (zT a)<|oN (ziZ a b c)<|cond (nB<|zdV a b c) (some [aH<|zk a,aB false])<|oN (inb b<|ln a.Mons)<|oN (inb c<|ln d)<|cond (ieq (ix d c zV).Page<|-1) (some [aH<|zk a,aB false])<|oN (zke (zk a) b c)<|some [aH<|znr (zk a) b c,aB true])
def zSE (a:Host)(b c:Int)(e:ze8 a b c=true):∃N,zGe N a b c=some [aH<|ziW a b c,aB<|zkt a b c]:=by
 have h:=(zS a).1 (zM.1 e);refine⟨0,?_⟩;unfold zGe ziW zkt zk1 zto oN nB;conv=>zeta
 refine must e (must rfl ?_);rw[show zdV a b c=zb3 a b c from rfl];cases i:zb3 a b c;{rfl};{obtain⟨f,d,g⟩:=ziR.1 i;refine zcj rfl (must (zB d)<|must (zw2 h f d g) ?_);rw[show ieq (ix (ix a.Mons b zh).Outer c zV).Page (-1)=zin a b c from rfl];cases j:zin a b c;{exact zcj rfl (must (zbh ⟨(zfA h f).1,d,g⟩) rfl)};{rfl}}
def zLu:vO 83 zpc:=kF3 zmQ zn zbE zca (zo []) zSE
def zqG:Run:=rF3 dH dI dI λb c d=>(ze8 b c d,[aH<|zkb b c d,aB<|zlS b c d])
def zKo (N:Nat)(e:Host)(c b:Int):OA:=
 let a:=zk e;let d:=(ix a.Mons c zh).Outer; (oN (zT e)<|oN (ziZ a c b)<|cond (nB<|zdV a c b) (some [aH a,aB false])<|oN (inb c<|ln a.Mons)<|oN (inb b<|ln d)<|oN zbS<|cond (nB<|cond (ieq (ix d b zV).Page zbl.Page) (ieq (ix d b zV).Rights zbl.Rights) false) (some [aH a,aB false])<|oN (zlt a c b)<|some [aH<|zmt a c b,aB true])
def zVG (a:Host)(b c:Int)(h:ze8 a b c=true):∃N,zKo N a b c=some [aH<|zkb a b c,aB<|zlS a b c]:=by
 have g:=(zS a).1 (zM.1 h);refine⟨0,?_⟩;unfold zKo zkb zlS zm7 zvK oN nB;conv=>zeta
 refine must h (must rfl ?_);rw[show zdV (zk a) b c=zb3 a b c from rfl];cases i:zb3 a b c;{rfl};{obtain⟨e,d,f⟩:=ziR.1 i;refine zcj rfl (must (zB d)<|must (zw2 g e d f) (must rfl ?_));rw[show (cond (ieq (ix (ix (zk a).Mons b zh).Outer c zV).Page zbl.Page) (ieq (ix (ix (zk a).Mons b zh).Outer c zV).Rights zbl.Rights) false)=zin a b c from zMN g e d f];cases j:zin a b c;{rfl};{exact zcj rfl (must (zbh ⟨zfA g e,d,f⟩) rfl)}}
def zOI:vO 327 zqG:=kF3 zmQ zn zbE zca (zo []) zVG
def zJ0 (N:Nat)(a:Host)(b c:Int):OA:=
 let d:=(ix a.Mons b zh).Outer; (oN (zT a)<|oN (ziZ a b c)<|cond (nB<|zdV a b c) (some [aH<|zk a,aB false])<|oN (inb b<|ln a.Mons)<|oN (inb c<|ln d)<|cond (ine (ix d c zV).Page<|-1) (some [aH<|zk a,aB false])<|oN (zlt (zk a) b c)<|some [aH<|zmt (zk a) b c,aB true])
def zVk (a:Host)(b c:Int)(e:ze8 a b c=true):∃N,zJ0 N a b c=some [aH<|zkb a b c,aB<|zlS a b c]:=by
 have h:=(zS a).1 (zM.1 e);refine⟨0,?_⟩;unfold zJ0 zkb zlS zm7 zvK oN nB;conv=>zeta
 refine must e (must rfl ?_);rw[show zdV a b c=zb3 a b c from rfl];cases i:zb3 a b c;{rfl};{obtain⟨f,d,g⟩:=ziR.1 i;refine zcj rfl (must (zB d)<|must (zw2 h f d g) ?_);rw[show ine (ix (ix a.Mons b zh).Outer c zV).Page (-1) = !zin a b c from zjP _ _];cases j:zin a b c;{rfl};{exact zcj rfl (must (zbh ⟨zfA h f,d,g⟩) rfl)}}
def zOg:vO 84 zqG:=kF3 zmQ zn zbE zca (zo []) zVk
def z2S:zbf:=[(329,zn5),(85,zn5),(326,zpc),(83,zpc),(327,zqG),(84,zqG)]++z2R
def zC7:zU z2S:=zi zIN (zi zIs<|zi zLP<|zi zLu<|zi zOI<|zi zOg zmQ)
def z2k {x:Mon}{b:Bare}(h:zfz x)(a:zmK b.Guests):zfz (zoY x b):=⟨h.1,h.2.1,h.2.2.1,a,h.2.2.2.2⟩
def zAM {h:Host}{m:Int}{b:Bare}(a:SmH h)(d:hasB m (ln h.Mons)=true)(c:zmK b.Guests):SmH (zcK h m b):=
 ⟨a.1,zkf a.2.1<|z2k (a.2.1.2 _<|zbO d _) c,a.2.2⟩
def zHL {h:Host}{m:Int}(b:Bare)(a:hasB m (ln h.Mons)=true):hasB m (ln (zcK h m b).Mons)=true:=by show hasB m (ln<|up h.Mons m _)=true;rw[ln,zgA];exact a
def z9J {h:Host}{m:Int}(b:Bare)(c:hasB m (ln h.Mons)=true):ix (zcK h m b).Mons m mZ=zoY (ix h.Mons m mZ) b:=by obtain⟨k,rfl,a⟩:=zeH (n:=h.Mons.length) c;exact zd6 a _ _
def zyD (h:Host)(m g p:Int):Host:=⟨h.Memory,up h.Mons m {ix h.Mons m mZ with Tables:=up (ix h.Mons m mZ).Tables g (zce (ix (ix h.Mons m mZ).Tables g kZ) p)},zde h.Buffer (zeU m g) p,zde h.IoBuffer (zeU m g) p⟩
def z3t (H:Host)(m g p:Int)(o:Host->Ans):OA:=
 bif inb m (ln H.Mons) then (bif inb m (ln H.Mons) then (bif inb g (ln (ix H.Mons m mZ).Tables) then (bif zc6 (ix (ix H.Mons m mZ).Tables g kZ) p then (bif inb g (ln (ix H.Mons m mZ).Tables) then (share (up H.Mons m {ix H.Mons m mZ with Tables:=up (ix H.Mons m mZ).Tables g (zce (ix (ix H.Mons m mZ).Tables g kZ) p)}) λx=>
  (cond (zif m g) (cond (zea H.Buffer (zeU m g) p) (cond (zif m g) (cond (zea H.IoBuffer (zeU m g) p) (some<|o ⟨H.Memory,x,zde H.Buffer (zeU m g) p,zde H.IoBuffer (zeU m g) p⟩) none) none) none) none)) else none) else none) else none) else none) else none
def zRg {H:Host}{m g p:Int}{o:Host->Ans}(b:SmH H)(a:hasB m (ln H.Mons)=true)(hg:hasB g (ln (ix H.Mons m mZ).Tables)=true):z3t H m g p o=some (o<|zyD H m g p):=by have c:=b.2.1.2 _ (zbO a mZ);unfold z3t;exact must (zB a) (must (zB a)<|must (zB hg)<|must (zbh<|c.2.2.2.2.2.2 _<|zbO hg _)<|must (zB hg)<|shr (must rfl (must (zbh b.2.2.1) (must rfl (must (zbh b.2.2.2) rfl)))))
def zh2 (h:Host)(m g p:Int):Host:=bif zb1 h m then (cond (zb5 (zC h m) g<|hasB p 4) (zyD (zcK h m<|chg (zC h m) g (hasB p 4)<|zey (gAt (zC h m) g) p) m g p) h) else h
@[simp] abbrev zmc (h:Host)(m g p:Int):Bool:=pc (zc8 h)
@[simp] abbrev zhh (h:Host)(m g p:Int):Host:=zh2 h m g p
def zYU {h:Host}{m:Int}(a:hasB m (ln h.Mons)=true):(zC h m).Guests=(ix h.Mons m mZ).Guests:=by unfold zC;rw[a];rfl
def zDf {h:Host}{m g:Int}{k:Bool}(i:SmH h)(e:zb1 h m=true)(b:Bare)(a:zb5 (zC h m) g k=true):hasB g (ln (ix (zcK h m b).Mons m mZ).Tables)=true:=by obtain⟨f,c⟩:=zbr.1 e;rw[z9J b c];show hasB g (ln (ix h.Mons m mZ).Tables)=true;rw[ln,((zfA i f).1.2 _ (zbO c mZ)).2.2.2,<- zYU c];unfold zb5 at a;cases d:zb2 (zC h m) g;{rw [d]at a;cases a};{exact(zeM.1 d).2}
def zmG:Run:=rF4 dH dI dI dI λb c d e=>(zmc b c d e,[aH<|zhh b c d e,aB<|zge b c d e])
def zBd (N:Nat)(i:Host)(a b c:Int):OA:=
 let h:=zle a b;let e:=zk i;let g:=ix e.Mons a zh;let d:=zi2 e a<|zdi (zb6 g) b c;let f:=ix d.Mons a zh;let j:=ix f.Tables b zeL; (oN (zT i)<|oN (zg5 e a)<|cond (nB<|zfp e a) (some [aH e,aB false])<|oN (inb a<|ln e.Mons)<|oN (zgb g)<|oN (zma (zb6 g) b c)<|cond (nB<|zeY (zb6 g) b c) (some [aH e,aB false])<|oN (zga e a<|zdi (zb6 g) b c)<|oN (inb a<|ln d.Mons)<|oN (inb a<|ln d.Mons)<|oN (inb b<|ln f.Tables)<|oN (zc6 j c)<|oN (inb b<|ln f.Tables)<|share (up d.Mons a ({f with Tables:=(up f.Tables b<|zeJ j c)}:Mon)) λk=>oN (zif a b)<|oN (zea d.Buffer h c)<|oN (zif a b)<|oN (zea d.IoBuffer h c)<|some [aH (⟨d.Memory,k,zfv d.Buffer h c,zfv d.IoBuffer h c⟩:Host),aB true])
def zME (a:Host)(c d e:Int)(j:zbX big [aH a,aI c,aI d,aI e])(q:zmc a c d e=true):∃N,zBd N a c d e=some [aH<|zhh a c d e,aB<|zge a c d e]:=by
 have k:=(zS a).1 (zM.1 q);refine⟨0,?_⟩;unfold zBd zhh zge zh2 zfi oN nB;conv=>zeta
 refine must q (must rfl ?_);rw[show zfp (zk a) c=zb1 a c from rfl];cases h:zb1 a c;{rfl};{obtain⟨v,f⟩:=zbr.1 h;have r:=k.2.1.2 _ (zbO f mZ);have l:=zgj r;have i:=zlu h (zpZ h);have u:zb5 (zdM<|ix a.Mons c mZ) d (hasB e 4)=zb5 (zC a c) d (hasB e 4):=znF i _ _;have s:zcK a c (zdi (zdM<|ix a.Mons c mZ) d e)=zcK a c (chg (zC a c) d (hasB e 4)<|zey (gAt (zC a c) d) e):=(by rw[<- i.at];exact zrG i _ _ _ _ _);refine zcj rfl (must (zB f)<|must (zbh r)<|must (zbh l) ?_);rw[show zeY (zb6<|ix (zk a).Mons c zh) d e=zb5 (zC a c) d (hasB e 4) from u];cases t:zb5 (zC a c) d (hasB e 4);{rfl};{have j:SmB (zdi (zdM<|ix a.Mons c mZ) d e):=zpX l (zuM _<|zgx _ l);refine zcj rfl (must (zbh ⟨f,j.2.1⟩) ?_);have n:=zRg (H:=zcK a c (zdi (zdM<|ix a.Mons c mZ) d e)) (m:=c) (g:=d) (p:=e) (o:=λH=>[.agg<|zbd H,.one<|.b true]) (zAM k f j.2.1) (zHL _ f) (zDf k h _ t);refine(show _=_ from n).trans ?_;rw[s];rfl}}
def zFr:vO 288 zmG:=hF4 zC7 zn zbE zca (zo []) zME
def zA1 (N:Nat)(e:Host)(a d c:Int):OA:=
 let l:=zif a d;let m:=zdi (zen e a) d c;let f:=zle a d;let b:=zk e;let n:=inb a<|ln b.Mons;let g:=zeY (zen e a) d c;let h:=ix b.Mons a zh;let q:=ix h.Tables d zeL; (oN (zT e)<|oN (zcm e)<|cond (nB<|zch e) (some [aH b,aB false])<|oN (zbg a<|ln e.Mons)<|cond (nB<|zcb a<|ln e.Mons) (some [aH b,aB false])<|oN (zcd e a)<|oN (zma (zen e a) d c)<|cond g (oN (zdg m.Guests)<|oN n<|share (up b.Mons a ({h with Guests:=(zdX m.Guests)}:Mon)) λi=>oN (inb a<|ln i)<|share (up i a ({ (ix i a zh) with Pending:=m.Pending}:Mon)) (λj=>let k:=ix j a zh;let p:=ix k.Tables d zeL; (cond g (oN (inb a<|ln j)<|oN (inb a<|ln j)<|oN (inb d<|ln k.Tables)<|oN (zc6 p c)<|oN (inb d<|ln k.Tables)<|share (up j a ({k with Tables:=(up k.Tables d<|zeJ p c)}:Mon)) λr=>oN l<|oN (zea b.Buffer f c)<|oN l<|oN (zea b.IoBuffer f c)<|some [aH (⟨b.Memory,r,zfv b.Buffer f c,zfv b.IoBuffer f c⟩:Host),aB g])<|some [aH ({b with Mons:=j}:Host),aB g])))<|cond g (oN n<|oN n<|oN (inb d<|ln h.Tables)<|oN (zc6 q c)<|oN (inb d<|ln h.Tables)<|share (up b.Mons a ({h with Tables:=(up h.Tables d<|zeJ q c)}:Mon)) λi=>oN l<|oN (zea b.Buffer f c)<|oN l<|oN (zea b.IoBuffer f c)<|some [aH (⟨b.Memory,i,zfv b.Buffer f c,zfv b.IoBuffer f c⟩:Host),aB g])<|some [aH b,aB g])
def zMs (a:Host)(c d e:Int)(h:zbX big [aH a,aI c,aI d,aI e])(i:zmc a c d e=true):∃N,zA1 N a c d e=some [aH<|zhh a c d e,aB<|zge a c d e]:=by
 have k:=(zS a).1 (zM.1 i);refine⟨0,?_⟩;unfold zA1 zhh zge zh2 zfi oN nB;conv=>zeta
 refine must i (must rfl ?_);rw[show zch a=zbQ a from rfl];cases j:zbQ a;{unfold zb1;rw[j];rfl};{refine zcj rfl (must rfl ?_);rw[show zcb c (ln a.Mons)=hasB c (ln a.Mons) from rfl];cases f:hasB c (ln a.Mons);{unfold zb1;rw[j,f];rfl};{have q:zb1 a c=true:=zbr.2 ⟨j,f⟩;have l:=zeT k f;have h:SmB (zdi (zC a c) d e):=zpX l (zuM _<|zgx _ l);rw[q];refine zcj rfl (must i<|must (zbh l) ?_);rw[show zeY (zen a c) d e=zb5 (zC a c) d (hasB e 4) from rfl];cases t:zb5 (zC a c) d (hasB e 4);{rfl};{obtain⟨r,s⟩:=zNE f (zdi (zC a c) d e);refine must rfl (must (zbh h.2.1)<|must (zB f)<|shr<|must r<|shr ?_);rw[show zh=mZ from rfl,s];have n:=zRg (H:=zcK a c (zdi (zC a c) d e)) (m:=c) (g:=d) (p:=e) (o:=λH=>[.agg<|zbd H,.one<|.b true]) (zAM k f h.2.1) (zHL _ f) (zDf k q _ t);exact must rfl (show _=_ from n)}}}
def zFg:vO 72 zmG:=hF4 zC7 zn zbE zca (zo []) zMs
def z2T:zbf:=[(288,zmG),(72,zmG)]++z2S
def zC8:zU z2T:=zi zFr (zi zFg zC7)
def zWr (h:Host)(m p c v:Int):Host:={mended h m p 2 with Memory:=zbT (mended h m p 2).Memory (ix (ix (mended h m p 2).Mons m mZ).Outer p sZ).Page c v}
def zdk (h:Host)(m p c v:Int):Bool:=bif zb3 h m p then (cond (hasB c 4) (zl v 0 99) false) else false
def zjh (h:Host)(m p c v:Int):Host:=bif zdk h m p c v then zWr h m p c v else h
@[simp] abbrev zng (h:Host)(m p c v:Int):Bool:=pc (zc8 h)
@[simp] abbrev zjr (h:Host)(m p c v:Int):Host:=zjh h m p c v
@[simp] abbrev zjs (h:Host)(m p c v:Int):Bool:=zdk h m p c v
def z9u (H:Host)(m p c v:Int)(o:Host->Ans):OA:=
 bif zgN H m p 2 then (cond (inb m<|ln (mended H m p 2).Mons) (cond (inb p<|ln (ix (mended H m p 2).Mons m mZ).Outer) (cond (zei (mended H m p 2).Memory (ix (ix (mended H m p 2).Mons m mZ).Outer p sZ).Page c v) (some<|o<|zWr H m p c v) none) none) none) else none
def zWq {h:Host}{m p c v:Int}{o:Host->Ans}(j:SmH h)(i:zb3 h m p=true):z9u h m p c v o=some (o<|zWr h m p c v):=by obtain⟨g,b,a⟩:=ziR.1 i;have f:=zfA j g;obtain⟨d,e⟩:=zv9 (n:=2) f b a;unfold z9u;refine must (zbh ⟨f,b,a,.inr rfl,zuw (ziO g _<|zbO b mZ) a⟩) (must (zB e)<|must (zB ?_) (must (zbh d.1.1) rfl));rw[ln,(d.2 _<|zbO e mZ).1];exact a
def zn0:Run:=rF5 dH dI dI dI dI λb c d e f=>(zng b c d e f,[aH<|zjr b c d e f,aB<|zjs b c d e f])
def zCH (N:Nat)(g:Host)(b c:Int)(e f:Int):OA:=
 let a:=zk g;let d:=zgw a b c 2;let h:=(ix d.Mons b zh).Outer;let i:=(ix h c zV).Page; (oN (zT g)<|oN (ziZ a b c)<|cond (nB<|zdV a b c) (some [aH a,aB false])<|oN (zN e 0 3)<|cond (nB<|zl e 0 3) (some [aH a,aB false])<|oN (zN f 0 99)<|cond (nB<|zl f 0 99) (some [aH a,aB false])<|oN (zgN a b c 2)<|oN (inb b<|ln d.Mons)<|oN (inb c<|ln h)<|oN (zei d.Memory i e f)<|some [aH ({d with Memory:=(zeG d.Memory i e f)}:Host),aB true])
def zPD (d:Host)(f g:Int)(a e:Int)(i:zng d f g a e=true):∃N,zCH N d f g a e=some [aH<|zjr d f g a e,aB<|zjs d f g a e]:=by
 have k:=(zS d).1 (zM.1 i);refine⟨0,?_⟩;unfold zCH zjr zjs zjh zdk oN nB;conv=>zeta
 refine must i (must rfl ?_);rw[show zdV (zk d) f g=zb3 d f g from rfl];cases j:zb3 d f g;{rfl};{refine zcj rfl (must rfl ?_);rw[show zl a 0 3=hasB a 4 from zbce a];cases l:hasB a 4;{rfl};{refine zcj rfl (must rfl ?_);rw[show zl e 0 99=zl e 0 99 from rfl];cases m:zl e 0 99;{rfl};{have h:=zWq (c:=a) (v:=e) (o:=λH=>[.agg<|zbd H,.one<|.b true]) k j;exact zcj rfl (show _=_ from h)}}}
def zIH:vO 294 zn0:=kF5 zC8 zn zbE zca (zo []) zPD
def z4t {h:Host}{m p c v:Int}(a:hasB m (ln h.Mons)=true):zcK h m (zo2 (zC h m) p c v)=h:=by have e:zcK h m (zo2 (zC h m) p c v)=zcK h m (zC h m):=(by refine back_eq ?_ ?_<;>unfold zo2<;>cases zk2 (zC h m) p c v<;>rfl);rw[e];exact zlp a
def zbaM {h:Host}{m p c v:Int}(a:zbQ h=true)(b:hasB m (ln h.Mons)=true):zk2 (zC h m) p c v=zdk h m p c v:=by unfold zk2 zdk zMW zb3;rw[zsi a b,a,b];cases hasB p 8<;>rfl
def zCj (N:Nat)(c:Host)(a b:Int)(e f:Int):OA:=
 let l:=zh3 (zen c a) b e f;let d:=zk c;let i:=zgw d a b 2;let n:=(ix i.Mons a zh).Outer;let q:=(ix n b zV).Page;let g:=zkU (zen c a) b e f; (oN (zT c)<|oN (zcm c)<|cond (nB<|zch c) (some [aH d,aB false])<|oN (zbg a<|ln c.Mons)<|cond (nB<|zcb a<|ln c.Mons) (some [aH d,aB false])<|oN (zcd c a)<|oN (zvB (zen c a) b e f)<|cond g (oN (zdg l.Guests)<|oN (inb a<|ln d.Mons)<|share (up d.Mons a ({ (ix d.Mons a zh) with Guests:=(zdX l.Guests)}:Mon)) λj=>oN (inb a<|ln j)<|share (up j a ({ (ix j a zh) with Pending:=l.Pending}:Mon)) (λr=>let k:=({d with Mons:=r}:Host);let h:=zgw k a b 2;let m:=(ix h.Mons a zh).Outer;let p:=(ix m b zV).Page; (cond g (oN (zgN k a b 2)<|oN (inb a<|ln h.Mons)<|oN (inb b<|ln m)<|oN (zei h.Memory p e f)<|some [aH ({h with Memory:=(zeG h.Memory p e f)}:Host),aB g])<|some [aH k,aB g])))<|cond g (oN (zgN d a b 2)<|oN (inb a<|ln i.Mons)<|oN (inb b<|ln n)<|oN (zei i.Memory q e f)<|some [aH ({i with Memory:=(zeG i.Memory q e f)}:Host),aB g])<|some [aH d,aB g])
def zPi (a:Host)(d e:Int)(f g:Int)(p:zbX big [aH a,aI d,aI e,aI f,aI g])(k:zng a d e f g=true):∃N,zCj N a d e f g=some [aH<|zjr a d e f g,aB<|zjs a d e f g]:=by
 have q:=(zS a).1 (zM.1 k);refine⟨0,?_⟩;unfold zCj zjr zjs zjh oN nB;conv=>zeta
 refine must k (must rfl ?_);rw[show zch a=zbQ a from rfl];cases m:zbQ a;{unfold zdk zb3;rw[m];rfl};{refine zcj rfl (must rfl ?_);rw[show zcb d (ln a.Mons)=hasB d (ln a.Mons) from rfl];cases h:hasB d (ln a.Mons);{unfold zdk zb3;rw[m,h];rfl};{have i:=zeT q h;have p:SmB (zh3 (zC a d) e f g):=(by show SmB (zo2 _ _ _ _);unfold zo2;cases zk2 (zC a d) e f g;{exact i};{exact⟨zwd i.1,i.2⟩});refine zcj rfl (must k<|must (zbh i) ?_);rw[show zkU (zen a d) e f g=zdk a d e f g from zbaM m h];cases l:zdk a d e f g;{rfl};{have t:zb3 a d e=true:=(by unfold zdk at l;cases u:zb3 a d e;{rw [u]at l;cases l};{rfl});obtain⟨r,s⟩:=zNE h (zh3 (zC a d) e f g);refine must rfl (must (zbh p.2.1)<|must (zB h)<|shr<|must r<|shr ?_);rw[show zh=mZ from rfl,s];have j:({zk a with Mons:=up (zk a).Mons d (zoY (ix (zk a).Mons d mZ)<|zh3 (zC a d) e f g)}:Host)=a:=z4t h;have n:=zWq (c:=f) (v:=g) (o:=λH=>[.agg<|zbd H,.one<|.b true]) q t;refine must rfl ?_;rw[j];exact(show _=_ from n)}}}
def zIk:vO 78 zn0:=hF5 zC8 zn zbE zca (zo []) zPi
def z2U:zbf:=[(294,zn0),(78,zn0)]++z2T
def zQ3:zU z2U:=zi zIH (zi zIk zC8)
@[simp] abbrev zqi (h:Host)(m g b a:Int):Host:=(lookOf h h.IoBuffer m g b a true).1
@[simp] abbrev zkW (h:Host)(m g b a:Int):Int:=(lookOf h h.IoBuffer m g b a true).2.1
@[simp] abbrev zkX (h:Host)(m g b a:Int):Bool:=(lookOf h h.IoBuffer m g b a true).2.2
def zze:Run:=rF5 dH dI dI dI dI λb c d e f=>(zlD b c d e f,[aH<|zqi b c d e f,aI<|zkW b c d e f,aB<|zkX b c d e f])
def zCn (N:Nat)(a:Host)(b c:Int)(d e:Int):OA:=
 (oN (zus a b c d e true)<|some [aH<|zup a b c d e true,aI<|zuq a b c d e true,aB<|zur a b c d e true])
def zPm (a:Host)(b c:Int)(d e:Int)(f:zlD a b c d e=true):∃N,zCn N a b c d e=some [aH<|zqi a b c d e,aI<|zkW a b c d e,aB<|zkX a b c d e]:=by refine⟨0,?_⟩;unfold zCn oN;exact must f rfl
def zIo:vO 167 zze:=kF5 zQ3 zn zbE zca (zo []) zPm
def z2V:zbf:=[(167,zze)]++z2U
def zs6:zU z2V:=zi zIo zQ3
def zMH (h:Host)(b:List Entry)(m g c a:Int)(e:Bool):(lookOf h b m g c a e).2.2=zbY h m g c a:=by cases d:zbY h m g c a;{rw [zja d]};{rw [zJk d];unfold zhH zfE;generalize zjN b m g c a=x;cases x;{generalize zfq _ m g c a=y;cases y<;>rfl};{rfl}}
def zZE {h:Host}{m g c a:Int}(b:List Entry)(i:Bool)(f:SmH h)(d:zbY h m g c a=true):SmM (lookOf h b m g c a i).1.Memory:=by have hg:zb8 h m g=true:=(by unfold zbY at d;cases e:zb8 h m g;{rw [e]at d;cases d};{rfl});exact(zuW f hg).shape.1.1
def zDB (h:Host)(m g a n:Int):Host×Int×Bool:=lookOf h h.IoBuffer m g (zbj a) n true
def zgm (h:Host)(m g a v:Int):Bool:=bif zl a 0 15 then (cond (zl v 0 99) (zbY h m g (zbj a) 2) false) else false
def zkS (h:Host)(m g a v:Int):Host:=bif zgm h m g a v then { (zDB h m g a 2).1 with Memory:=zbT (zDB h m g a 2).1.Memory (zDB h m g a 2).2.1 (zd7 a) v} else h
def zfB (h:Host)(m g a:Int):Bool:=bif zl a 0 15 then zbY h m g (zbj a) 1 else false
def zji (h:Host)(m g a:Int):Host:=bif zfB h m g a then (zDB h m g a 1).1 else h
def zmW (h:Host)(m g a:Int):Int:=bif zfB h m g a then cellAt (zDB h m g a 1).1.Memory (zDB h m g a 1).2.1 (zd7 a) else 0
@[simp] abbrev zoN (h:Host)(m g a v:Int):Bool:=pc (zc8 h)
@[simp] abbrev zkq (h:Host)(m g a v:Int):Host:=zkS h m g a v
@[simp] abbrev zkr (h:Host)(m g a v:Int):Bool:=zgm h m g a v
@[simp] abbrev zni (h:Host)(m g a:Int):Bool:=pc (zc8 h)
@[simp] abbrev zic (h:Host)(m g a:Int):Host:=zji h m g a
@[simp] abbrev zjt (h:Host)(m g a:Int):Int:=zmW h m g a
@[simp] abbrev zju (h:Host)(m g a:Int):Bool:=zfB h m g a
def zo9:Run:=rF5 dH dI dI dI dI λb c d e f=>(zoN b c d e f,[aH<|zkq b c d e f,aB<|zkr b c d e f])
def zGy (N:Nat)(g:Host)(c d:Int)(a e:Int):OA:=
 let b:=zk g;let h:=zmu b b.IoBuffer c d (zby a) 2 true;let f:=zgP b b.IoBuffer c d (zby a) 2 true; (oN (zT g)<|oN (zN a 0 15)<|cond (nB<|zl a 0 15) (some [aH b,aB false])<|oN (zN e 0 99)<|cond (nB<|zl e 0 99) (some [aH b,aB false])<|oN (zbP a)<|oN (zmv b b.IoBuffer c d (zby a) 2 true)<|cond (nB<|zi1 b b.IoBuffer c d (zby a) 2 true) (some [aH f,aB false])<|oN (zbP a)<|oN (zei f.Memory h (zc5 a) e)<|some [aH ({f with Memory:=(zeG f.Memory h (zc5 a) e)}:Host),aB true])
def zSW (a:Host)(c d:Int)(b e:Int)(f:zoN a c d b e=true):∃N,zGy N a c d b e=some [aH<|zkq a c d b e,aB<|zkr a c d b e]:=by
 have h:=(zS a).1 (zM.1 f);refine⟨0,?_⟩;unfold zGy zkq zkr zkS zgm oN nB;conv=>zeta
 refine must f (must rfl ?_);rw[show zl b 0 15=zl b 0 15 from rfl];cases i:zl b 0 15;{rfl};{refine zcj rfl (must rfl ?_);rw[show zl e 0 99=zl e 0 99 from rfl];cases j:zl e 0 99;{rfl};{refine zcj rfl (must rfl (must f ?_));rw[show zi1 (zk a) (zk a).IoBuffer c d (zby b) 2 true=zbY a c d (zbj b) 2 from zMH _ _ _ _ _ _ _];cases g:zbY a c d (zbj b) 2;{rw [show zgP (zk a) (zk a).IoBuffer c d (zby b) 2 true=a from congrArg Prod.fst (zja g)];rfl};{exact zcj rfl (must rfl (must (zbh<|zZE a.IoBuffer true h g) rfl))}}}
def zLJ:vO 297 zo9:=kF5 zs6 zn zbE zca (zo []) zSW
def zGb (N:Nat)(a:Host)(c d:Int)(b e:Int):OA:=
 let f:=zqi a c d (zby b) 2; (oN (zbP b)<|oN (zlD a c d (zby b) 2)<|oN (zN b 0 15)<|cond (nB<|zl b 0 15) (oN (zT a)<|some [aH<|zk a,aB false])<|oN (zN e 0 99)<|cond (nB<|zl e 0 99) (oN (zT a)<|some [aH<|zk a,aB false])<|cond (nB<|zkX a c d (zby b) 2) (oN (zT a)<|some [aH<|zk a,aB false])<|oN (zbP b)<|oN (zei f.Memory (zkW a c d (zby b) 2) (zc5 b) e)<|some [aH ({f with Memory:=(zeG f.Memory (zkW a c d (zby b) 2) (zc5 b) e)}:Host),aB true])
def zSB (b:Host)(c d:Int)(a e:Int)(f:zoN b c d a e=true):∃N,zGb N b c d a e=some [aH<|zkq b c d a e,aB<|zkr b c d a e]:=by
 have h:=(zS b).1 (zM.1 f);refine⟨0,?_⟩;unfold zGb zkq zkr zkS zgm oN nB;conv=>zeta
 refine must rfl (must f (must rfl ?_));rw[show zl a 0 15=zl a 0 15 from rfl];cases i:zl a 0 15;{exact must rfl (must f rfl)};{refine zcj rfl (must rfl ?_);rw[show zl e 0 99=zl e 0 99 from rfl];cases j:zl e 0 99;{exact must rfl (must f rfl)};{refine zcj rfl ?_;rw[show zkX b c d (zby a) 2=zbY b c d (zbj a) 2 from zMH _ _ _ _ _ _ _];cases g:zbY b c d (zbj a) 2;{exact must rfl (must f rfl)};{exact zcj rfl (must rfl (must (zbh<|zZE b.IoBuffer true h g) rfl))}}}
def zLq:vO 81 zo9:=kF5 zs6 zn zbE zca (zo []) zSB
def zn2:Run:=rF4 dH dI dI dI λb c d e=>(zni b c d e,[aH<|zic b c d e,aI<|zjt b c d e,aB<|zju b c d e])
def zCJ (N:Nat)(f:Host)(c d a:Int):OA:=
 let b:=zk f;let g:=zmu b b.IoBuffer c d (zby a) 1 true;let e:=zgP b b.IoBuffer c d (zby a) 1 true; (oN (zT f)<|oN (zN a 0 15)<|cond (nB<|zl a 0 15) (some [aH b,aI 0,aB false])<|oN (zbP a)<|oN (zmv b b.IoBuffer c d (zby a) 1 true)<|cond (nB<|zi1 b b.IoBuffer c d (zby a) 1 true) (some [aH e,aI 0,aB false])<|oN (zbP a)<|oN (zfM e.Memory g<|zc5 a)<|some [aH e,aI<|zgV e.Memory g<|zc5 a,aB true])
def zPF (a:Host)(c d b:Int)(e:zni a c d b=true):∃N,zCJ N a c d b=some [aH<|zic a c d b,aI<|zjt a c d b,aB<|zju a c d b]:=by
 have h:=(zS a).1 (zM.1 e);refine⟨0,?_⟩;unfold zCJ zic zjt zju zji zmW zfB oN nB;conv=>zeta
 refine must e (must rfl ?_);rw[show zl b 0 15=zl b 0 15 from rfl];cases g:zl b 0 15;{rfl};{refine zcj rfl (must rfl (must e ?_));rw[show zi1 (zk a) (zk a).IoBuffer c d (zby b) 1 true=zbY a c d (zbj b) 1 from zMH _ _ _ _ _ _ _];cases f:zbY a c d (zbj b) 1;{rw [show zgP (zk a) (zk a).IoBuffer c d (zby b) 1 true=a from congrArg Prod.fst (zja f)];rfl};{exact zcj rfl (must rfl (must rfl rfl))}}
def zIJ:vO 298 zn2:=kF4 zs6 zn zbE zca (zo []) zPF
def zCl (N:Nat)(b:Host)(c d a:Int):OA:=
 let e:=zqi b c d (zby a) 1; (oN (zbP a)<|oN (zlD b c d (zby a) 1)<|oN (zN a 0 15)<|cond (nB<|zl a 0 15) (oN (zT b)<|some [aH<|zk b,aI 0,aB false])<|cond (nB<|zkX b c d (zby a) 1) (oN (zT b)<|some [aH<|zk b,aI 0,aB false])<|oN (zbP a)<|oN (zfM e.Memory (zkW b c d (zby a) 1)<|zc5 a)<|some [aH e,aI<|zgV e.Memory (zkW b c d (zby a) 1)<|zc5 a,aB true])
def zPk (b:Host)(c d a:Int)(e:zni b c d a=true):∃N,zCl N b c d a=some [aH<|zic b c d a,aI<|zjt b c d a,aB<|zju b c d a]:=by
 have h:=(zS b).1 (zM.1 e);refine⟨0,?_⟩;unfold zCl zic zjt zju zji zmW zfB oN nB;conv=>zeta
 refine must rfl (must e (must rfl ?_));rw[show zl a 0 15=zl a 0 15 from rfl];cases f:zl a 0 15;{exact must rfl (must e rfl)};{refine zcj rfl ?_;rw[show zkX b c d (zby a) 1=zbY b c d (zbj a) 1 from zMH _ _ _ _ _ _ _];cases g:zbY b c d (zbj a) 1;{exact must rfl (must e rfl)};{exact zcj rfl (must rfl (must rfl rfl))}}
def zIm:vO 82 zn2:=kF4 zs6 zn zbE zca (zo []) zPk
def z2W:zbf:=[(297,zo9),(81,zo9),(298,zn2),(82,zn2)]++z2V
def z2X:zU z2W:=zi zLJ (zi zLq<|zi zIJ<|zi zIm zs6)
def z2Y:zbf:=[(311,zr3),(258,znZ)]++z2W
def zQ4:zU z2Y:=zi zvz (zi zpv z2X)
def zmq:Kept:=⟨rp 4 false,znu⟩
@[simp] abbrev zx2 (n:Int):Bool:=ieq n 4
@[simp] abbrev zxs (n:Int):Kept:=zmq
def zBE:Run:=rF1 dI λb=>(zx2 b,[aT .kept<|zxs b])
def zXE (N:Nat)(b:Int):OA:=
 let a:=ln<|ziM b; (oN (zld b)<|oN (cond (few a) (ieq a a) false)<|some [aT .kept (⟨rp a false,ziM b⟩:Kept)])
def zS0 (a:Int)(b:zx2 a=true):∃N,zXE N a=some [aT .kept<|zxs a]:=by refine⟨0,?_⟩;have h:a=4:=qD b;subst h;change _=_;kernel_rfl
def zLN:vO 325 zBE:=kF1 zQ4 zn zbE zca (zo []) zS0
def z2Z:zbf:=[(325,zBE)]++z2Y
def zQ5:zU z2Z:=zi zLN zQ4
def zwb:List Slot:=List.replicate 8 ⟨-1,0⟩
def ziB (a:List (List Ins)):Mon:=⟨zwb,zPR,rp 8 false,(a.take 2).map zgi,[],0,0,(a.take 2).map λ_=>zmq,0⟩
def zMI {d a b q:Type}(m:Nat)(f:d->a)(g:d->b)(K:List a×List b->Option q):∀(l:List d) (i:Nat) (u:List a×List b),u.1.length+l.length<=2147483648->u.2.length+l.length<=2147483648->
 goL (λ(i:Nat) x (u:List a×List b) k=>bif ilt (i:Int) (m:Int) then (cond (few<|ln<|ap u.1 [f x]) (cond (few<|ln<|ap u.2 [g x]) (k (ap u.1 [f x],ap u.2 [g x])) none) none) else K u) K l i u=K (u.1++(l.take<|m-i).map f,u.2++(l.take<|m-i).map g)
 |[],i,u,_,_=>by simp[goL]
 |x::l,i,u,n,p=>by simp only[jB]at n p;have e:few (ln<|ap u.1 [f x])=true:=ziA (by simp[ap];omega);have j:few (ln<|ap u.2 [g x])=true:=ziA (by simp[ap];omega);by_cases h:i<m;{have c:ilt (i:Int) (m:Int)=true:=qJ (by omega);simp only[goL,c,e,j,cT];rw[zMI m f g K l (i+1) _ (by simp[ap];omega) (by simp[ap];omega)];rw[show m-i=m-(i+1)+1 by omega];simp[ap]};{have c:ilt (i:Int) (m:Int)=false:=qH (by omega);simp only[goL,c,cF];rw[show m-i=0 by omega];simp}
def z4c (u:List Guest×List Kept):OA:=some [AV.agg<|Ty.cells .mon (⟨zwb,zPR,rp 8 false,u.1,[],0,0,u.2,0⟩:Mon)]
@[simp] abbrev zuG (a:List (List Ins)):Bool:=pc (SmPs a)
@[simp] abbrev zJC (a:List (List Ins)):Mon:=ziB a
def zD8:Run:=rF1 (dS<|.sl .ins) λb=>(zuG b,[aT .mon<|zJC b])
def zKl (N:Nat)(k:lP):OA:=
 (oN (zld 8)<|oN (zqX 8)<|oN (cond (few 8) (ieq 8 8) false)<|iter (σ:=(Int×Int×Int×Int×Int×Int×Int×lP×lS×lM×lB×lG×LI×lK×lS×lM×lB×lG×LI×lK×Unit)) N (λl a=>let j:=a.2.2.2.2.2.2.2.2.2.2.2.2.2.2.1;let i:=a.2.2.2.2.2.2.2.2.2.2.2.2.2.2.2.1;let h:=a.2.2.2.2.2.2.2.2.2.2.2.2.2.2.2.2.1;let g:=a.2.2.2.2.2.2.2.2.2.2.2.2.2.2.2.2.2.1;let f:=a.2.2.2.2.2.2.2.2.2.2.2.2.2.2.2.2.2.2.1;let b:=a.2.2.2.2.2.2.2.1;let c:=a.2.2.2.2.2.2.2.2.2.2.2.2.2.2.2.2.2.2.2.1;let e:=ap g [zcY<|ix b a.1 []];let d:=aT .mon (⟨j,i,h,g,f,a.2.2.2.2.1,a.2.2.2.2.2.1,c,a.2.2.2.2.2.2.1⟩:Mon); (cond (ilt a.1<|ln b) (cond (ilt a.1 2) (oN (inb a.1<|ln b)<|oN (zk8<|ix b a.1 [])<|oN (few<|ln e)<|oN (zx2 4)<|oN (few<|ln<|ap c [zxs 4])<|l (zQ .i64 a.1 1,a.2.1,a.2.2.1,a.2.2.2.1,a.2.2.2.2.1,a.2.2.2.2.2.1,a.2.2.2.2.2.2.1,b,a.2.2.2.2.2.2.2.2.1,a.2.2.2.2.2.2.2.2.2.1,a.2.2.2.2.2.2.2.2.2.2.1,a.2.2.2.2.2.2.2.2.2.2.2.1,a.2.2.2.2.2.2.2.2.2.2.2.2.1,a.2.2.2.2.2.2.2.2.2.2.2.2.2.1,j,i,h,e,f,ap c [zxs 4],()))<|some [d])<|some [d])) (0,0,0,0,0,0,0,k,[],[],[],[],[],[],ziM 8,zlQ 8,rp 8 false,[],[],[],()))
def zXl:=zo [(282,0,{n:=36,tm:=[(0,.sl 0 []),(2,.lp 0 0),(3,.lp 1 0),(4,ti)],lo:=[(0,[.sl 1 [],.sl 2 [],.sl 3 [],.sl 4 [],.sl 5 [],ti,ti,.sl 6 [],ti]),(1,[.sl 7 [],.sl 8 [],.sl 9 [],.sl 10 [],.sl 11 [],ti,ti,.sl 12 [],ti])],ro:=[(0,.sl .ins,false),(1,.slot,true),(2,.sl .int,true),(3,.bool,true),(4,.guest,true),(5,.int,true),(6,.kept,true),(7,.slot,true),(8,.sl .int,true),(9,.bool,true),(10,.guest,true),(11,.int,true),(12,.kept,true)]})]
def zVE (a:List lI)(f:zuG a=true):∃N,zKl N a=some [aT .mon<|zJC a]:=by
 have e:=zM.1 f;have c:=zda e.1;refine zcy λN d=>?_;unfold zKl oN;conv=>zeta
 refine must rfl (must rfl (must rfl ?_));refine(zbq a (λi (t:lG×lK)=>((i:Int),0,0,0,0,0,0,a,[],[],[],[],[],[],ziM 8,zlQ 8,rp 8 false,t.1,[],t.2,())) _ (λi (x:List Ins) (u:List Guest×List Kept) h=>bif ilt (i:Int) ((2:Nat):Int) then (cond (few<|ln<|ap u.1 [zgi x]) (cond (few<|ln<|ap u.2 [zmq]) (h (ap u.1 [zgi x],ap u.2 [zmq])) none) none) else z4c u) (λ(t:lG×lK)=>some [.agg<|Ty.cells .mon (⟨ziM 8,zlQ 8,rp 8 false,t.1,[],0,0,t.2,0⟩:Mon)]) (λi b t rec=>?_) (λt rec=>?_) _ ([],[])<|d c.1).trans ?_;{simp only [zbL b,zbn b,zbv b,zbi b c.1,cT];have g:zk8 a[i]=true:=zbh (e.2 _<|jI b);simp only[g,cT];rfl};{simp only [zbD,cF]};exact zMI 2 zgi (λ_=>zmq) z4c a 0 ([],[]) (by simpa using c.2) (by simpa using c.2)
def zOF:vO 282 zD8:=kF1 zQ5 zn zbE zca zXl zVE
def z3a:zbf:=[(282,zD8)]++z2Z
def zQ6:zU z3a:=zi zOF zQ5
def z1o:List LI:=List.replicate 12 [0,0,0,0]
def zg8 (a:List (List<|List Ins)):Host:=⟨z1o,(a.take 3).map ziB,[],[]⟩
def zKE (a:List (List<|List Ins)):Prop:=a.length<=1048576/\∀p∈a,SmPs p
@[simp] abbrev zx0 (a:List (List<|List Ins)):Bool:=pc (zKE a)
@[simp] abbrev ziV (a:List (List<|List Ins)):Host:=zg8 a
def zZz (t:List Mon):OA:=some [AV.agg<|zbd ⟨z1o,t,[],[]⟩]
def zBC:Run:=rF1 (dS<|.sl<|.sl .ins) λb=>(zx0 b,[aH<|ziV b])
def zGz (N:Nat)(d:lQ):OA:=
 (oN (zqX 12)<|iter (σ:=(Int×lQ×lM×lN×lE×lE×lM×lN×lE×lE×Unit)) N (λe a=>let c:=ap a.2.2.2.2.2.2.2.1 [zJC<|ix a.2.1 a.1 []];let b:=aH (⟨a.2.2.2.2.2.2.1,a.2.2.2.2.2.2.2.1,a.2.2.2.2.2.2.2.2.1,a.2.2.2.2.2.2.2.2.2.1⟩:Host); (cond (ilt a.1<|ln a.2.1) (cond (ilt a.1 3) (oN (inb a.1<|ln a.2.1)<|oN (zuG<|ix a.2.1 a.1 [])<|oN (few<|ln c)<|e (zQ .i64 a.1 1,a.2.1,a.2.2.1,a.2.2.2.1,a.2.2.2.2.1,a.2.2.2.2.2.1,a.2.2.2.2.2.2.1,c,a.2.2.2.2.2.2.2.2.1,a.2.2.2.2.2.2.2.2.2.1,()))<|some [b])<|some [b])) (0,d,[],[],[],[],zlQ 12,[],[],[],()))
def zTy:=zo [(201,0,{n:=28,tm:=[(0,.sl 0 []),(2,.lp 0 0),(3,.lp 1 0),(4,ti)],lo:=[(0,[.sl 1 [],.sl 2 [],.sl 3 [],.sl 4 []]),(1,[.sl 5 [],.sl 6 [],.sl 7 [],.sl 8 []])],ro:=[(0,.sl<|.sl .ins,false),(1,.sl .int,true),(2,.mon,true),(3,.entry,true),(4,.entry,true),(5,.sl .int,true),(6,.mon,true),(7,.entry,true),(8,.entry,true)]})]
def zSX (a:List lP)(f:zx0 a=true):∃N,zGz N a=some [aH<|ziV a]:=by
 have e:=zM.1 f;have d:=zda e.1;refine zcy λN c=>?_;unfold zGz oN;conv=>zeta
 refine must rfl ?_;refine(zbq a (λi (t:lN)=>((i:Int),a,[],[],[],[],zlQ 12,t,[],[],())) _ (λi (x:List lI) (t:List Mon) h=>bif ilt (i:Int) ((3:Nat):Int) then (cond (few<|ln<|ap t [ziB x]) (h<|ap t [ziB x]) none) else zZz t) (λ(t:lN)=>some [.agg<|zbd (⟨zlQ 12,t,[],[]⟩:Host)]) (λi b t rec=>?_) (λt rec=>?_) _ ([])<|c d.1).trans ?_;{simp only [zbL b,zbn b,zbv b,zbi b d.1,cT];have g:zuG a[i]=true:=zbh (e.2 _<|jI b);simp only[g,cT];rfl};{simp only [zbD,cF]};exact zRu 3 ziB zZz a 0 [] (by simpa using d.2)
def zLK:vO 201 zBC:=kF1 zQ6 zn zbE zca zTy zSX
def z3b:zbf:=[(201,zBC)]++z3a
def zC9:zU z3b:=zi zLK zQ6
def zi6:Nat->Nat->Kept->Kept
 | 0,_,k=>k
 |n+1,i,k=>zi6 n (i+1) (zce k (i:Int))
def ziH (k:Kept):Kept:=zi6 k.Known.length 0 k
def z0W (k:Kept)(p:Int):(zce k p).Known.length=k.Known.length:=by unfold zce;cases zd9 k p;{rfl};{exact zgA _ _ _}
def zsW:∀(n i:Nat) (k:Kept),SmK k->SmK (zi6 n i k)
 | 0,_,_,h=>h
 |n+1,i,k,h=>zsW n (i+1) _ (zon h)
@[simp] abbrev zoL (k:Kept):Kept:=ziH k
def zG5 {b d:Type}(K:List Bool×List Slot->Option d):∀(l:List b) (i:Nat) (k:Kept),SmK k->
 goL (λ(i:Nat) _ (t:List Bool×List Slot) c=>bif zc6 ⟨t.1,t.2⟩ (i:Int) then c ((zeJ ⟨t.1,t.2⟩ (i:Int)).Known,(zeJ ⟨t.1,t.2⟩ (i:Int)).Slots) else none) K l i (k.Known,k.Slots)=K ((zi6 l.length i k).Known,(zi6 l.length i k).Slots)
 |[],_,_,_=>rfl
 |x::l,i,k,h=>by have a:zc6 ⟨k.Known,k.Slots⟩ (i:Int)=true:=zbh h;simp only[goL,a,cT];exact zG5 K l (i+1) (zce k (i:Int)) (zon h)
def zmA:Run:=rF1 (dT .kept) λb=>(zee b,[aT .kept<|zoL b])
def zA0 (N:Nat)(b:Kept):OA:=
 (oN (zee b)<|iter (σ:=(Int×Int×lB×lS×lB×lS×Unit)) N (λd a=>let c:=(⟨a.2.2.2.2.1,a.2.2.2.2.2.1⟩:Kept); (cond (ilt a.2.1 a.1) (oN (zc6 c a.2.1)<|d (a.1,zQ .i64 a.2.1 1,a.2.2.1,a.2.2.2.1,(zeJ c a.2.1).Known,(zeJ c a.2.1).Slots,()))<|some [aT .kept c])) (ln b.Known,0,[],[],(zdl b).Known,(zdl b).Slots,()))
def zNx:=zo [(170,0,{n:=18,tm:=[(2,.lp 0 0),(3,.lp 1 0),(9,ti),(10,ti)],lo:=[(0,[.sl 0 [],.sl 1 []]),(1,[.sl 2 [],.sl 3 []])],ro:=[(0,.bool,true),(1,.slot,true),(2,.bool,true),(3,.slot,true)]})]
def zMr (a:Kept)(f:zee a=true):∃N,zA0 N a=some [aT .kept<|zoL a]:=by
 have d:=zM.1 f;have e:=zda d.1;refine zcy λN c=>?_;unfold zA0 oN;conv=>zeta
 refine must (zbh d) ?_;refine(zbq a.Known (λi (t:lB×lS)=>(ln a.Known,(i:Int),[],[],t.1,t.2,())) _ (λi (x:Bool) (t:List Bool×List Slot) g=>bif zc6 ⟨t.1,t.2⟩ (i:Int) then g ((zeJ ⟨t.1,t.2⟩ (i:Int)).Known,(zeJ ⟨t.1,t.2⟩ (i:Int)).Slots) else none) (λ(t:lB×lS)=>some [.agg<|Ty.cells .kept (⟨t.1,t.2⟩:Kept)]) (λi b t rec=>?_) (λt rec=>?_) _ ((zdl a).Known,(zdl a).Slots)<|c e.1).trans ?_;{simp only [zbL b,zbn b,zbv b,zbi b e.1,cT]};{simp only [zbD,cF]};exact zG5 _ a.Known 0 a d
def zFf:vO 170 zmA:=kF1 zC9 zn zbE zca zNx zMr
def zBc (N:Nat)(c:Kept):OA:=
 (oN (zhU c)<|iter (σ:=(Int×lB×lS×lB×lS×Unit)) N (λd a=>let b:=(⟨a.2.1,a.2.2.1⟩:Kept); (cond (ilt a.1<|ln a.2.1) (oN (zc6 b a.1)<|d (zQ .i64 a.1 1,(zeJ b a.1).Known,(zeJ b a.1).Slots,a.2.2.2.1,a.2.2.2.2.1,()))<|some [aT .kept b])) (0,(zeD c).Known,(zeD c).Slots,[],[],()))
def zNB:=zo [(363,0,{n:=17,tm:=[(1,.lp 0 0),(2,.lp 1 0),(3,ti)],lo:=[(0,[.sl 0 [],.sl 1 []]),(1,[.sl 2 [],.sl 3 []])],ro:=[(0,.bool,true),(1,.slot,true),(2,.bool,true),(3,.slot,true)]})]
def zMC (a:Kept)(g:zee a=true):∃N,zBc N a=some [aT .kept<|zoL a]:=by
 have d:=zM.1 g;have f:=zda d.1;refine zcy λN c=>?_;unfold zBc oN;conv=>zeta
 refine must (zbs<|(zyy _).2 d) ?_;refine(zrR a.Known.length (λi (k:Kept)=>((i:Int),k.Known,k.Slots,[],[],())) _ (λi k=>SmK k/\k.Known.length=a.Known.length) (λi k=>some [AV.agg<|Ty.cells .kept<|zi6 (a.Known.length-i) i k]) (λi k rec e b h=>?_) (λk rec b=>?_) N 0 a ⟨d,rfl⟩ (jX _)<|c f.1).trans rfl;{refine must (zbL (by rw[b.2];exact e)) (must (zbh b.1) ?_);have q:=h (zce k (i:Int)) ⟨zon b.1,by rw[z0W];exact b.2⟩;rw[show a.Known.length-i=a.Known.length-(i+1)+1 by omega];rw[zbi e f.1];exact q};{refine zcj (by show ilt (a.Known.length:Int) (ln k.Known)=false;rw[ln,b.2];exact qH (by omega)) ?_;rw[kT];rfl}
def zFq:vO 363 zmA:=kF1 zC9 zn zbE zca zNB zMC
def z3c:zbf:=[(363,zmA),(170,zmA)]++z3b
def zQ7:zU z3c:=zi zFq (zi zFf zC9)
def zww:Nat->Nat->List Kept->List Kept
 | 0,_,l=>l
 |n+1,j,l=>zww n (j+1) (up l (j:Int)<|ziH<|ix l (j:Int) kZ)
def zoZ (x:Mon)(n j:Nat):Mon:={x with Tables:=zww n j x.Tables}
def zlZ:Nat->Nat->List Mon->List Mon
 | 0,_,t=>t
 |n+1,i,t=>zlZ n (i+1) (up t (i:Int)<|zoZ (ix t (i:Int) mZ) (ix t (i:Int) mZ).Tables.length 0)
def cold (h:Host):Host:=⟨h.Memory,zlZ h.Mons.length 0 h.Mons,[],[]⟩
def zNk:∀(n j:Nat) (l:List Kept),j+n<=l.length->zCU l->zCU (zww n j l)
 | 0,_,_,_,h=>h
 |n+1,j,l,b,h=>by have a:j<l.length:=(by omega);refine zNk n (j+1) _ (by rw[zgA];omega) (zu4 h<|zsW _ _ _ ?_);rw[zbv a];exact h.2 _ (jI a)
def zAO {x:Mon}(h:zfz x){n j:Nat}(a:j+n<=x.Tables.length):zfz (zoZ x n j):=⟨h.1,h.2.1,h.2.2.1,h.2.2.2.1,h.2.2.2.2.1,zNk n j _ a h.2.2.2.2.2⟩
@[simp] abbrev zzn (h:Host):Host:=cold h
def zuB:Run:=rF1 dH λb=>(zT b,[aH<|zzn b])
def zT1 (N:Nat)(d:Host):OA:=
 (oN (zT d)<|iter (σ:=(Int×lM×lN×lE×lE×lM×lN×lE×lE×Unit)) N (λg b=>cond (ilt b.1<|ln b.2.2.1) (iter (σ:=(Int×Int×lM×lN×lE×lE×lM×lN×lE×lE×Unit)) N (λh a=>let e:=inb a.1<|ln a.2.2.2.1;let c:=ix a.2.2.2.1 a.1 zh;let f:=ix c.Tables a.2.1 zeL; (oN e<|cond (ilt a.2.1<|ln c.Tables) (oN e<|oN e<|oN (inb a.2.1<|ln c.Tables)<|oN (zee f)<|oN (inb a.2.1<|ln c.Tables)<|share (up a.2.2.2.1 a.1 ({c with Tables:=(up c.Tables a.2.1<|zoL f)}:Mon)) λi=>h (a.1,zQ .i64 a.2.1 1,a.2.2.1,i,a.2.2.2.2.1,a.2.2.2.2.2.1,a.2.2.2.2.2.2.1,a.2.2.2.2.2.2.2.1,a.2.2.2.2.2.2.2.2.1,a.2.2.2.2.2.2.2.2.2.1,()))<|g (zQ .i64 a.1 1,a.2.2.1,a.2.2.2.1,a.2.2.2.2.1,a.2.2.2.2.2.1,a.2.2.2.2.2.2.1,a.2.2.2.2.2.2.2.1,a.2.2.2.2.2.2.2.2.1,a.2.2.2.2.2.2.2.2.2.1,()))) (b.1,0,b.2.1,b.2.2.1,b.2.2.2.1,b.2.2.2.2.1,b.2.2.2.2.2.1,b.2.2.2.2.2.2.1,b.2.2.2.2.2.2.2.1,b.2.2.2.2.2.2.2.2.1,()))<|some [aH (⟨b.2.1,b.2.2.1,[],[]⟩:Host)]) (0,(zk d).Memory,(zk d).Mons,(zk d).Buffer,(zk d).IoBuffer,[],[],[],[],()))
def z2s:=zo [(330,0,{n:=48,tm:=[(1,.lp 0 0),(2,.lp 1 0),(3,ti)],lo:=[(0,[.sl 0 [],.sl 1 [],.sl 2 [],.sl 3 []]),(1,[.sl 4 [],.sl 5 [],.sl 6 [],.sl 7 []])],ro:=[(0,.sl .int,true),(1,.mon,true),(2,.entry,true),(3,.entry,true),(4,.sl .int,true),(5,.mon,true),(6,.entry,true),(7,.entry,true)]}),(330,2,{n:=48,tm:=[(1,.lp 0 0),(2,.lp 1 0),(3,ti),(4,ti)],lo:=[(0,[.sl 0 [],.sl 1 [],.sl 2 [],.sl 3 []]),(1,[.sl 4 [],.sl 5 [],.sl 6 [],.sl 7 []])],ro:=[(0,.sl .int,true),(1,.mon,true),(2,.entry,true),(3,.entry,true),(4,.sl .int,true),(5,.mon,true),(6,.entry,true),(7,.entry,true)]})]
def z1l (a:Host)(m:zT a=true):∃N,zT1 N a=some [aH<|zzn a]:=by
 have v:=(zS a).1 (zM.1 m);have s:=zda v.2.1.1;refine zcy λN f=>?_;unfold zT1 oN;conv=>zeta
 refine must m ?_;refine(zrR a.Mons.length (λi (t:List Mon)=>((i:Int),a.Memory,t,a.Buffer,a.IoBuffer,[],[],[],[],())) _ (λi t=>zp6 t/\t.length=a.Mons.length) (λi t=>some [AV.agg<|zbd ⟨a.Memory,zlZ (a.Mons.length-i) i t,[],[]⟩]) (λi t rec n e x=>?_) (λt rec e=>?_) N 0 a.Mons ⟨v.2.1,rfl⟩ (jX _)<|f s.1).trans rfl
 .have hit:i<t.length:=(by rw[e.2];exact n);have l:zfz (ix t (i:Int) mZ):=by rw[zbv hit];exact e.1.2 _ (jI hit)
  have r:=zda l.2.2.2.2.2.1;refine must (zbL hit) ?_;refine(zrR (ix t (i:Int) mZ).Tables.length (λj (u:List Mon)=>((i:Int),(j:Int),a.Memory,u,a.Buffer,a.IoBuffer,[],[],[],[],()))
   _ (λj u=>u.length=t.length/\zfz (ix u (i:Int) mZ)/\(ix u (i:Int) mZ).Tables.length=(ix t (i:Int) mZ).Tables.length)
   (λj u=>rec (((i+1:Nat):Int),a.Memory,up u (i:Int)<|zoZ (ix u (i:Int) mZ) ((ix t (i:Int) mZ).Tables.length-j) j,a.Buffer,a.IoBuffer,[],[],[],[],()))
   (λj u h p c k=>?_) (λu h c=>?_) N 0 t ⟨rfl,l,rfl⟩ (jX _) (f r.1)).trans ?_
  .have b:i<u.length:=(by rw[c.1];exact hit);have d:j<(ix u (i:Int) mZ).Tables.length:=(by rw[c.2.2];exact p);have g:SmK (ix (ix u (i:Int) mZ).Tables (j:Int) kZ):=by rw[zbv d];exact c.2.1.2.2.2.2.2.2 _ (jI d)
   refine must (zbn b) (must (zbL d)<|must (zbn b)<|must (zbn b)<|must (zbn d)<|must (zbh g)<|must (zbn d)<|shr ?_);have w:zfz {ix u (i:Int) mZ with Tables:=up (ix u (i:Int) mZ).Tables (j:Int) (ziH<|ix (ix u (i:Int) mZ).Tables (j:Int) kZ)} :=
    ⟨c.2.1.1,c.2.1.2.1,c.2.1.2.2.1,c.2.1.2.2.2.1,c.2.1.2.2.2.2.1,zu4 c.2.1.2.2.2.2.2<|zsW _ _ _ g⟩
   have q:=k (up u (i:Int) {ix u (i:Int) mZ with Tables:=up (ix u (i:Int) mZ).Tables (j:Int) (ziH<|ix (ix u (i:Int) mZ).Tables (j:Int) kZ)}) ⟨by rw[zgA];exact c.1,by rw[zd6 b];exact w,by rw[zd6 b];simp only[zgA];exact c.2.2⟩;rw[zbi p r.1];refine q.trans ?_;rw[zd6 b,zrq,show (ix t (i:Int) mZ).Tables.length-j=(ix t (i:Int) mZ).Tables.length-(j+1)+1 by omega];rfl
  {have b:i<u.length:=(by rw[c.1];exact hit);refine must (zbn b) (zcj (by show ilt ((ix t (i:Int) mZ).Tables.length:Int) (ln (ix u (i:Int) mZ).Tables)=false;rw[ln,c.2.2];exact qH (by omega)) ?_);rw[zbi n s.1,kT];show rec (_,a.Memory,u,_)=rec (_,a.Memory,up u (i:Int)<|ix u (i:Int) mZ,_);rw[zE8 b]};{have q:=x (up t (i:Int)<|zoZ (ix t (i:Int) mZ) (ix t (i:Int) mZ).Tables.length 0) ⟨zkf e.1<|zAO l (by omega),by rw[zgA];exact e.2⟩;refine q.trans ?_;rw[show a.Mons.length-i=a.Mons.length-(i+1)+1 by omega];rfl}
 {refine zcj (by show ilt (a.Mons.length:Int) (ln t)=false;rw[ln,e.2];exact qH (by omega)) ?_;rw[kT];rfl}
def zUZ:vO 330 zuB:=kF1 zQ7 zn zbE zca z2s z1l
def z3d:zbf:=[(330,zuB)]++z3c
def zQ8:zU z3d:=zi zUZ zQ7
def zTZ (N:Nat)(d:Host):OA:=
 (oN (zT d)<|iter (σ:=(Int×Int×lM×lN×lE×lE×lM×lN×lE×lE×Unit)) N (λk b=>let f:=b.2.2.2.2.2.2.2.1; (cond (ilt b.2.1 b.1) (oN (inb b.2.1<|ln f)<|iter (σ:=(Int×Int×Int×Int×Int×Int×lN×lM×lN×lE×lE×lM×lE×lE×Unit)) N (λl a=>let j:=a.2.2.2.2.2.2.2.2.2.2.2.2.1;let i:=a.2.2.2.2.2.2.2.2.2.2.2.2.2.1;let c:=a.2.2.2.2.2.1;let e:=a.2.2.2.2.2.2.1;let h:=ix e a.1 zh;let g:=(ix e a.2.2.2.1 zh).Tables; (cond (ilt c a.2.2.2.2.1) (oN (inb c<|ln g)<|oN (inb a.1<|ln e)<|oN (zee<|ix g c zeL)<|oN (inb c<|ln h.Tables)<|share (up e a.1 ({h with Tables:=(up h.Tables c<|zoL<|ix g c zeL)}:Mon)) λp=>l (a.1,a.2.1,a.2.2.1,a.2.2.2.1,a.2.2.2.2.1,zQ .i64 c 1,p,a.2.2.2.2.2.2.2.1,a.2.2.2.2.2.2.2.2.1,a.2.2.2.2.2.2.2.2.2.1,a.2.2.2.2.2.2.2.2.2.2.1,a.2.2.2.2.2.2.2.2.2.2.2.1,j,i,()))<|k (a.2.1,zQ .i64 a.2.2.1 1,a.2.2.2.2.2.2.2.1,a.2.2.2.2.2.2.2.2.1,a.2.2.2.2.2.2.2.2.2.1,a.2.2.2.2.2.2.2.2.2.2.1,a.2.2.2.2.2.2.2.2.2.2.2.1,e,j,i,()))) (b.2.1,b.1,b.2.1,b.2.1,ln (ix f b.2.1 zh).Tables,0,f,b.2.2.1,b.2.2.2.1,b.2.2.2.2.1,b.2.2.2.2.2.1,b.2.2.2.2.2.2.1,b.2.2.2.2.2.2.2.2.1,b.2.2.2.2.2.2.2.2.2.1,()))<|share [] λm=>share [] λn=>some [aH (⟨b.2.2.2.2.2.2.1,f,m,n⟩:Host)])) (ln (zk d).Mons,0,[],[],[],[],(zk d).Memory,(zk d).Mons,(zk d).Buffer,(zk d).IoBuffer,()))
def z2r:=zo [(86,0,{n:=42,tm:=[(2,.lp 0 0),(3,.lp 1 0),(11,ti),(12,ti)],lo:=[(0,[.sl 0 [],.sl 1 [],.sl 2 [],.sl 3 []]),(1,[.sl 4 [],.sl 5 [],.sl 6 [],.sl 7 []])],ro:=[(0,.sl .int,true),(1,.mon,true),(2,.entry,true),(3,.entry,true),(4,.sl .int,true),(5,.mon,true),(6,.entry,true),(7,.entry,true)]}),(86,2,{n:=42,tm:=[(2,.lp 0 0),(3,.lp 1 0),(4,ti),(11,ti),(12,ti),(20,.sl 0 [7]),(21,ti),(22,ti)],lo:=[(0,[.sl 1 [],.sl 2 [],.sl 3 [],.sl 4 []]),(1,[.sl 5 [],.sl 0 [],.sl 6 [],.sl 7 []])],ro:=[(0,.mon,true),(1,.sl .int,true),(2,.mon,true),(3,.entry,true),(4,.entry,true),(5,.sl .int,true),(6,.entry,true),(7,.entry,true)]})]
def z1h (a:Host)(p:zT a=true):∃N,zTZ N a=some [aH<|zzn a]:=by
 have v:=(zS a).1 (zM.1 p);have s:=zda v.2.1.1;refine zcy λN f=>?_;unfold zTZ oN;conv=>zeta
 refine must p ?_;refine(zrR a.Mons.length (λi (t:List Mon)=>(ln a.Mons,(i:Int),[],[],[],[],a.Memory,t,a.Buffer,a.IoBuffer,())) _ (λi t=>zp6 t/\t.length=a.Mons.length) (λi t=>some [AV.agg<|zbd ⟨a.Memory,zlZ (a.Mons.length-i) i t,[],[]⟩]) (λi t rec k e x=>?_) (λt rec e=>?_) N 0 a.Mons ⟨v.2.1,rfl⟩ (jX _)<|f s.1).trans rfl
 .have hit:i<t.length:=(by rw[e.2];exact k);have n:zfz (ix t (i:Int) mZ):=by rw[zbv hit];exact e.1.2 _ (jI hit)
  have r:=zda n.2.2.2.2.2.1;refine must (zbL k) (must (zbn hit) ?_);refine(zrR (ix t (i:Int) mZ).Tables.length (λj (u:List Mon)=>((i:Int),ln a.Mons,(i:Int),(i:Int),ln (ix t (i:Int) mZ).Tables,(j:Int),u,[],[],[],[],a.Memory,a.Buffer,a.IoBuffer,()))
   _ (λj u=>u.length=t.length/\zfz (ix u (i:Int) mZ)/\(ix u (i:Int) mZ).Tables.length=(ix t (i:Int) mZ).Tables.length)
   (λj u=>rec (ln a.Mons,((i+1:Nat):Int),[],[],[],[],a.Memory,up u (i:Int)<|zoZ (ix u (i:Int) mZ) ((ix t (i:Int) mZ).Tables.length-j) j,a.Buffer,a.IoBuffer,()))
   (λj u h l b m=>?_) (λu h b=>?_) N 0 t ⟨rfl,n,rfl⟩ (jX _) (f r.1)).trans ?_
  .have c:i<u.length:=(by rw[b.1];exact hit);have d:j<(ix u (i:Int) mZ).Tables.length:=(by rw[b.2.2];exact l);have g:SmK (ix (ix u (i:Int) mZ).Tables (j:Int) kZ):=by rw[zbv d];exact b.2.1.2.2.2.2.2.2 _ (jI d)
   refine must (zbL l) (must (zbn d)<|must (zbn c)<|must (zbh g)<|must (zbn d)<|shr ?_);have w:zfz {ix u (i:Int) mZ with Tables:=up (ix u (i:Int) mZ).Tables (j:Int) (ziH<|ix (ix u (i:Int) mZ).Tables (j:Int) kZ)} :=
    ⟨b.2.1.1,b.2.1.2.1,b.2.1.2.2.1,b.2.1.2.2.2.1,b.2.1.2.2.2.2.1,zu4 b.2.1.2.2.2.2.2<|zsW _ _ _ g⟩
   have q:=m (up u (i:Int) {ix u (i:Int) mZ with Tables:=up (ix u (i:Int) mZ).Tables (j:Int) (ziH<|ix (ix u (i:Int) mZ).Tables (j:Int) kZ)}) ⟨by rw[zgA];exact b.1,by rw[zd6 c];exact w,by rw[zd6 c];simp only[zgA];exact b.2.2⟩;rw[zbi l r.1];refine q.trans ?_;rw[zd6 c,zrq,show (ix t (i:Int) mZ).Tables.length-j=(ix t (i:Int) mZ).Tables.length-(j+1)+1 by omega];rfl
  {have c:i<u.length:=(by rw[b.1];exact hit);refine zcj (by show ilt ((ix t (i:Int) mZ).Tables.length:Int) (ln (ix t (i:Int) mZ).Tables)=false;exact qH (by simp only[ln];omega)) ?_;rw[zbi k s.1,kT];show rec _=rec (ln a.Mons,_,[],[],[],[],a.Memory,up u (i:Int)<|ix u (i:Int) mZ,_);rw[zE8 c]};{have q:=x (up t (i:Int)<|zoZ (ix t (i:Int) mZ) (ix t (i:Int) mZ).Tables.length 0) ⟨zkf e.1<|zAO n (by omega),by rw[zgA];exact e.2⟩;refine q.trans ?_;rw[show a.Mons.length-i=a.Mons.length-(i+1)+1 by omega];rfl}
 {refine zcj (by show ilt (a.Mons.length:Int) (ln a.Mons)=false;exact qH (by simp only[ln];omega)) ?_;rw[kT];rfl}
def zUU:vO 86 zuB:=kF1 zQ8 zn zbE zca z2r z1h
def z3e:zbf:=[(86,zuB)]++z3d
def zQ9:zU z3e:=zi zUU zQ8
def zBT:∀(n i:Nat) (t:List Mon),i+n<=t.length->zp6 t->zp6 (zlZ n i t)
 | 0,_,_,_,h=>h
 |n+1,i,t,b,h=>by have a:i<t.length:=(by omega);refine zBT n (i+1) _ (by rw[zgA];omega) (zkf h<|zAO ?_ (by omega));rw[zbv a];exact h.2 _ (jI a)
def z7m {h:Host}(a:SmH h):SmH (cold h):=⟨a.1,zBT _ _ _ (by omega) a.2.1,by simp[cold],by simp[cold]⟩
def zpE {h:Host}{m:Int}{b:Bare}(c:SmH h)(d:zb1 h m=true->SmB b):SmH (zfJ h m b):=by unfold zfJ;cases a:zb1 h m;{exact c};{exact zAM c (zbr.1 a).2 (d a).2.1}
def z4T {h:Host}{m g p:Int}(c:SmH h):SmH (zh2 h m g p):=by unfold zh2;cases e:zb1 h m;{exact c};{cases l:zb5 (zC h m) g (hasB p 4);{exact c};{have d:=(zbr.1 e).2;have f:=zeT c d;have k:SmB (chg (zC h m) g (hasB p 4)<|zey (gAt (zC h m) g) p):=zpX f (zuM _<|zgx _ f);have b:=zAM c d k.2.1;have i:=zHL (chg (zC h m) g (hasB p 4)<|zey (gAt (zC h m) g) p) d;have j:=zDf c e (chg (zC h m) g (hasB p 4)<|zey (gAt (zC h m) g) p) l;have a:=b.2.1.2 _ (zbO i mZ);simp only[cT];exact⟨b.1,zkf b.2.1 ⟨a.1,a.2.1,a.2.2.1,a.2.2.2.1,a.2.2.2.2.1,zu4 a.2.2.2.2.2<|zon<|a.2.2.2.2.2.2 _<|zbO j _⟩,qU (zz1 _ _ _) b.2.2.1,qU (zz1 _ _ _) b.2.2.2⟩}}
def z7n {h:Host}{m p c v:Int}(e:SmH h):SmH (zjh h m p c v):=by unfold zjh;cases a:zdk h m p c v;{exact e};{have f:zb3 h m p=true:=(by unfold zdk at a;cases b:zb3 h m p;{rw [b]at a;cases a};{rfl});obtain⟨g,i,b⟩:=ziR.1 f;have d:=(zv9 (n:=2) (zfA e g) i b).1.1;exact⟨zwd d.1,d.2⟩}
def zVV {h:Host}{m g c a:Int}(b:List Entry)(i:Bool)(f:SmH h)(d:zbY h m g c a=true):SmH (lookOf h b m g c a i).1:=by have hg:zb8 h m g=true:=(by unfold zbY at d;cases e:zb8 h m g;{rw [e]at d;cases d};{rfl});exact(zuW f hg).shape.1
def zba0 {h:Host}{m g a v:Int}(e:SmH h):SmH (zkS h m g a v):=by unfold zkS;cases b:zgm h m g a v;{exact e};{have f:zbY h m g (zbj a) 2=true:=(by unfold zgm at b;cases c:zl a 0 15;{rw [c]at b;cases b};{cases d:zl v 0 99;{rw [c,d]at b;cases b};{rw [c,d]at b;exact b}});have c:=zVV h.IoBuffer true e f;exact⟨zwd c.1,c.2⟩}
def z7o {h:Host}{m g a:Int}(d:SmH h):SmH (zji h m g a):=by unfold zji;cases b:zfB h m g a;{exact d};{have e:zbY h m g (zbj a) 1=true:=(by unfold zfB at b;cases c:zl a 0 15;{rw [c]at b;cases b};{rw [c]at b;exact b});exact zVV h.IoBuffer true d e}
def zba1 {h:Host}{m p:Int}(a:SmH h):SmH (zk1 h m p):=by unfold zk1;cases b:zb3 h m p;{exact a};{obtain⟨c,d,e⟩:=ziR.1 b;cases zin h m p;{exact(zNg (zfA a c).1 d).1};{exact a}}
def zbca {h:Host}{m p:Int}(a:SmH h):SmH (zm7 h m p):=by unfold zm7;cases b:zb3 h m p;{exact a};{obtain⟨c,d,e⟩:=ziR.1 b;cases zin h m p;{exact a};{exact(zmj (zfA a c) d e).1.1}}
def z4W {h:Host}{m t:Int}(a:SmH h):SmH (zhD h m t):=by unfold zhD;cases zbQ h;{exact a};{cases c:hasB m (ln h.Mons);{exact a};{cases zl t 0 3;{exact a};{have b:zfz (ix h.Mons m mZ):=a.2.1.2 _ (zbO c mZ);exact⟨a.1,zkf a.2.1 ⟨b.1,b.2.1,b.2.2.1,b.2.2.2.1,b.2.2.2.2.1,b.2.2.2.2.2⟩,a.2.2⟩}}}
def zgn (h:Host)(a:GAct):Host:=bif ieq a.Kind 1 then (zcz h a.M a.G).1 else (cond (ieq a.Kind 2) (zgI h a.M a.G a.X ⟨a.Y,a.Z⟩)<|cond (ieq a.Kind 3) (zh2 h a.M a.G a.X)<|cond (ieq a.Kind 4) (ze2 h a.M a.G a.X)<|cond (ieq a.Kind 5) (ze4 h a.M a.G)<|cond (ieq a.Kind 6) (ze3 h a.M a.G a.X)<|cond (ieq a.Kind 7) (zhK h a.M a.G ⟨a.X,a.Y,ieq a.Z 1⟩)<|cond (ieq a.Kind 8) (zjh h a.M a.X a.Y a.Z)<|cond (ieq a.Kind 9) (zf4 h a.M a.X)<|cond (ieq a.Kind 10) (zgH h a.M)<|cond (ieq a.Kind 11) (zkS h a.M a.G a.X a.Y)<|zji h a.M a.G a.X)
def zh4 (h:Host)(a:GAct):Told:=bif ieq a.Kind 1 then ⟨(zcz h a.M a.G).2,0⟩ else (cond (ieq a.Kind 2) ⟨zhM h a.M a.G a.X ⟨a.Y,a.Z⟩,0⟩<|cond (ieq a.Kind 3) ⟨zge h a.M a.G a.X,0⟩<|cond (ieq a.Kind 4) ⟨zfF h a.M a.G a.X,0⟩<|cond (ieq a.Kind 5) ⟨zfH h a.M a.G,0⟩<|cond (ieq a.Kind 6) ⟨zfG h a.M a.G a.X,0⟩<|cond (ieq a.Kind 7) ⟨zhL h a.M a.G ⟨a.X,a.Y,ieq a.Z 1⟩,0⟩<|cond (ieq a.Kind 8) ⟨zdk h a.M a.X a.Y a.Z,0⟩<|cond (ieq a.Kind 9) ⟨zgZ h a.M a.X,0⟩<|cond (ieq a.Kind 10) ⟨zhJ h a.M,zhI h a.M⟩<|cond (ieq a.Kind 11) ⟨zgm h a.M a.G a.X a.Y,0⟩<|⟨zfB h a.M a.G a.X,zmW h a.M a.G a.X⟩)
def ziC (h:Host)(a:GAct):Host:=bif ieq a.Kind 13 then zk1 h a.M a.X else (cond (ieq a.Kind 14) (zm7 h a.M a.X)<|cond (ieq a.Kind 15) (zeW h a.M a.X)<|cond (ieq a.Kind 16) (zhD h a.M a.X)<|cold h)
def zqn (h:Host)(a:GAct):Told:=bif ieq a.Kind 13 then ⟨zto h a.M a.X,0⟩ else (cond (ieq a.Kind 14) ⟨zvK h a.M a.X,0⟩<|cond (ieq a.Kind 15) ⟨zb3 h a.M a.X,0⟩<|cond (ieq a.Kind 16) ⟨zrp h a.M a.X,0⟩<|⟨true,0⟩)
def zbV (h:Host)(a:GAct):Host:=bif zl a.Kind 1 17 then (cond (zl a.Kind 13 17) (ziC h a)<|zgn h a) else h
def zcQ (h:Host)(a:GAct):Told:=bif zl a.Kind 1 17 then (cond (zl a.Kind 13 17) (zqn h a)<|zh4 h a) else ⟨false,0⟩
def z4V {h:Host}{a:GAct}(b:SmH h):SmH (ziC h a):=by unfold ziC;cases ieq a.Kind 13;{cases ieq a.Kind 14;{cases ieq a.Kind 15;{cases ieq a.Kind 16;{exact z7m b};{exact z4W b}};{exact zEn b}};{exact zbca b}};{exact zba1 b}
def z4U {h:Host}{a:GAct}(c:SmH h):SmH (zgn h a):=by have d:zb1 h a.M=true->SmB (zC h a.M):=λb=>zeT c (zbr.1 b).2;unfold zgn;cases ieq a.Kind 1;{cases ieq a.Kind 2;{cases ieq a.Kind 3;{cases ieq a.Kind 4;{cases ieq a.Kind 5;{cases ieq a.Kind 6;{cases ieq a.Kind 7;{cases ieq a.Kind 8;{cases ieq a.Kind 9;{cases ieq a.Kind 10;{cases ieq a.Kind 11;{exact z7o c};{exact zba0 c}};{exact zpE c (λb=>zP4 (d b))}};{exact zpE c (λb=>zJH _ (d b))}};{exact z7n c}};{exact zpE c (λb=>zP5 _ _ (d b))}};{exact zpE c (λb=>zAK _ _ (d b))}};{exact zpE c (λb=>zAL _ (d b))}};{exact zpE c (λb=>zAJ _ _ (d b))}};{exact z4T c}};{exact zpE c (λb=>zP6 _ _ _ (d b))}};{exact(z4K a.M a.G c).sm}
def zE5 {h:Host}{a:GAct}(b:SmH h):SmH (zbV h a):=by unfold zbV;cases zl a.Kind 1 17;{exact b};{cases zl a.Kind 13 17;{exact z4U b};{exact z4V b}}
@[simp] abbrev zg6 (h:Host)(a:GAct):Bool:=pc (zc8 h)
@[simp] abbrev zns (h:Host)(a:GAct):Host:=ziC h a
@[simp] abbrev zlm (h:Host)(a:GAct):Told:=zqn h a
def zzl:Run:=rF2 dH (dT .act) λb c=>(zg6 b c,[aH<|zns b c,aT .told<|zlm b c])
def zCT (N:Nat)(c:Host)(a:GAct):OA:=
 (cond (ieq a.Kind 13) (oN (ze8 c a.M a.X)<|some [aH<|ziW c a.M a.X,.agg [.b<|zkt c a.M a.X,.i .i64 0]])<|cond (ieq a.Kind 14) (oN (ze8 c a.M a.X)<|some [aH<|zkb c a.M a.X,.agg [.b<|zlS c a.M a.X,.i .i64 0]])<|cond (ieq a.Kind 15) (oN (ze8 c a.M a.X)<|some [aH<|zj9 c a.M a.X,.agg [.b<|zdV c a.M a.X,.i .i64 0]])<|cond (ieq a.Kind 16) (oN (znj c a.M a.X)<|some [aH<|zie c a.M a.X,.agg [.b<|zjv c a.M a.X,.i .i64 0]])<|oN (zT c)<|some [aH<|zzn c,.agg [.b true,.i .i64 0]])
def zPO (a:Host)(b:GAct)(c:zg6 a b=true):∃N,zCT N a b=some [aH<|zns a b,aT .told<|zlm a b]:=by have d:=zM.1 c;refine⟨0,?_⟩;unfold zCT oN;refine br (λ_=>mu ?_) (λ_=>br (λ_=>mu ?_) λ_=>br (λ_=>mu ?_) λ_=>br (λ_=>mu ?_) λ_=>mu ?_);all_goals first|rfl|(simp only [*,zns,zlm,ziC,zqn,cT,cF]<;>rfl)|simp_all[Ty.cells,zns,zlm,ziC,zqn]
def zIZ:vO 285 zzl:=kF2 zQ9 zn zbE zca (zo []) zPO
def z3f:zbf:=[(285,zzl),(283,zHm),(37,zBD),(293,zsu),(77,zsu)]++z3e
def zDa:zU z3f:=zi zIZ (zi zSa<|zi zLM<|zi zSb<|zi zRY zQ9)
@[simp] abbrev zf6 (h:Host)(a:GAct):Host:=zbV h a
@[simp] abbrev ziU (h:Host)(a:GAct):Told:=zcQ h a
def zl8:Run:=rF2 dH (dT .act) λb c=>(zg6 b c,[aH<|zf6 b c,aT .told<|ziU b c])
def zGw (N:Nat)(c:Host)(a:GAct):OA:=
 let d:=(⟨a.Y,a.Z⟩:Slot); (oN (znd a)<|cond (nB<|zzm a) (oN (zT c)<|some [aH<|zk c,.agg [.b false,.i .i64 0]])<|oN (zx1 a.Kind)<|cond (zts a.Kind) (oN (zg6 c a)<|some [aH<|zns c a,.agg [.b (zlm c a).Ok,.i .i64 (zlm c a).N]])<|cond (ieq a.Kind 1) (oN (zdu c a.M a.G)<|some [aH<|zcG c a.M a.G,.agg [.b<|zcP c a.M a.G,.i .i64 0]])<|cond (ieq a.Kind 2) (oN (zoO c a.M a.G a.X d)<|some [aH<|zgI c a.M a.G a.X d,.agg [.b<|zhM c a.M a.G a.X d,.i .i64 0]])<|cond (ieq a.Kind 3) (oN (zmc c a.M a.G a.X)<|some [aH<|zhh c a.M a.G a.X,.agg [.b<|zge c a.M a.G a.X,.i .i64 0]])<|cond (ieq a.Kind 4) (oN (zk9 c a.M a.G a.X)<|some [aH<|ze2 c a.M a.G a.X,.agg [.b<|zfF c a.M a.G a.X,.i .i64 0]])<|cond (ieq a.Kind 5) (oN (zlb c a.M a.G)<|some [aH<|ze4 c a.M a.G,.agg [.b<|zfH c a.M a.G,.i .i64 0]])<|cond (ieq a.Kind 6) (oN (zla c a.M a.G a.X)<|some [aH<|ze3 c a.M a.G a.X,.agg [.b<|zfG c a.M a.G a.X,.i .i64 0]])<|cond (ieq a.Kind 7) (oN (znd a)<|oN (zoM c a.M a.G<|zmr a)<|some [aH<|zhK c a.M a.G<|zmr a,.agg [.b<|zhL c a.M a.G<|zmr a,.i .i64 0]])<|cond (ieq a.Kind 8) (oN (zng c a.M a.X a.Y a.Z)<|some [aH<|zjr c a.M a.X a.Y a.Z,.agg [.b<|zjs c a.M a.X a.Y a.Z,.i .i64 0]])<|cond (ieq a.Kind 9) (oN (znh c a.M a.X)<|some [aH<|zf4 c a.M a.X,.agg [.b<|zgZ c a.M a.X,.i .i64 0]])<|cond (ieq a.Kind 10) (oN (zcd c a.M)<|some [aH<|zgH c a.M,.agg [.b<|zhJ c a.M,.i .i64<|zhI c a.M]])<|cond (ieq a.Kind 11) (oN (zoN c a.M a.G a.X a.Y)<|some [aH<|zkq c a.M a.G a.X a.Y,.agg [.b<|zkr c a.M a.G a.X a.Y,.i .i64 0]])<|oN (zni c a.M a.G a.X)<|some [aH<|zic c a.M a.G a.X,.agg [.b<|zju c a.M a.G a.X,.i .i64<|zjt c a.M a.G a.X]])
def zSU (a:Host)(b:GAct)(c:zg6 a b=true):∃N,zGw N a b=some [aH<|zf6 a b,aT .told<|ziU a b]:=by
 have d:=zM.1 c;refine⟨0,?_⟩;unfold zGw oN nB;conv=>zeta
 refine must rfl (brN (λ_=>mu ?_) λ_=>must rfl (br (λ_=>mu ?_) λ_=>br (λ_=>mu ?_) λ_=>br (λ_=>mu ?_) λ_=>br (λ_=>mu ?_) λ_=>br (λ_=>mu ?_) λ_=>br (λ_=>mu ?_) λ_=>br (λ_=>mu ?_) λ_=>br (λ_=>must rfl (mu ?_)) λ_=>br (λ_=>mu ?_) λ_=>br (λ_=>mu ?_) λ_=>br (λ_=>mu ?_) λ_=>br (λ_=>mu ?_) λ_=>mu ?_));all_goals first|rfl|(simp only [*,zf6,ziU,zbV,zcQ,zgn,zh4,cT,cF]<;>rfl)|simp_all[Ty.cells,zf6,ziU,zbV,zcQ,zgn,zh4]
def zwV:vO 202 zl8:=kF2 zDa zn zbE zca (zo []) zSU
def zbcj {h:Host}{a:GAct}(b:ieq a.Kind 1=true):zbV h a=(zcz h a.M a.G).1/\zcQ h a=⟨(zcz h a.M a.G).2,0⟩:=by have e:a.Kind=1:=qD b;constructor;{unfold zbV zgn;rw[e];rfl};{unfold zcQ zh4;rw[e];rfl}
def zbck {h:Host}{a:GAct}(b:ieq a.Kind 2=true):zbV h a=zgI h a.M a.G a.X ⟨a.Y,a.Z⟩/\zcQ h a=⟨zhM h a.M a.G a.X ⟨a.Y,a.Z⟩,0⟩:=by have e:a.Kind=2:=qD b;constructor;{unfold zbV zgn;rw[e];rfl};{unfold zcQ zh4;rw[e];rfl}
def zbcl {h:Host}{a:GAct}(b:ieq a.Kind 3=true):zbV h a=zh2 h a.M a.G a.X/\zcQ h a=⟨zge h a.M a.G a.X,0⟩:=by have e:a.Kind=3:=qD b;constructor;{unfold zbV zgn;rw[e];rfl};{unfold zcQ zh4;rw[e];rfl}
def zbcm {h:Host}{a:GAct}(b:ieq a.Kind 4=true):zbV h a=ze2 h a.M a.G a.X/\zcQ h a=⟨zfF h a.M a.G a.X,0⟩:=by have e:a.Kind=4:=qD b;constructor;{unfold zbV zgn;rw[e];rfl};{unfold zcQ zh4;rw[e];rfl}
def zbcn {h:Host}{a:GAct}(b:ieq a.Kind 5=true):zbV h a=ze4 h a.M a.G/\zcQ h a=⟨zfH h a.M a.G,0⟩:=by have e:a.Kind=5:=qD b;constructor;{unfold zbV zgn;rw[e];rfl};{unfold zcQ zh4;rw[e];rfl}
def zbco {h:Host}{a:GAct}(b:ieq a.Kind 6=true):zbV h a=ze3 h a.M a.G a.X/\zcQ h a=⟨zfG h a.M a.G a.X,0⟩:=by have e:a.Kind=6:=qD b;constructor;{unfold zbV zgn;rw[e];rfl};{unfold zcQ zh4;rw[e];rfl}
def zbcp {h:Host}{a:GAct}(b:ieq a.Kind 7=true):zbV h a=zhK h a.M a.G ⟨a.X,a.Y,ieq a.Z 1⟩/\zcQ h a=⟨zhL h a.M a.G ⟨a.X,a.Y,ieq a.Z 1⟩,0⟩:=by have e:a.Kind=7:=qD b;constructor;{unfold zbV zgn;rw[e];rfl};{unfold zcQ zh4;rw[e];rfl}
def zbcq {h:Host}{a:GAct}(b:ieq a.Kind 8=true):zbV h a=zjh h a.M a.X a.Y a.Z/\zcQ h a=⟨zdk h a.M a.X a.Y a.Z,0⟩:=by have e:a.Kind=8:=qD b;constructor;{unfold zbV zgn;rw[e];rfl};{unfold zcQ zh4;rw[e];rfl}
def zbcr {h:Host}{a:GAct}(b:ieq a.Kind 9=true):zbV h a=zf4 h a.M a.X/\zcQ h a=⟨zgZ h a.M a.X,0⟩:=by have e:a.Kind=9:=qD b;constructor;{unfold zbV zgn;rw[e];rfl};{unfold zcQ zh4;rw[e];rfl}
def zbbc {h:Host}{a:GAct}(b:ieq a.Kind 10=true):zbV h a=zgH h a.M/\zcQ h a=⟨zhJ h a.M,zhI h a.M⟩:=by have e:a.Kind=10:=qD b;constructor;{unfold zbV zgn;rw[e];rfl};{unfold zcQ zh4;rw[e];rfl}
def zbbd {h:Host}{a:GAct}(b:ieq a.Kind 11=true):zbV h a=zkS h a.M a.G a.X a.Y/\zcQ h a=⟨zgm h a.M a.G a.X a.Y,0⟩:=by have e:a.Kind=11:=qD b;constructor;{unfold zbV zgn;rw[e];rfl};{unfold zcQ zh4;rw[e];rfl}
def zbbe {h:Host}{a:GAct}(b:ieq a.Kind 12=true):zbV h a=zji h a.M a.G a.X/\zcQ h a=⟨zfB h a.M a.G a.X,zmW h a.M a.G a.X⟩:=by have e:a.Kind=12:=qD b;constructor;{unfold zbV zgn;rw[e];rfl};{unfold zcQ zh4;rw[e];rfl}
def zbbf {h:Host}{a:GAct}(b:ieq a.Kind 13=true):zbV h a=zk1 h a.M a.X/\zcQ h a=⟨zto h a.M a.X,0⟩:=by have e:a.Kind=13:=qD b;constructor;{unfold zbV ziC;rw[e];rfl};{unfold zcQ zqn;rw[e];rfl}
def zbbg {h:Host}{a:GAct}(b:ieq a.Kind 14=true):zbV h a=zm7 h a.M a.X/\zcQ h a=⟨zvK h a.M a.X,0⟩:=by have e:a.Kind=14:=qD b;constructor;{unfold zbV ziC;rw[e];rfl};{unfold zcQ zqn;rw[e];rfl}
def zbbh {h:Host}{a:GAct}(b:ieq a.Kind 15=true):zbV h a=zeW h a.M a.X/\zcQ h a=⟨zb3 h a.M a.X,0⟩:=by have e:a.Kind=15:=qD b;constructor;{unfold zbV ziC;rw[e];rfl};{unfold zcQ zqn;rw[e];rfl}
def zbbi {h:Host}{a:GAct}(b:ieq a.Kind 16=true):zbV h a=zhD h a.M a.X/\zcQ h a=⟨zrp h a.M a.X,0⟩:=by have e:a.Kind=16:=qD b;constructor;{unfold zbV ziC;rw[e];rfl};{unfold zcQ zqn;rw[e];rfl}
def zbbj {h:Host}{a:GAct}(b:ieq a.Kind 17=true):zbV h a=cold h/\zcQ h a=⟨true,0⟩:=by have e:a.Kind=17:=qD b;constructor;{unfold zbV ziC;rw[e];rfl};{unfold zcQ zqn;rw[e];rfl}
def zbci {h:Host}{a:GAct}(l:ieq a.Kind 1=false)(m:ieq a.Kind 2=false)(n:ieq a.Kind 3=false)(p:ieq a.Kind 4=false)(q:ieq a.Kind 5=false)(r:ieq a.Kind 6=false)(s:ieq a.Kind 7=false)(t:ieq a.Kind 8=false)(u:ieq a.Kind 9=false)(b:ieq a.Kind 10=false)(c:ieq a.Kind 11=false)(d:ieq a.Kind 12=false)(e:ieq a.Kind 13=false)(f:ieq a.Kind 14=false)(g:ieq a.Kind 15=false)(i:ieq a.Kind 16=false)(j:ieq a.Kind 17=false):zbV h a=h/\zcQ h a=⟨false,0⟩:=by have k:zl a.Kind 1 17=false:=(by cases k:zl a.Kind 1 17;{rfl};{have:=zfW.1 k;have:=qX l;have:=qX m;have:=qX n;have:=qX p;have:=qX q;have:=qX r;have:=qX s;have:=qX t;have:=qX u;have:=qX b;have:=qX c;have:=qX d;have:=qX e;have:=qX f;have:=qX g;have:=qX i;have:=qX j;omega});unfold zbV zcQ;rw[k];exact⟨rfl,rfl⟩
def zF9 (N:Nat)(c:Host)(a:GAct):OA:=
 let g:=zhK c a.M a.G<|zmr a;let f:=zkq c a.M a.G a.X a.Y;let e:=zjr c a.M a.X a.Y a.Z;let d:=(⟨a.Y,a.Z⟩:Slot); (cond (ieq a.Kind 1) (oN (zdu c a.M a.G)<|oN (zT<|zcG c a.M a.G)<|some [aH<|zk<|zcG c a.M a.G,.agg [.b<|zcP c a.M a.G,.i .i64 0]])<|cond (ieq a.Kind 2) (oN (zoO c a.M a.G a.X d)<|oN (zT<|zgI c a.M a.G a.X d)<|some [aH<|zk<|zgI c a.M a.G a.X d,.agg [.b<|zhM c a.M a.G a.X d,.i .i64 0]])<|cond (ieq a.Kind 3) (oN (zmc c a.M a.G a.X)<|oN (zT<|zhh c a.M a.G a.X)<|some [aH<|zk<|zhh c a.M a.G a.X,.agg [.b<|zge c a.M a.G a.X,.i .i64 0]])<|cond (ieq a.Kind 4) (oN (zk9 c a.M a.G a.X)<|oN (zT<|ze2 c a.M a.G a.X)<|some [aH<|zk<|ze2 c a.M a.G a.X,.agg [.b<|zfF c a.M a.G a.X,.i .i64 0]])<|cond (ieq a.Kind 5) (oN (zlb c a.M a.G)<|oN (zT<|ze4 c a.M a.G)<|some [aH<|zk<|ze4 c a.M a.G,.agg [.b<|zfH c a.M a.G,.i .i64 0]])<|cond (ieq a.Kind 6) (oN (zla c a.M a.G a.X)<|oN (zT<|ze3 c a.M a.G a.X)<|some [aH<|zk<|ze3 c a.M a.G a.X,.agg [.b<|zfG c a.M a.G a.X,.i .i64 0]])<|cond (ieq a.Kind 7) (oN (znd a)<|oN (zoM c a.M a.G<|zmr a)<|oN (zT g)<|some [aH<|zk g,.agg [.b<|zhL c a.M a.G<|zmr a,.i .i64 0]])<|cond (ieq a.Kind 8) (oN (zng c a.M a.X a.Y a.Z)<|oN (zT e)<|some [aH<|zk e,.agg [.b<|zjs c a.M a.X a.Y a.Z,.i .i64 0]])<|cond (ieq a.Kind 9) (oN (znh c a.M a.X)<|oN (zT<|zf4 c a.M a.X)<|some [aH<|zk<|zf4 c a.M a.X,.agg [.b<|zgZ c a.M a.X,.i .i64 0]])<|cond (ieq a.Kind 10) (oN (zcd c a.M)<|oN (zT<|zgH c a.M)<|some [aH<|zk<|zgH c a.M,.agg [.b<|zhJ c a.M,.i .i64<|zhI c a.M]])<|cond (ieq a.Kind 11) (oN (zoN c a.M a.G a.X a.Y)<|oN (zT f)<|some [aH<|zk f,.agg [.b<|zkr c a.M a.G a.X a.Y,.i .i64 0]])<|cond (ieq a.Kind 12) (oN (zni c a.M a.G a.X)<|oN (zT<|zic c a.M a.G a.X)<|some [aH<|zk<|zic c a.M a.G a.X,.agg [.b<|zju c a.M a.G a.X,.i .i64<|zjt c a.M a.G a.X]])<|cond (ieq a.Kind 13) (oN (ze8 c a.M a.X)<|oN (zT<|ziW c a.M a.X)<|some [aH<|zk<|ziW c a.M a.X,.agg [.b<|zkt c a.M a.X,.i .i64 0]])<|cond (ieq a.Kind 14) (oN (ze8 c a.M a.X)<|oN (zT<|zkb c a.M a.X)<|some [aH<|zk<|zkb c a.M a.X,.agg [.b<|zlS c a.M a.X,.i .i64 0]])<|cond (ieq a.Kind 15) (oN (ze8 c a.M a.X)<|oN (zT<|zj9 c a.M a.X)<|some [aH<|zk<|zj9 c a.M a.X,.agg [.b<|zdV c a.M a.X,.i .i64 0]])<|cond (ieq a.Kind 16) (oN (znj c a.M a.X)<|oN (zT<|zie c a.M a.X)<|some [aH<|zk<|zie c a.M a.X,.agg [.b<|zjv c a.M a.X,.i .i64 0]])<|cond (ieq a.Kind 17) (oN (zT c)<|oN (zT<|zzn c)<|some [aH<|zk<|zzn c,.agg [.b true,.i .i64 0]])<|oN (zT c)<|some [aH<|zk c,.agg [.b false,.i .i64 0]])
def zSz (a:Host)(b:GAct)(c:zg6 a b=true):∃N,zF9 N a b=some [aH<|zf6 a b,aT .told<|ziU a b]:=by
 have d:=zM.1 c;have e:zc8 (zbV a b):=(zS _).2 (zE5<|(zS _).1 d);have p:=@zbcj a b;have q:=@zbck a b;have r:=@zbcl a b;have s:=@zbcm a b;have t:=@zbcn a b;have u:=@zbco a b;have v:=@zbcp a b;have w:=@zbcq a b;have x:=@zbcr a b;have f:=@zbbc a b;have g:=@zbbd a b;have h:=@zbbe a b;have i:=@zbbf a b;have j:=@zbbg a b;have k:=@zbbh a b;have l:=@zbbi a b;have m:=@zbbj a b;have n:=@zbci a b;refine⟨0,?_⟩;unfold zF9 oN;conv=>zeta
 refine br (λ_=>mu (mu ?_)) (λ_=>br (λ_=>mu (mu ?_)) λ_=>br (λ_=>mu (mu ?_)) λ_=>br (λ_=>mu (mu ?_)) λ_=>br (λ_=>mu (mu ?_)) λ_=>br (λ_=>mu (mu ?_)) λ_=>br (λ_=>must rfl (mu<|mu ?_)) λ_=>br (λ_=>mu (mu ?_)) λ_=>br (λ_=>mu (mu ?_)) λ_=>br (λ_=>mu (mu ?_)) λ_=>br (λ_=>mu (mu ?_)) λ_=>br (λ_=>mu (mu ?_)) λ_=>br (λ_=>mu (mu ?_)) λ_=>br (λ_=>mu (mu ?_)) λ_=>br (λ_=>mu (mu ?_)) λ_=>br (λ_=>mu (mu ?_)) λ_=>br (λ_=>mu (mu ?_)) λ_=>mu ?_);all_goals first|rfl|(simp only [*,zf6,ziU,cT,cF]<;>rfl)|simp_all[Ty.cells,zf6,ziU]
def zLo:vO 27 zl8:=kF2 zDa zn zbE zca (zo []) zSz
def z3g:zbf:=[(202,zl8),(27,zl8)]++z3f
def zRa:zU z3g:=zi zwV (zi zLo zDa)
def zD0:List GAct->Host×List Told->Host×List Told
 |[],u=>u
 |a::l,u=>zD0 l (zbV u.1 a,ap u.2 [zcQ u.1 a])
def zAd (a:List (List<|List Ins))(l:List GAct):Host×List Told:=zD0 (l.take 80) (zg8 a,[])
abbrev HSt:Type:=(List Told)×(List<|LI)×(List Mon)×(List Entry)×(List Entry)
def hOf (t:HSt):Host:=⟨t.2.1,t.2.2.1,t.2.2.2.1,t.2.2.2.2⟩
def tOf (u:Host×List Told):HSt:=(u.2,u.1.Memory,u.1.Mons,u.1.Buffer,u.1.IoBuffer)
def zAo (t:HSt):OA:=some [AV.agg<|zbd<|hOf t,AV.one<|.s .told t.1]
def zZV {e:List (List<|List Ins)}(h:zKE e):SmH (zg8 e):=by refine⟨show SmM z1o from ⟨by decide,by decide⟩,⟨?_,?_⟩,by simp[zg8],by simp[zg8]⟩;{simp only [zg8,uM,vM];omega};{intro x d;simp only[zg8,jH]at d;obtain⟨p,f,rfl⟩:=d;have b:=h.2 p (jY f);refine⟨show zwb.length<=1048576 by decide,show SmM zPR from ⟨by decide,by decide⟩,show (rp 8 false).length<=1048576 by decide,⟨?_,?_⟩,by simp[ziB],⟨?_,?_⟩⟩;{simp only [ziB,uM,vM];omega};{intro y a;simp only[ziB,jH]at a;obtain⟨q,c,rfl⟩:=a;exact⟨b.2 q<|jY c,show znu.length<=1048576 by decide,show znu.length<=1048576 by decide,by simp[zgi]⟩};{simp only [ziB,uM,vM];omega};{intro y a;simp only[ziB,jH]at a;obtain⟨q,c,rfl⟩:=a;exact⟨show (rp 4 false).length<=1048576 by decide,show znu.length<=1048576 by decide⟩}}
def zG7 {c:Host->GAct->Bool}(d:∀h a,SmH h->c h a=true)(m:Nat):∀(l:List GAct) (i:Nat) (u:Host×List Told),SmH u.1->u.2.length+l.length<=2147483648->
 goL (λ(i:Nat) x (t:HSt) n=>bif ilt (i:Int) (m:Int) then (cond (c (hOf t) x) (cond (few<|ln<|ap t.1 [zcQ (hOf t) x]) (n (ap t.1 [zcQ (hOf t) x],(zbV (hOf t) x).Memory,(zbV (hOf t) x).Mons,(zbV (hOf t) x).Buffer,(zbV (hOf t) x).IoBuffer)) none) none) else zAo t) zAo l i (tOf u)=zAo (tOf<|zD0 (l.take<|m-i) u)
 |[],i,u,_,_=>by simp[goL,zD0]
 |a::l,i,u,e,k=>by simp only[jB]at k;have g:few (ln<|ap u.2 [zcQ u.1 a])=true:=ziA (by simp[ap];omega);have j:hOf (tOf u)=u.1:=rfl;have f:(tOf u).1=u.2:=rfl;by_cases h:i<m;{have b:ilt (i:Int) (m:Int)=true:=qJ (by omega);simp only[goL,b,j,f,g,d _ _ e,cT];refine(zG7 d m l (i+1) (zbV u.1 a,ap u.2 [zcQ u.1 a]) (zE5 e) (by simp[ap];omega)).trans ?_;rw[show m-i=m-(i+1)+1 by omega];rfl};{have b:ilt (i:Int) (m:Int)=false:=qH (by omega);simp only[goL,b,cF];rw[show m-i=0 by omega];rfl}
@[simp] abbrev zv2 (a:List (List<|List Ins))(l:List GAct):Bool:=pc (zKE a/\l.length<=1048576)
@[simp] abbrev zv1 (a:List (List<|List Ins))(l:List GAct):Host:=(zAd a l).1
@[simp] abbrev zEe (a:List (List<|List Ins))(l:List GAct):List Told:=(zAd a l).2
def zzj:Run:=rF2 (dS<|.sl<|.sl .ins) (dS .act) λb c=>(zv2 b c,[aH<|zv1 b c,aS .told<|zEe b c])
def zCG (N:Nat)(b:lQ)(g:lA):OA:=
 (oN (zx0 b)<|iter (σ:=(Int×lA×lT×lM×lN×lE×lE×lM×lN×lE×lE×Unit)) N (λh a=>let e:=ix a.2.1 a.1 z2x;let c:=(⟨a.2.2.2.2.2.2.2.1,a.2.2.2.2.2.2.2.2.1,a.2.2.2.2.2.2.2.2.2.1,a.2.2.2.2.2.2.2.2.2.2.1⟩:Host);let f:=ap a.2.2.1 [ziU c e];let d:=zf6 c e; (cond (ilt a.1<|ln a.2.1) (cond (ilt a.1 80) (oN (inb a.1<|ln a.2.1)<|oN (zg6 c e)<|oN (few<|ln f)<|h (zQ .i64 a.1 1,a.2.1,f,a.2.2.2.1,a.2.2.2.2.1,a.2.2.2.2.2.1,a.2.2.2.2.2.2.1,d.Memory,d.Mons,d.Buffer,d.IoBuffer,()))<|some [aH c,aS .told a.2.2.1])<|some [aH c,aS .told a.2.2.1])) (0,g,[],[],[],[],[],(ziV b).Memory,(ziV b).Mons,(ziV b).Buffer,(ziV b).IoBuffer,()))
def zQj:=zo [(121,0,{n:=39,tm:=[(1,.sl 0 []),(4,.lp 0 0),(6,.lp 1 0),(7,.sl 1 []),(8,ti)],lo:=[(0,[.sl 2 [],.sl 3 [],.sl 4 [],.sl 5 []]),(1,[.sl 6 [],.sl 7 [],.sl 8 [],.sl 9 []])],ro:=[(0,.act,false),(1,.told,true),(2,.sl .int,true),(3,.mon,true),(4,.entry,true),(5,.entry,true),(6,.sl .int,true),(7,.mon,true),(8,.entry,true),(9,.entry,true)]})]
def zPC (b:List lP)(c:List GAct)(k:zv2 b c=true):∃N,zCG N b c=some [aH<|zv1 b c,aS .told<|zEe b c]:=by
 obtain⟨j,g⟩:=zM.1 k;have f:=zda g;refine zcy λN e=>?_;unfold zCG oN;conv=>zeta
 refine must (zbh j) ?_;refine(zbq c (λi (t:lT×lM×lN×lE×lE)=>((i:Int),c,t.1,[],[],[],[],t.2.1,t.2.2.1,t.2.2.2.1,t.2.2.2.2,())) _ (λi (x:GAct) (t:HSt) m=>bif ilt (i:Int) ((80:Nat):Int) then (cond (zg6 (hOf t) x) (cond (few<|ln<|ap t.1 [zcQ (hOf t) x]) (m (ap t.1 [zcQ (hOf t) x],(zbV (hOf t) x).Memory,(zbV (hOf t) x).Mons,(zbV (hOf t) x).Buffer,(zbV (hOf t) x).IoBuffer)) none) none) else zAo t) (λ(t:lT×lM×lN×lE×lE)=>some [.agg<|zbd (⟨t.2.1,t.2.2.1,t.2.2.2.1,t.2.2.2.2⟩:Host),.one<|.s .told t.1]) (λi d t rec=>?_) (λt rec=>?_) _ ([],(ziV b).Memory,(ziV b).Mons,(ziV b).Buffer,(ziV b).IoBuffer)<|e f.1).trans ?_;{simp only [zbL d,zbn d,zbv d,zbi d f.1,cT];rfl};{simp only [zbD,cF]};exact zG7 (λh a l=>zbh ((zS h).2 l)) 80 c 0 (zg8 b,[]) (zZV j) (by simpa using f.2)
def zIG:vO 121 zzj:=kF2 zRa zn zbE zca zQj zPC
def zUv:zbf:=[(121,zzj)]++z3g
def zxQ:zU zUv:=zi zIG zRa
def zEz (h:Host):Prop:=∃a l,zKE a/\(1<=a.length/\∀p∈a,1<=p.length/\∀x∈p,zd5 x=true)/\h=(zAd a l).1
def zJy {p:List Ins}(h:zd5 p=true):p.length<=12:=by unfold zd5 at h;cases a:p.all zfh with|false=>rw[a]at h;cases h|true=>rw[a,cT]at h;have b:=(zfW.1 h).2;unfold ln at b;omega
def zxH (N:Nat)(c:Cur)  : OA :=
 let a:=({ (zoj c) with b:=c.b}:Cur); (oN (zrl c)<|oN (zoU a 20)<|oN (zv2 (zv6 c)<|ztu a 20)<|some [.agg [.s .u8 c.b,.i .i64 (zoV a 20).i,.i .i64 (zoV a 20).h],aH<|zv1 (zv6 c)<|ztu a 20])
def zrm (c:Cur)(s:Cur)(a:Host):Prop:=(∃N,zxH N c=some (AV.agg (zcl s)::[aH a]))/\(s.b=c.b/\0<=s.i)/\(zEz a)
def zgM (c:Cur)  : Bool:=wC (zrm c)
def zkA (c:Cur)  : Cur:=wS (zrm c)
def ziY (c:Cur)  : Host:=wV (zrm c)
def zx7 {c:Cur}(h:zgM c=true):zrm c (zkA c) (ziY c):=wG h
def zYM (c:Cur)  : 0<=(zkA c).i:=wP λh=>h.2.1.2
def zYL (c:Cur)(h:∃N,Ends (wE (λa=>aH a) c.b λa=>zEz a)<|zxH N c):zgM c=true:=wI (λ_ _ h=>h) h
def zza:zeR:=rP0 λc=>(zgM c,zkA c,[aH<|ziY c])
def zL8:zcc Tryz.prog 64 [false,true,true] zza:=hP0 zxQ zbo zWh zq (zo []) (λ_ h=>(zx7 h).1)
def zMf {c:Cur}(h:zbk c):zgM c=true:=by
 refine zYL c ⟨0,?_⟩;have e:zbk {zoj c with b:=c.b}:=zb0 h (z1Y _);have a:=(zM8<|z7D h).2.2;have f:=(zHr<|z2A e (m:=20) (by omega) (by omega)).2.2;unfold zxH oN;conv=>zeta
 have i:(ztu {zoj c with b:=c.b} 20).length<=65:=by unfold ln at f;omega
 have S:zKE (zv6 c):=⟨by omega,λp d=>by
  have g:=a.2.2 p d;exact⟨by omega,λx j=>by have:=zJy (g.2.2 x j);omega⟩⟩
 exact zI (z7D h) (zI (z2A e (by omega) (by omega))<|zI (zbh ⟨S,qU i (by decide)⟩)<|zbU aH (zYO _ _) ⟨_,_,S,⟨a.1,λp d=>⟨(a.2.2 p d).1,(a.2.2 p d).2.2⟩⟩,rfl⟩)
def z1B:zdj:=[(64,[false,true,true],zza)]++z9h
def zvM:zco z1B:=zcZ zWh (by
 intro x a;simp only[qG,qN,or_false]at a;rcases a with rfl
 .exact zL8)
def zUN {f c b:Type}{G:b->Prop}{a:Nat->f->c->(c->Option b)->Option b}{K:c->Option b}(e:∀i x t g,(∀t,Ends G<|g t)->Ends G (a i x t g))(d:∀t,Ends G<|K t):∀(l:List f) (i:Nat) (t:c),Ends G (goL a K l i t)
 |[],i,t=>d t
 |x::l,i,t=>e i x t _ (λt=>zUN e d l (i+1) t)
def zp3 (N:Nat)(c:LI):OA:=
 (iter (σ:=(Int×Int×LI×lM×lN×lE×lE×Unit)) N (λd a=>let b:=(⟨a.2.2.1,0,a.1⟩:Cur); (cond (ilt a.2.1<|ln a.2.2.1) (cond (ilt a.2.1 4000) (oN (inb a.2.1<|ln a.2.2.1)<|d (wand .i64 (zQ .i64 (zQ .i64 (znw .i64 a.1 131)<|wcv .i64<|ix a.2.2.1 a.2.1 0) 7) 1073741823,zQ .i64 a.2.1 1,a.2.2.1,a.2.2.2.1,a.2.2.2.2.1,a.2.2.2.2.2.1,a.2.2.2.2.2.2.1,()))<|oN (zgM b)<|some [aH<|ziY b])<|oN (zgM b)<|some [aH<|ziY b])) (zQ .i64 94701<|ln c,0,c,[],[],[],[],()))
def zQi:=zo [(39,0,{n:=32,tm:=[(0,.sl 0 []),(3,ti),(4,ti)],lo:=[(0,[.sl 1 [],.sl 2 [],.sl 3 [],.sl 4 []])],ro:=[(0,.u8,false),(1,.sl .int,true),(2,.mon,true),(3,.entry,true),(4,.entry,true)],sk:=[(0,2,0,.lp 0 0)]})]
def zt0 (b:LI)(a:Host):Prop:=(∃N,zp3 N b=some [aH a])/\(zEz a)
def zk6 (a:LI):Bool:=uC (T:=Host) (λr=>zt0 a r)
def zWx (a:LI):Host:=uV (λr=>zt0 a r)
def zob (a:LI):Host:=(zWx a)
def zEd {a:LI}(h:zk6 a=true):zt0 a (zob a):=uG h
def zWw (c:LI)(h:∃N,Ends (λa=>∃b,a=[aH b]/\(zEz b))<|zp3 N c):zk6 c=true:=by obtain⟨N,a,e,b,rfl,h⟩:=h;exact zbh ⟨b,⟨N,e⟩,h⟩
def zzi:Run:=rF1 (dS .u8) λb=>(zk6 b,[aH<|zob b])
def zPA (a:LI)(b:zk6 a=true):∃N,zp3 N a=some [aH<|zob a]:=by exact(zEd b).1
def zIF:vO 24 zzi:=kF1 zxQ zbo zvM zq zQi zPA
def zK1 {b:LI}(h:b.length<=big):zk6 b=true:=by
 refine zWw b (zcy λN e=>?_);unfold zp3 oN;conv=>zeta
 have c:∀t,Ends (λa=>∃g,a=[aH g]/\zEz g) (cond (zgM ⟨b,0,t⟩) (some [aH<|ziY ⟨b,0,t⟩]) none):=λt=>
  have f:zbk ⟨b,0,t⟩:=⟨kL 0,h⟩
  zI (zMf f) ⟨_,rfl,_,rfl,(zx7<|zMf f).2.2⟩
 refine(congrArg (Ends _)<|zbq b (λi (t:Int)=>(t,(i:Int),b,[],[],[],[],())) _ (λi x (t:Int) j=>bif ilt (i:Int) 4000 then j (wand .i64 (zQ .i64 (zQ .i64 (znw .i64 t 131)<|wcv .i64 x) 7) 1073741823) else (cond (zgM ⟨b,0,t⟩) (some [aH<|ziY ⟨b,0,t⟩]) none)) (λ(t:Int)=>cond (zgM ⟨b,0,t⟩) (some [aH<|ziY ⟨b,0,t⟩]) none) (λi d t rec=>?_) (λt rec=>?_) N (zQ .i64 94701<|ln b)<|e h).mpr ?_;{simp only [zbL d,zbn d,zbv d,zbi d h,cT]};{simp only [zbD,cF]};exact zUN (λi x t j k=>zbK (λ_=>k _) λ_=>c t) c _ _ _
def z2N:zbf:=[(24,zzi)]++zUv
def z2O:zU z2N:=zi zIF zxQ
instance:Inhabited Slot:=⟨⟨0,0⟩⟩
instance:Inhabited Entry:=⟨⟨0,0,0,0⟩⟩
instance:Inhabited GExit:=⟨⟨0,0,false,0⟩⟩
instance:Inhabited Guest:=⟨⟨[],0,0,[],[],⟨0,0,false⟩,0,⟨0,0,false,0⟩,false,[]⟩⟩
def zwv {c:Cur}(h:zbk c){n m:Int}(a:0<n)(b:n<=m):inb (zu c n) m=true:=by have:=zgS h a;exact qJ (by omega)
def zC0 {c:Cur}(h:zbk c){n m:Int}(a:0<n)(b:n<=m+1):inr 0 (zu c n) m=true:=by have:=zgS h a;exact qJ (by omega)
def zDP {a:Type}(l:List a)(n:Int):(tk l n).length<=l.length:=by simp[tk];omega
def zj4 {a:Type}(l:List a)(n:Int)(x:a):(up l n x).length=l.length:=by simp[up]
def z6v {a:Type}(l:List a)(n:Int):ln (tk l n)<=ln l:=by have:=zDP l n;unfold ln;omega
def z6w {a:Type}(l:List a)(n:Int)(x:a):ln (up l n x)=ln l:=by unfold ln;rw[zj4]
def I64 (x:Int):Prop:=-9223372036854775808<=x/\x<=9223372036854775807
def zV2 {f:Type}{c:Cur}(h:zbk c){P:f->Prop}{m:Int}(r:0<=m)(I:m<=1000){fc:Cur->Bool}{fs:Cur->Cur}{fv:Cur->f}(z:∀{c:Cur},zbk c->fc c=true)(C:∀c,0<=(fs c).i)(hg:∀{c:Cur},zbk c->P (fv c)){G:Ans->Prop}{R:Cur->List f->Ans}(w:∀s l,s.b=c.b->0<=s.i->ln l=m->(∀x∈l,P x)->G (R s l)){j:Type}(S:Int->Int×Int×List f->j){F:(j->OA)->j->OA}(v:∀rec t i k l,F rec (S t (i,k,l))=bif ilt t m then (cond (fc ⟨c.b,i,k⟩) (cond (few<|ln<|ap l [fv ⟨c.b,i,k⟩]) (rec<|S (zQ .i64 t 1) ((fs ⟨c.b,i,k⟩).i,(fs ⟨c.b,i,k⟩).h,ap l [fv ⟨c.b,i,k⟩])) none) none) else some (R ⟨c.b,i,k⟩ l)):Ends G (iter 1002 F<|S 0 (c.i,c.h,[])):=by refine zl2 (λn s=>∃t i k l,s=S t (i,k,l)/\t+(n:Int)=1000/\0<=t/\t<=m/\0<=i/\(∀x∈l,P x)/\ln l=t) ?_ 1002 1000 _ ⟨0,c.i,c.h,[],rfl,rfl,kL 0,r,h.1,by simp,rfl⟩ (by omega);rintro n s rec ⟨t,i,k,l,rfl,D,u,E,p,q,H⟩ d;rw[v];have a:zbk ⟨c.b,i,k⟩:=zb0 h p;refine zbK (λg=>?_) (λg=>?_);{have B:t<m:=qD g;have J:=zjd (y:=1) u (by omega) (by omega) (by omega);refine zI (z a) (zI (zl3 (by rw[ziK];omega))<|d (n-1) _ (by omega) ⟨_,_,_,_,rfl,by omega,by omega,by omega,C _,?_,by rw[ziK];omega⟩);intro x e;rcases jN.1 e with e|e;{exact q x e};{rw [qF.1 e];exact hg a}};{have A:¬ t<m:=qX g;exact zvo (w _ l rfl p (by omega) q)}
def ztF (N:Nat)(c:Cur)  : OA :=
 let a:=zba c [3,3,1,2,0,3,1,-1,4,9223372036854775807]; (oN (zbB c [3,3,1,2,0,3,1,-1,4,9223372036854775807])<|some [.agg [.s .u8 c.b,.i .i64 a.i,.i .i64 a.h],aI<|zbt c [3,3,1,2,0,3,1,-1,4,9223372036854775807]])
def zoe (c:Cur)(s:Cur)(a:Int):Prop:=(∃N,ztF N c=some (AV.agg (zcl s)::[aI a]))/\(s.b=c.b/\0<=s.i)/\(True)
def zmd (c:Cur)  : Bool:=wC (zoe c)
def zme (c:Cur)  : Cur:=wS (zoe c)
def zsF (c:Cur)  : Int:=wV (zoe c)
def zTi {c:Cur}(h:zmd c=true):zoe c (zme c) (zsF c):=wG h
def zTk (c:Cur)  : 0<=(zme c).i:=wP λh=>h.2.1.2
def zTj (c:Cur)(h:∃N,Ends (wE (λa=>aI a) c.b λa=>True)<|ztF N c):zmd c=true:=wI (λ_ _ h=>h) h
def zvP:zeR:=rP0 λc=>(zmd c,zme c,[aI<|zsF c])
def zFB:zcc Tryz.prog 257 [false,true,true] zvP:=hP0 zhp zbo zvM zq (zo []) (λ_ h=>(zTi h).1)
def z6X {c:Cur}(h:zbk c):zmd c=true:=by
 refine zTj c ⟨0,?_⟩;unfold ztF oN;conv=>zeta
 exact zI (zgs h (by simp)) (zbU aI (zcu _ _) trivial)
def z9i:zdj:=[(257,[false,true,true],zvP)]++z1B
def zWi:zco z9i:=zcZ zvM (by
 intro x a;simp only[qG,qN,or_false]at a;rcases a with rfl
 .exact zFB)
def z8l:zbf:=[(112,znc),(312,zj8),(313,zk4),(314,zl9)]++z0u
def zfS:zU z8l:=zi zyM (zi zt9<|zi zvx<|zi zwW zhp)
def zxC (N:Nat)(c:Cur)(d:Int):OA:=
 let e:=({ (zW c 5) with b:=c.b}:Cur);let a:=({ (zf e d) with b:=c.b}:Cur); (oN (zdG c 5)<|cond (zdS c 5) (oN zbS<|some [.agg [.s .u8 c.b,.i .i64 (zW c 5).i,.i .i64 (zW c 5).h],.agg [.i .i64 zbl.Page,.i .i64 zbl.Rights]])<|oN (zD e d)<|oN (zbB a [3,3,3,1,2])<|some [.agg [.s .u8 c.b,.i .i64 (zba a [3,3,3,1,2]).i,.i .i64 (zba a [3,3,3,1,2]).h],.agg [.i .i64<|zu e d,.i .i64<|zbt a [3,3,3,1,2]]])
def zq6 (c:Cur)(a:Int)(s:Cur)(d:Slot):Prop:=(∃N,zxC N c a=some (AV.agg (zcl s)::[aT .slot d]))/\(s.b=c.b/\0<=s.i)/\(0<a->a<=1000->I64 d.Page)
def zkv (c:Cur)(a:Int):Bool:=wC (zq6 c a)
def zhS (c:Cur)(a:Int):Cur:=wS (zq6 c a)
def zhi (c:Cur)(a:Int):Slot:=wV (zq6 c a)
def zx3 {c:Cur}{a:Int}(h:zkv c a=true):zq6 c a (zhS c a) (zhi c a):=wG h
def zHp (c:Cur)(a:Int):0<=(zhS c a).i:=wP λh=>h.2.1.2
def zYD (c:Cur)(a:Int)(h:∃N,Ends (wE (λd=>aT .slot d) c.b λd=>0<a->a<=1000->I64 d.Page)<|zxC N c a):zkv c a=true:=wI (λ_ _ h=>h) h
def zy5:zeR:=rP1 dI λc b=>(zkv c b,zhS c b,[aT .slot<|zhi c b])
def zLX:zcc Tryz.prog 256 [false,true,true] zy5:=hP1 zfS zbo zWi zq (zo []) (λ_ _ h=>(zx3 h).1)
def zNh {c:Cur}(h:zbk c)(a:Int):zkv c a=true:=by
 refine zYD c a ⟨0,?_⟩;unfold zxC oN;conv=>zeta
 have d:zbk {zW c 5 with b:=c.b}:=zb0 h (zcT _ _);have g:zbk {zf {zW c 5 with b:=c.b} a with b:=c.b}:=zb0 h (zJ _ _);refine zI (zk0 h 5) (zbK (λ_=>zI rfl (zbU (aT .slot) (v:=⟨_,_⟩) (zcT _ _) λ_ _=>?_)) λ_=>zI (zbF d a) (zI (zgs g (by simp))<|zbU (aT .slot) (v:=⟨_,_⟩) (zcu _ _) λe f=>?_));{exact⟨by decide,by decide⟩};{have:=zgS d e;exact⟨Int.le_trans (by decide) this.1,Int.le_trans (vN this.2) (by omega)⟩}
def z9j:zdj:=[(256,[false,true,true],zy5)]++z9i
def zJt:zco z9j:=zcZ zWi (by
 intro x a;simp only[qG,qN,or_false]at a;rcases a with rfl
 .exact zLX)
def zzA (N:Nat)(c:Cur)(a:Int):OA:=
 let e:=({ (zhS c a) with b:=c.b}:Cur);let d:=({ (zf e 12) with b:=c.b}:Cur);let f:=zba d [-1,-2,a,9223372036854775807,-9223372036854775808]; (oN (zkv c a)<|oN (zD e 12)<|cond (ieq (zu e 12) 0) (oN (zbB d [-1,-2,a,9223372036854775807,-9223372036854775808])<|some [.agg [.s .u8 c.b,.i .i64 f.i,.i .i64 f.h],.agg [.i .i64<|zbt d [-1,-2,a,9223372036854775807,-9223372036854775808],.i .i64 (zhi c a).Rights]])<|cond (ieq (zu e 12) 1) (oN (zmd d)<|some [.agg [.s .u8 c.b,.i .i64 (zme d).i,.i .i64 (zme d).h],.agg [.i .i64 (zhi c a).Page,.i .i64<|zsF d]])<|some [.agg [.s .u8 c.b,.i .i64 (zf e 12).i,.i .i64 (zf e 12).h],.agg [.i .i64 (zhi c a).Page,.i .i64 (zhi c a).Rights]])
def zsG (c:Cur)(a:Int)(s:Cur)(d:Slot):Prop:=(∃N,zzA N c a=some (AV.agg (zcl s)::[aT .slot d]))/\(s.b=c.b/\0<=s.i)/\(0<a->a<=1000->I64 d.Page)
def zq4 (c:Cur)(a:Int):Bool:=wC (zsG c a)
def zq5 (c:Cur)(a:Int):Cur:=wS (zsG c a)
def zJD (c:Cur)(a:Int):Slot:=wV (zsG c a)
def zM4 {c:Cur}{a:Int}(h:zq4 c a=true):zsG c a (zq5 c a) (zJD c a):=wG h
def z1H (c:Cur)(a:Int):0<=(zq5 c a).i:=wP λh=>h.2.1.2
def z1G (c:Cur)(a:Int)(h:∃N,Ends (wE (λd=>aT .slot d) c.b λd=>0<a->a<=1000->I64 d.Page)<|zzA N c a):zq4 c a=true:=wI (λ_ _ h=>h) h
def zBn:zeR:=rP1 dI λc b=>(zq4 c b,zq5 c b,[aT .slot<|zJD c b])
def zOR:zcc Tryz.prog 177 [false,true,true] zBn:=hP1 zfS zbo zJt zq (zo []) (λ_ _ h=>(zM4 h).1)
def zQW {c:Cur}(h:zbk c)(a:Int):zq4 c a=true:=by
 refine z1G c a ⟨0,?_⟩;unfold zzA oN;conv=>zeta
 have d:zbk {zhS c a with b:=c.b}:=zb0 h (zHp _ _);have f:zbk {zf {zhS c a with b:=c.b} 12 with b:=c.b}:=zb0 h (zJ _ _);have g:=(zx3<|zNh h a).2.2;refine zI (zNh h a) (zI (zbF d 12)<|zbK (λ_=>zI (zgs f (by simp)) (zbU (aT .slot) (v:=⟨zbt _ _,(zhi c a).Rights⟩) (zcu _ _) λe i=>?_)) λ_=>zbK (λ_=>zI (z6X f) (zbU (aT .slot) (v:=⟨(zhi c a).Page,zsF _⟩) (zTk _) λe d=>g e d)) λ_=>zbU (aT .slot) (v:=⟨(zhi c a).Page,(zhi c a).Rights⟩) (zJ _ _) λe d=>g e d);have j:=zZN f (l:=[-1,-2,a,9223372036854775807,-9223372036854775808]) (by simp);simp only[qG,qN,or_false]at j;unfold I64;dsimp only;omega
def zu8 (N:Nat)(c:Cur)(g j:Int):OA:=
 (iter (σ:=(Int×Int×Int×Int×Int×lS×LI×Unit)) N (λk a=>let e:=a.2.2.2.2.2.2.1;let d:=(⟨e,a.2.2.2.1,a.2.2.2.2.1⟩:Cur);let f:=ap a.2.2.2.2.2.1 [zhi d a.2.1]; (cond (ilt a.2.2.1 a.1) (oN (zkv d a.2.1)<|oN (few<|ln f)<|k (a.1,a.2.1,zQ .i64 a.2.2.1 1,(zhS d a.2.1).i,(zhS d a.2.1).h,f,e,()))<|some [.agg [.s .u8 e,.i .i64 a.2.2.2.1,.i .i64 a.2.2.2.2.1],aS .slot a.2.2.2.2.2.1])) (g,j,0,c.i,c.h,[],c.b,()))
def zQm:=zo [(176,0,{n:=22,tm:=[(0,.lp 0 0),(1,ti),(2,ti),(7,.sl 0 []),(8,ti)],lo:=[(0,[.sl 1 [],ti,ti])],ro:=[(0,.slot,true),(1,.u8,false)]})]
def zpj (c:Cur)(a:Int)(d:Int)(s:Cur)(e:List Slot):Prop:=(∃N,zu8 N c a d=some (AV.agg (zcl s)::[aS .slot e]))/\(s.b=c.b/\0<=s.i)/\(0<=a->a<=1000->ln e=a/\(0<d->d<=1000->∀s∈e,I64 s.Page))
def zjz (c:Cur)(a:Int)(b:Int):Bool:=wC (zpj c a b)
def zK (c:Cur)(a:Int)(b:Int):Cur:=wS (zpj c a b)
def zej (c:Cur)(a:Int)(b:Int):List Slot:=wV (zpj c a b)
def zv3 {c:Cur}{a:Int}{b:Int}(h:zjz c a b=true):zpj c a b (zK c a b) (zej c a b):=wG h
def zjA (c:Cur)(a:Int)(b:Int):0<=(zK c a b).i:=wP λh=>h.2.1.2
def zWA (c:Cur)(a:Int)(d:Int)(h:∃N,Ends (wE (λe=>aS .slot e) c.b λe=>0<=a->a<=1000->ln e=a/\(0<d->d<=1000->∀s∈e,I64 s.Page))<|zu8 N c a d):zjz c a d=true:=wI (λ_ _ h=>h) h
def zw6:zeR:=rP2 dI dI λc b d=>(zjz c b d,zK c b d,[aS .slot<|zej c b d])
def zIS:zcc Tryz.prog 176 [false,true,true] zw6:=hP2 zfS zbo zJt zq zQm (λ_ _ _ h=>(zv3 h).1)
def zzu {c:Cur}(h:zbk c){d:Int}(g:0<=d)(j:d<=1000)(a:Int):zjz c d a=true:=by
 refine zWA c d a ⟨1002,?_⟩;unfold zu8 oN;conv=>zeta
 exact zV2 h (P:=λs=>0<a->a<=1000->I64 s.Page) g j (fc:=λc=>zkv c a) (fs:=λc=>zhS c a) (fv:=λc=>zhi c a) (R:=λs l=>AV.agg (zcl s)::[aS .slot l]) (λh=>zNh h a) (λc=>zHp c a) (λh=>(zx3<|zNh h a).2.2) (λs l m n p q=>⟨s,l,rfl,⟨m,n⟩,λ_ _=>⟨p,λe f s r=>q s r e f⟩⟩) ((λi t=>(d,a,(i:Int),t.1,t.2.1,t.2.2,c.b,())):Int->Int×Int×List Slot->_) (λrec t i k l=>rfl)
def zba3 {c:Cur}(h:zbk c){n m:Int}(a:0<=n)(b:n<=1000)(d:0<m)(e:m<=1000):ln (zej c n m)=n/\∀s∈zej c n m,I64 s.Page:=by have g:=(zv3<|zzu h a b m).2.2 a b;exact⟨g.1,g.2 d e⟩
def z9k:zdj:=[(177,[false,true,true],zBn),(176,[false,true,true],zw6)]++z9j
def zJu:zco z9k:=zcZ zJt (by
 intro x a;simp only[qG,qN,or_false]at a;rcases a with rfl|rfl
 .exact zOR
 .exact zIS)
def zp4 (N:Nat)(c:Cur)(a d:Int):OA:=
 let g:=zej c a d;let f:=({ (zK c a d) with b:=c.b}:Cur);let e:=({ (zf f 8) with b:=c.b}:Cur);let k:=zu e a;let j:=({ (zf e a) with b:=c.b}:Cur); (oN (zjz c a d)<|oN (zD f 8)<|cond (ieq (zu f 8) 0) (oN (zD e a)<|oN (zq4 j d)<|oN (inb k<|ln g)<|share (up g k<|zJD j d) λl=>some [.agg [.s .u8 c.b,.i .i64 (zq5 j d).i,.i .i64 (zq5 j d).h],aS .slot l])<|cond (ieq (zu f 8) 1) (oN (zD e a)<|oN (inr 0 k<|ln g)<|some [.agg [.s .u8 c.b,.i .i64 (zf e a).i,.i .i64 (zf e a).h],aS .slot<|tk g k])<|some [.agg [.s .u8 c.b,.i .i64 (zf f 8).i,.i .i64 (zf f 8).h],aS .slot g])
def zlV (c:Cur)(a:Int)(d:Int)(s:Cur)(e:List Slot):Prop:=(∃N,zp4 N c a d=some (AV.agg (zcl s)::[aS .slot e]))/\(s.b=c.b/\0<=s.i)/\(0<a->a<=1000->ln e<=a/\(0<d->d<=1000->∀s∈e,I64 s.Page))
def zg4 (c:Cur)(a:Int)(b:Int):Bool:=wC (zlV c a b)
def zir (c:Cur)(a:Int)(b:Int):Cur:=wS (zlV c a b)
def zgh (c:Cur)(a:Int)(b:Int):List Slot:=wV (zlV c a b)
def zq2 {c:Cur}{a:Int}{b:Int}(h:zg4 c a b=true):zlV c a b (zir c a b) (zgh c a b):=wG h
def zq3 (c:Cur)(a:Int)(b:Int):0<=(zir c a b).i:=wP λh=>h.2.1.2
def zM3 (c:Cur)(a:Int)(d:Int)(h:∃N,Ends (wE (λe=>aS .slot e) c.b λe=>0<a->a<=1000->ln e<=a/\(0<d->d<=1000->∀s∈e,I64 s.Page))<|zp4 N c a d):zg4 c a d=true:=wI (λ_ _ h=>h) h
def ztq:zeR:=rP2 dI dI λc b d=>(zg4 c b d,zir c b d,[aS .slot<|zgh c b d])
def zB9:zcc Tryz.prog 97 [false,true,true] ztq:=hP2 zfS zbo zJu zq (zo []) (λ_ _ _ h=>(zq2 h).1)
def zp8 {c:Cur}(h:zbk c){n:Int}(a:0<n)(j:n<=1000)(m:Int):zg4 c n m=true:=by
 refine zM3 c n m ⟨0,?_⟩;unfold zp4 oN;conv=>zeta
 have l:zbk {zK c n m with b:=c.b}:=zb0 h (zjA _ _ _);have i:zbk {zf {zK c n m with b:=c.b} 8 with b:=c.b}:=zb0 h (zJ _ _);have k:zbk {zf {zf {zK c n m with b:=c.b} 8 with b:=c.b} n with b:=c.b}:=zb0 h (zJ _ _);have g:=(zv3<|zzu h (vN a) j m).2.2 (vN a) j;generalize zej c n m=T at g;refine zI (zzu h (vN a) j m) (zI (zbF l 8)<|zbK (λ_=>zI (zbF i n) (zI (zQW k m)<|zI (zwv i a (by omega))<|znJ<|zbU (aS .slot) (z1H _ _) λ_ _=>⟨by rw[z6w];omega,λe f s d=>?_⟩)) λ_=>zbK (λ_=>zI (zbF i n) (zI (zC0 i a (by omega))<|zbU (aS .slot) (zJ _ _) λ_ _=>⟨?_,λe f s d=>g.2 e f s (jY d)⟩)) λ_=>zbU (aS .slot) (zJ _ _) λ_ _=>⟨by omega,g.2⟩);{rcases qZ d with d|rfl;{exact g.2 e f s d};{exact(zM4<|zQW k m).2.2 e f}};{have:=z6v T;exact Int.le_trans (this _) (by omega)}
def zxD (N:Nat)(c:Cur)  : OA :=
 (iter (σ:=(Int×Int×Int×LI×LI×Unit)) N (λf a=>let d:=(⟨a.2.2.2.2.1,a.2.1,a.2.2.1⟩:Cur);let e:=ap a.2.2.2.1 [zu d 100]; (cond (ilt a.1 4) (oN (zD d 100)<|oN (few<|ln e)<|f (zQ .i64 a.1 1,(zf d 100).i,(zf d 100).h,e,a.2.2.2.2.1,()))<|some [.agg [.s .u8 a.2.2.2.2.1,.i .i64 a.2.1,.i .i64 a.2.2.1],aS .int a.2.2.2.1])) (0,c.i,c.h,[],c.b,()))
def zTB:=zo [(178,0,{n:=16,tm:=[(0,.lp 0 0),(3,.sl 0 []),(4,ti)],lo:=[(0,[.sl 1 [],ti,ti])],ro:=[(0,.int,true),(1,.u8,false)]})]
def zq8 (c:Cur)(s:Cur)(a:LI):Prop:=(∃N,zxD N c=some (AV.agg (zcl s)::[aS .int a]))/\(s.b=c.b/\0<=s.i)/\(a.length=4)
def zkw (c:Cur)  : Bool:=wC (zq8 c)
def zgK (c:Cur)  : Cur:=wS (zq8 c)
def zpU (c:Cur)  : LI:=wV (zq8 c)
def zx4 {c:Cur}(h:zkw c=true):zq8 c (zgK c) (zpU c):=wG h
def zHq (c:Cur)  : 0<=(zgK c).i:=wP λh=>h.2.1.2
def zYE (c:Cur)(h:∃N,Ends (wE (λa=>aS .int a) c.b λa=>a.length=4)<|zxD N c):zkw c=true:=wI (λ_ _ h=>h) h
def zy6:zeR:=rP0 λc=>(zkw c,zgK c,[aS .int<|zpU c])
def zLZ:zcc Tryz.prog 178 [false,true,true] zy6:=hP0 zfS zbo zJu zq zTB (λ_ h=>(zx4 h).1)
def zMU {c:Cur}(h:zbk c):zkw c=true:=by
 refine zYE c ⟨1002,?_⟩;unfold zxD oN;conv=>zeta
 exact zV2 h (P:=λ_=>True) (m:=4) (by omega) (by omega) (fc:=λc=>zD c 100) (fs:=λc=>zf c 100) (fv:=λc=>zu c 100) (R:=λs l=>AV.agg (zcl s)::[aS .int l]) (λh=>zbF h _) (λc=>zJ c _) (λ_=>trivial) (λs l a d e f=>⟨s,l,rfl,⟨a,d⟩,by unfold ln at e;omega⟩) ((λi t=>((i:Int),t.1,t.2.1,t.2.2,c.b,())):Int->Int×Int×LI->_) (λrec t i k l=>rfl)
def z9l:zdj:=[(97,[false,true,true],ztq),(178,[false,true,true],zy6)]++z9k
def zJv:zco z9l:=zcZ zJu (by
 intro x a;simp only[qG,qN,or_false]at a;rcases a with rfl|rfl
 .exact zB9
 .exact zLZ)
def zzB (N:Nat)(c:Cur)(f:Int):OA:=
 (iter (σ:=(Int×Int×Int×Int×lM×LI×Unit)) N (λg a=>let d:=(⟨a.2.2.2.2.2.1,a.2.2.1,a.2.2.2.1⟩:Cur);let e:=ap a.2.2.2.2.1 [zpU d]; (cond (ilt a.2.1 a.1) (oN (zkw d)<|oN (few<|ln e)<|g (a.1,zQ .i64 a.2.1 1,(zgK d).i,(zgK d).h,e,a.2.2.2.2.2.1,()))<|some [.agg [.s .u8 a.2.2.2.2.2.1,.i .i64 a.2.2.1,.i .i64 a.2.2.2.1],aS (.sl .int) a.2.2.2.2.1])) (f,0,c.i,c.h,[],c.b,()))
def zXq:=zo [(184,0,{n:=19,tm:=[(0,.lp 0 0),(1,ti),(5,.sl 0 []),(6,ti)],lo:=[(0,[.sl 1 [],ti,ti])],ro:=[(0,.sl .int,true),(1,.u8,false)]})]
def zsI (c:Cur)(a:Int)(s:Cur)(d:List LI):Prop:=(∃N,zzB N c a=some (AV.agg (zcl s)::[aS (.sl .int) d]))/\(s.b=c.b/\0<=s.i)/\(0<=a->a<=1000->ln d=a/\∀r∈d,r.length=4)
def zkd (c:Cur)(a:Int):Bool:=wC (zsI c a)
def zof (c:Cur)(a:Int):Cur:=wS (zsI c a)
def zv4 (c:Cur)(a:Int):List LI:=wV (zsI c a)
def zAC {c:Cur}{a0:Int}(h:zkd c a0=true):zsI c a0 (zof c a0) (zv4 c a0):=wG h
def z1L (c:Cur)(a0:Int):0<=(zof c a0).i:=wP λh=>h.2.1.2
def z1K (c:Cur)(a:Int)(h:∃N,Ends (wE (λd=>aS (.sl .int) d) c.b λd=>(0<=a->a<=1000->ln d=a/\∀r∈d,r.length=4))<|zzB N c a):zkd c a=true:=wI (λ_ _ h=>h) h
def zBo:zeR:=rP1 dI λc b=>(zkd c b,zof c b,[aS (.sl .int)<|zv4 c b])
def zyN:zcc Tryz.prog 184 [false,true,true] zBo:=hP1 zfS zbo zJv zq zXq (λ_ _ h=>(zAC h).1)
def zbcD {c:Cur}(h:zbk c){a0:Int}(a:0<=a0)(d:a0<=1000):zkd c a0=true:=by
 refine z1K c a0 ⟨1002,?_⟩;unfold zzB oN;conv=>zeta
 exact zV2 h (P:=λr=>r.length=4) a d (fc:=zkw) (fs:=zgK) (fv:=zpU) (R:=λs l=>AV.agg (zcl s)::[aS (.sl .int) l]) zMU zHq (λh=>(zx4<|zMU h).2.2) (λs l e f g j=>⟨s,l,rfl,⟨e,f⟩,λ_ _=>⟨g,j⟩⟩) ((λi t=>(a0,(i:Int),t.1,t.2.1,t.2.2,c.b,())):Int->Int×Int×List LI->_) (λrec t i k l=>rfl)
def zu9 (N:Nat)(c:Cur)  : OA :=
 let d:=zpU c;let e:=({ (zgK c) with b:=c.b}:Cur);let f:=zf e 6;let a:=({f with b:=c.b}:Cur);let g:=({ (zf a 4) with b:=c.b}:Cur); (oN (zkw c)<|oN (zD e 6)<|cond (ieq (zu e 6) 0) (oN (zD a 4)<|oN (inr 0 (zu a 4)<|ln d)<|some [.agg [.s .u8 c.b,.i .i64 (zf a 4).i,.i .i64 (zf a 4).h],aS .int<|tk d<|zu a 4])<|cond (ieq (zu e 6) 1) (oN (zD a 4)<|oN (zbB g [-1,99,100])<|oN (inb (zu a 4)<|ln d)<|share (up d (zu a 4)<|zbt g [-1,99,100]) λj=>some [.agg [.s .u8 c.b,.i .i64 (zba g [-1,99,100]).i,.i .i64 (zba g [-1,99,100]).h],aS .int j])<|cond (ieq (zu e 6) 2) (oN (few<|ln<|ap d [1])<|some [.agg [.s .u8 c.b,.i .i64 f.i,.i .i64 f.h],aS .int<|ap d [1]])<|some [.agg [.s .u8 c.b,.i .i64 f.i,.i .i64 f.h],aS .int d])
def zpk (c:Cur)(s:Cur)(a:LI):Prop:=(∃N,zu9 N c=some (AV.agg (zcl s)::[aS .int a]))/\(s.b=c.b/\0<=s.i)/\(a.length<=5)
def znk (c:Cur)  : Bool:=wC (zpk c)
def znl (c:Cur)  : Cur:=wS (zpk c)
def zuI (c:Cur)  : LI:=wV (zpk c)
def zEf {c:Cur}(h:znk c=true):zpk c (znl c) (zuI c):=wG h
def zWC (c:Cur)  : 0<=(znl c).i:=wP λh=>h.2.1.2
def zWB (c:Cur)(h:∃N,Ends (wE (λa=>aS .int a) c.b λa=>a.length<=5)<|zu9 N c):znk c=true:=wI (λ_ _ h=>h) h
def zw7:zeR:=rP0 λc=>(znk c,znl c,[aS .int<|zuI c])
def zIT:zcc Tryz.prog 98 [false,true,true] zw7:=hP0 zfS zbo zJv zq (zo []) (λ_ h=>(zEf h).1)
def zZj {c:Cur}(h:zbk c):znk c=true:=by
 refine zWB c ⟨0,?_⟩;unfold zu9 oN;conv=>zeta
 have e:zbk {zgK c with b:=c.b}:=zb0 h (zHq _);have a:zbk {zf {zgK c with b:=c.b} 6 with b:=c.b}:=zb0 h (zJ _ _);have f:zbk {zf {zf {zgK c with b:=c.b} 6 with b:=c.b} 4 with b:=c.b}:=zb0 h (zJ _ _);have g:=(zx4<|zMU h).2.2;generalize zpU c=T at g;have d:ln T=4:=(by unfold ln;omega);refine zI (zMU h) (zI (zbF e 6)<|zbK (λ_=>zI (zbF a 4) (zI (zC0 a (by omega) (by omega))<|zbU (aS .int) (zJ _ _)<|qU (zDP T _) (by omega))) λ_=>zbK (λ_=>zI (zbF a 4) (zI (zgs f (by simp))<|zI (zwv a (by omega) (by omega))<|znJ<|zbU (aS .int) (zcu _ _) (by rw[zj4];omega))) λ_=>zbK (λ_=>zI (zl3 (by rw[ziK];omega)) (zbU (aS .int) (zJ _ _) ?_)) λ_=>zbU (aS .int) (zJ _ _) (by omega));simp[ap];omega
def z9m:zdj:=[(184,[false,true,true],zBo),(98,[false,true,true],zw7)]++z9l
def zWj:zco z9m:=zcZ zJv (by
 intro x a;simp only[qG,qN,or_false]at a;rcases a with rfl|rfl
 .exact zyN
 .exact zIT)
def ztH (N:Nat)(c:Cur)  : OA :=
 let d:=({ (zhV c) with b:=c.b}:Cur);let a:=({ (zf d 10) with b:=c.b}:Cur);let e:=zba a [-1,0,12,15,16,99,100,9223372036854775807]; (oN (zlW c)<|oN (zD d 10)<|cond (ieq (zu d 10) 0) (oN (zD a 11)<|some [.agg [.s .u8 c.b,.i .i64 (zf a 11).i,.i .i64 (zf a 11).h],.agg [.i .i64<|wsub .i64 (zu a 11) 1,.i .i64 (zhC c).X]])<|cond (ieq (zu d 10) 1) (oN (zbB a [-1,0,12,15,16,99,100,9223372036854775807])<|some [.agg [.s .u8 c.b,.i .i64 e.i,.i .i64 e.h],.agg [.i .i64 (zhC c).Op,.i .i64<|zbt a [-1,0,12,15,16,99,100,9223372036854775807]]])<|some [.agg [.s .u8 c.b,.i .i64 (zf d 10).i,.i .i64 (zf d 10).h],.agg [.i .i64 (zhC c).Op,.i .i64 (zhC c).X]])
def zoi (c:Cur)(s:Cur)(a:Ins):Prop:=(∃N,ztH N c=some (AV.agg (zcl s)::[aT .ins a]))/\(s.b=c.b/\0<=s.i)/\(True)
def zmh (c:Cur)  : Bool:=wC (zoi c)
def zmi (c:Cur)  : Cur:=wS (zoi c)
def zx5 (c:Cur)  : Ins:=wV (zoi c)
def zTn {c:Cur}(h:zmh c=true):zoi c (zmi c) (zx5 c):=wG h
def zTp (c:Cur)  : 0<=(zmi c).i:=wP λh=>h.2.1.2
def zTo (c:Cur)(h:∃N,Ends (wE (λa=>aT .ins a) c.b λa=>True)<|ztH N c):zmh c=true:=wI (λ_ _ h=>h) h
def zvR:zeR:=rP0 λc=>(zmh c,zmi c,[aT .ins<|zx5 c])
def zFD:zcc Tryz.prog 261 [false,true,true] zvR:=hP0 zfS zbo zWj zq (zo []) (λ_ h=>(zTn h).1)
def z5m {c:Cur}(h:zbk c):zmh c=true:=by
 refine zTo c ⟨0,?_⟩;unfold ztH oN;conv=>zeta
 have d:zbk {zhV c with b:=c.b}:=zb0 h (zAD _);have a:zbk {zf {zhV c with b:=c.b} 10 with b:=c.b}:=zb0 h (zJ _ _);exact zI (zTN h) (zI (zbF d 10)<|zbK (λ_=>zI (zbF a 11) (zbU (aT .ins) (v:=⟨wsub .i64 _ 1,(zhC c).X⟩) (zJ _ _) trivial)) λ_=>zbK (λ_=>zI (zgs a (by simp)) (zbU (aT .ins) (v:=⟨(zhC c).Op,zbt _ _⟩) (zcu _ _) trivial)) λ_=>zbU (aT .ins) (v:=zhC c) (zJ _ _) trivial)
def z9n:zdj:=[(261,[false,true,true],zvR)]++z9m
def zAy:zco z9n:=zcZ zWj (by
 intro x a;simp only[qG,qN,or_false]at a;rcases a with rfl
 .exact zFD)
def zrD (N:Nat)(c:Cur)  : OA :=
 let e:=zcv c;let g:=({ (zbb c) with b:=c.b}:Cur);let k:=zf g 8;let d:=({k with b:=c.b}:Cur); (oN (ziX c)<|oN (zD g 8)<|cond (ieq (zu g 8) 0) (oN (zmh d)<|oN (inb 0<|ln e)<|share (up e 0<|zx5 d) λm=>some [.agg [.s .u8 c.b,.i .i64 (zmi d).i,.i .i64 (zmi d).h],aS .ins m])<|cond (ieq (zu g 8) 1) (iter (σ:=(Int×Int×lI×LI×Unit)) N (λl a=>let j:=(⟨a.2.2.2.1,a.1,a.2.1⟩:Cur);let f:=({ (zf j 2) with b:=a.2.2.2.1}:Cur); (oN (zD j 2)<|cond (ilt (ln a.2.2.1)<|zQ .i64 12<|zu j 2) (oN (zlW f)<|oN (few<|ln<|ap a.2.2.1 [zhC f])<|l ((zhV f).i,(zhV f).h,ap a.2.2.1 [zhC f],a.2.2.2.1,()))<|some [.agg [.s .u8 a.2.2.2.1,.i .i64 (zf j 2).i,.i .i64 (zf j 2).h],aS .ins a.2.2.1])) (k.i,k.h,e,c.b,()))<|cond (ieq (zu g 8) 2) (oN (zD d 2)<|oN (inr 0 (zu d 2)<|ln e)<|some [.agg [.s .u8 c.b,.i .i64 (zf d 2).i,.i .i64 (zf d 2).h],aS .ins<|tk e<|zu d 2])<|some [.agg [.s .u8 c.b,.i .i64 k.i,.i .i64 k.h],aS .ins e])
def zJN:=zo [(180,1,{n:=34,tm:=[(0,.lp 0 0),(3,.sl 0 [])],lo:=[(0,[.sl 1 [],ti,ti])],ro:=[(0,.ins,true),(1,.u8,false)]})]
def zmI (c:Cur)(s:Cur)(a:List Ins):Prop:=(∃N,zrD N c=some (AV.agg (zcl s)::[aS .ins a]))/\(s.b=c.b/\0<=s.i)/\(a.length<=13)
def zlf (c:Cur)  : Bool:=wC (zmI c)
def zlg (c:Cur)  : Cur:=wS (zmI c)
def zq9 (c:Cur)  : List Ins:=wV (zmI c)
def zzp {c:Cur}(h:zlf c=true):zmI c (zlg c) (zq9 c):=wG h
def zP3 (c:Cur)  : 0<=(zlg c).i:=wP λh=>h.2.1.2
def zP2 (c:Cur)(h:∃N,Ends (wE (λa=>aS .ins a) c.b λa=>a.length<=13)<|zrD N c):zlf c=true:=wI (λ_ _ h=>h) h
def zuf:zeR:=rP0 λc=>(zlf c,zlg c,[aS .ins<|zq9 c])
def zDx:zcc Tryz.prog 180 [false,true,true] zuf:=hP0 zfS zbo zAy zq zJN (λ_ h=>(zzp h).1)
def zQV {c:Cur}(h:zbk c):zlf c=true:=by
 refine zP2 c ⟨1002,?_⟩;unfold zrD oN;conv=>zeta
 have B:zbk {zbb c with b:=c.b}:=zb0 h (zky _);have q:zbk {zf {zbb c with b:=c.b} 8 with b:=c.b}:=zb0 h (zJ _ _);have g:=(zsL<|zDY h).2.2;have p:=zJy g;have j:1<=(zcv c).length:=(by unfold zd5 at g;cases d:(zcv c).all zfh with|false=>rw[d] at g;cases g|true=>rw[d,cT] at g;have:=(zfW.1 g).1;unfold ln at this;omega);generalize zcv c=T at p j;have y:1<=ln T/\ln T<=12:=(by unfold ln;omega);have e:(2:Int)<=ln T+1:=(by omega);refine zI (zDY h) (zI (zbF B 8)<|zbK (λ_=>zI (z5m q) (zI (qJ (by omega))<|znJ<|zbU (aS .ins) (zTp _) (by rw[zj4];omega))) λ_=>zbK (λ_=>?_) λ_=>zbK (λ_=>zI (zbF q 2) (zI (zC0 q (n:=2) (by omega) e)<|zbU (aS .ins) (zJ _ _)<|qU (zDP T _) (by omega))) λ_=>zbU (aS .ins) (zJ _ _) (by omega));{refine zl2 (λn s=>s.2.2.1.length+n=13/\0<=s.1/\s.2.2.2.1=c.b) ?_ 1002 (13-T.length) _ ⟨by dsimp only;omega,zJ _ _,rfl⟩ (by omega);rintro n ⟨i,k,l,b,u⟩ rec ⟨v,r,t⟩ m;dsimp only at v r t ⊢;subst t;have a:zbk ⟨c.b,i,k⟩:=zb0 h r;have A:=zgS a (n:=2) (by omega);have z:=zjd (x:=12) (by omega) (by omega) A.1 (by omega);have w:zbk {zf ⟨c.b,i,k⟩ 2 with b:=c.b}:=zb0 h (zJ _ _);refine zI (zbF a 2) (zbK (λd=>?_) λd=>?_);{have f:ln l<zQ .i64 12 (zu ⟨c.b,i,k⟩ 2):=qD d;rw[z]at f;unfold ln at f;exact zI (zTN w) (zI (zl3 (by rw[ziK];unfold ln;omega))<|m (n-1) _ (by omega) ⟨by simp[ap];omega,zAD _,rfl⟩)};{exact zbU (aS .ins) (zJ _ _) (by omega)}}
def zzD (N:Nat)(c:Cur)  : OA :=
 let a:=zc7 c;let e:=({ (zcR c) with b:=c.b}:Cur);let f:=zf e 8;let d:=({f with b:=c.b}:Cur);let g:=zba d [-1,255,256,9223372036854775807]; (oN (zlX c)<|oN (zD e 8)<|cond (ieq (zu e 8) 0) (oN (zbB d [-1,2,3,4])<|some [.agg [.s .u8 c.b,.i .i64 (zba d [-1,2,3,4]).i,.i .i64 (zba d [-1,2,3,4]).h],.agg [.i .i64<|zbt d [-1,2,3,4],.i .i64 a.Post,.b a.Open]])<|cond (ieq (zu e 8) 1) (oN (zbB d [-1,255,256,9223372036854775807])<|some [.agg [.s .u8 c.b,.i .i64 g.i,.i .i64 g.h],.agg [.i .i64 a.Traps,.i .i64<|zbt d [-1,255,256,9223372036854775807],.b a.Open]])<|cond (ieq (zu e 8) 2) (some [.agg [.s .u8 c.b,.i .i64 f.i,.i .i64 f.h],.agg [.i .i64 a.Traps,.i .i64 a.Post,.b<|nB a.Open]])<|some [.agg [.s .u8 c.b,.i .i64 f.i,.i .i64 f.h],.agg [.i .i64 a.Traps,.i .i64 a.Post,.b a.Open]])
def zsM (c:Cur)(s:Cur)(a:Ctl):Prop:=(∃N,zzD N c=some (AV.agg (zcl s)::[.agg<|zos a]))/\(s.b=c.b/\0<=s.i)/\(True)
def zrb (c:Cur)  : Bool:=wC (zsM c)
def zrd (c:Cur)  : Cur:=wS (zsM c)
def zAE (c:Cur)  : Ctl:=wV (zsM c)
def z1N {c:Cur}(h:zrb c=true):zsM c (zrd c) (zAE c):=wG h
def z1P (c:Cur)  : 0<=(zrd c).i:=wP λh=>h.2.1.2
def z1O (c:Cur)(h:∃N,Ends (wE (λa=>.agg (zos a)) c.b λa=>True)<|zzD N c):zrb c=true:=wI (λ_ _ h=>h) h
def zBq:zeR:=rP0 λc=>(zrb c,zrd c,[.agg<|zos<|zAE c])
def zOW:zcc Tryz.prog 181 [false,true,true] zBq:=hP0 zfS zbo zAy zq (zo []) (λ_ h=>(z1N h).1)
def z5l {c:Cur}(h:zbk c):zrb c=true:=by
 refine z1O c ⟨0,?_⟩;unfold zzD oN nB;conv=>zeta
 have d:zbk {zcR c with b:=c.b}:=zb0 h (zAF _);have a:zbk {zf {zcR c with b:=c.b} 8 with b:=c.b}:=zb0 h (zJ _ _);exact zI (z0t h) (zI (zbF d 8)<|zbK (λ_=>zI (zgs a (by simp)) (zbU (λx=>AV.agg (zos x)) (v:=⟨zbt _ _,(zc7 c).Post,(zc7 c).Open⟩) (zcu _ _) trivial)) λ_=>zbK (λ_=>zI (zgs a (by simp)) (zbU (λx=>AV.agg (zos x)) (v:=⟨(zc7 c).Traps,zbt _ _,(zc7 c).Open⟩) (zcu _ _) trivial)) λ_=>zbK (λ_=>zbU (λx=>AV.agg (zos x)) (v:=⟨(zc7 c).Traps,(zc7 c).Post,bif (zc7 c).Open then false else true⟩) (zJ _ _) trivial) λ_=>zbU (λx=>AV.agg (zos x)) (v:=(zc7 c)) (zJ _ _) trivial)
def zxF (N:Nat)(c:Cur)  : OA :=
 let f:=zf c 5;let d:=({f with b:=c.b}:Cur);let j:=zf d 100;let a:=zu d 100;let e:=({ (zf d 4) with b:=c.b}:Cur);let g:=ze5 (zu d 4)<|zdS e 2; (oN (zD c 5)<|cond (ieq (zu c 5) 0) (oN (zD d 4)<|oN (zdG e 2)<|oN (zhf (zu d 4)<|zdS e 2)<|some [.agg [.s .u8 c.b,.i .i64 (zW e 2).i,.i .i64 (zW e 2).h],.agg [.i .i64 g.Kind,.i .i64 g.Page,.b g.Write,.i .i64 g.N]])<|cond (ieq (zu c 5) 1) (oN (zD d 100)<|oN (zfm a)<|some [.agg [.s .u8 c.b,.i .i64 j.i,.i .i64 j.h],.agg [.i .i64 (zff a).Kind,.i .i64 (zff a).Page,.b (zff a).Write,.i .i64 (zff a).N]])<|cond (ieq (zu c 5) 2) (oN (zD d 100)<|oN (zfm a)<|some [.agg [.s .u8 c.b,.i .i64 j.i,.i .i64 j.h],.agg [.i .i64 (zgv a).Kind,.i .i64 (zgv a).Page,.b (zgv a).Write,.i .i64 (zgv a).N]])<|cond (ieq (zu c 5) 3) (some [.agg [.s .u8 c.b,.i .i64 f.i,.i .i64 f.h],.agg [.i .i64 4,.i .i64 0,.b false,.i .i64 0]])<|some [.agg [.s .u8 c.b,.i .i64 f.i,.i .i64 f.h],.agg [.i .i64 0,.i .i64 0,.b false,.i .i64 0]])
def zrg (c:Cur)(s:Cur)(a:GExit):Prop:=(∃N,zxF N c=some (AV.agg (zcl s)::[.agg<|zgB a]))/\(s.b=c.b/\0<=s.i)/\(True)
def zkz (c:Cur)  : Bool:=wC (zrg c)
def zgL (c:Cur)  : Cur:=wS (zrg c)
def zcN (c:Cur)  : GExit:=wV (zrg c)
def zYG {c:Cur}(h:zkz c=true):zrg c (zgL c) (zcN c):=wG h
def zx6 (c:Cur)  : 0<=(zgL c).i:=wP λh=>h.2.1.2
def zYH (c:Cur)(h:∃N,Ends (wE (λa=>.agg (zgB a)) c.b λa=>True)<|zxF N c):zkz c=true:=wI (λ_ _ h=>h) h
def zy8:zeR:=rP0 λc=>(zkz c,zgL c,[.agg<|zgB<|zcN c])
def zL2:zcc Tryz.prog 260 [false,true,true] zy8:=hP0 zfS zbo zAy zq (zo []) (λ_ h=>(zYG h).1)
def zUH {c:Cur}(h:zbk c):zkz c=true:=by
 refine zYH c ⟨0,?_⟩;unfold zxF oN;conv=>zeta
 have a:zbk {zf c 5 with b:=c.b}:=zb0 h (zJ _ _);have d:zbk {zf {zf c 5 with b:=c.b} 4 with b:=c.b}:=zb0 h (zJ _ _);exact zI (zbF h 5) (zbK (λ_=>zI (zbF a 4) (zI (zk0 d 2) (zI rfl (zbU (λx=>AV.agg (zgB x)) (v:=ze5 _ _) (zcT _ _) trivial)))) λ_=>zbK (λ_=>zI (zbF a 100) (zI rfl (zbU (λx=>AV.agg (zgB x)) (v:=zff _) (zJ _ _) trivial))) λ_=>zbK (λ_=>zI (zbF a 100) (zI rfl (zbU (λx=>AV.agg (zgB x)) (v:=zgv _) (zJ _ _) trivial))) λ_=>zbK (λ_=>zbU (λx=>AV.agg (zgB x)) (v:=⟨4,0,false,0⟩) (zJ _ _) trivial) λ_=>zbU (λx=>AV.agg (zgB x)) (v:=⟨0,0,false,0⟩) (zJ _ _) trivial)
def z9o:zdj:=[(180,[false,true,true],zuf),(181,[false,true,true],zBq),(260,[false,true,true],zy8)]++z9n
def zvN:zco z9o:=zcZ zAy (by
 intro x a;simp only[qG,qN,or_false]at a;rcases a with rfl|rfl|rfl
 .exact zDx
 .exact zOW
 .exact zL2)
def zzF (N:Nat)(c:Cur)  : OA :=
 let a:=zcN c;let e:=({ (zgL c) with b:=c.b}:Cur);let d:=({ (zf e 8) with b:=c.b}:Cur); (oN (zkz c)<|oN (zD e 8)<|cond (ieq (zu e 8) 0) (oN (zD d 7)<|some [.agg [.s .u8 c.b,.i .i64 (zf d 7).i,.i .i64 (zf d 7).h],.agg [.i .i64<|wsub .i64 (zu d 7) 1,.i .i64 a.Page,.b a.Write,.i .i64 a.N]])<|cond (ieq (zu e 8) 1) (oN (zbB d [-1,3,4])<|some [.agg [.s .u8 c.b,.i .i64 (zba d [-1,3,4]).i,.i .i64 (zba d [-1,3,4]).h],.agg [.i .i64 a.Kind,.i .i64<|zbt d [-1,3,4],.b a.Write,.i .i64 a.N]])<|cond (ieq (zu e 8) 2) (oN (zbB d [-1,99,100])<|some [.agg [.s .u8 c.b,.i .i64 (zba d [-1,99,100]).i,.i .i64 (zba d [-1,99,100]).h],.agg [.i .i64 a.Kind,.i .i64 a.Page,.b a.Write,.i .i64<|zbt d [-1,99,100]]])<|some [.agg [.s .u8 c.b,.i .i64 (zf e 8).i,.i .i64 (zf e 8).h],.agg [.i .i64 a.Kind,.i .i64 a.Page,.b a.Write,.i .i64 a.N]])
def zsO (c:Cur)(s:Cur)(a:GExit):Prop:=(∃N,zzF N c=some (AV.agg (zcl s)::[.agg<|zgB a]))/\(s.b=c.b/\0<=s.i)/\(True)
def zre (c:Cur)  : Bool:=wC (zsO c)
def zrf (c:Cur)  : Cur:=wS (zsO c)
def zAG (c:Cur)  : GExit:=wV (zsO c)
def z1S {c:Cur}(h:zre c=true):zsO c (zrf c) (zAG c):=wG h
def z1U (c:Cur)  : 0<=(zrf c).i:=wP λh=>h.2.1.2
def z1T (c:Cur)(h:∃N,Ends (wE (λa=>.agg (zgB a)) c.b λa=>True)<|zzF N c):zre c=true:=wI (λ_ _ h=>h) h
def zBs:zeR:=rP0 λc=>(zre c,zrf c,[.agg<|zgB<|zAG c])
def zOY:zcc Tryz.prog 183 [false,true,true] zBs:=hP0 zfS zbo zvN zq (zo []) (λ_ h=>(z1S h).1)
def z2B {c:Cur}(h:zbk c):zre c=true:=by
 refine z1T c ⟨0,?_⟩;unfold zzF oN;conv=>zeta
 have d:zbk {zgL c with b:=c.b}:=zb0 h (zx6 _);have a:zbk {zf {zgL c with b:=c.b} 8 with b:=c.b}:=zb0 h (zJ _ _);exact zI (zUH h) (zI (zbF d 8)<|zbK (λ_=>zI (zbF a 7) (zbU (λx=>AV.agg (zgB x)) (v:=⟨wsub .i64 _ 1,(zcN c).Page,(zcN c).Write,(zcN c).N⟩) (zJ _ _) trivial)) λ_=>zbK (λ_=>zI (zgs a (by simp)) (zbU (λx=>AV.agg (zgB x)) (v:=⟨(zcN c).Kind,zbt _ _,(zcN c).Write,(zcN c).N⟩) (zcu _ _) trivial)) λ_=>zbK (λ_=>zI (zgs a (by simp)) (zbU (λx=>AV.agg (zgB x)) (v:=⟨(zcN c).Kind,(zcN c).Page,(zcN c).Write,zbt _ _⟩) (zcu _ _) trivial)) λ_=>zbU (λx=>AV.agg (zgB x)) (v:=(zcN c)) (zJ _ _) trivial)
def zxG (N:Nat)(c:Cur)  : OA :=
 let a:=({ (zf c 256) with b:=c.b}:Cur);let d:=({ (zf a 256) with b:=c.b}:Cur);let e:=zba d [0,1,128,255,zu c 256,zu a 256,-1,256,9223372036854775807]; (oN (zD c 256)<|oN (zD a 256)<|oN (zbB d [0,1,128,255,zu c 256,zu a 256,-1,256,9223372036854775807])<|some [.agg [.s .u8 c.b,.i .i64 e.i,.i .i64 e.h],aI<|zbt d [0,1,128,255,zu c 256,zu a 256,-1,256,9223372036854775807]])
def zrh (c:Cur)(s:Cur)(a:Int):Prop:=(∃N,zxG N c=some (AV.agg (zcl s)::[aI a]))/\(s.b=c.b/\0<=s.i)/\(True)
def zoS (c:Cur)  : Bool:=wC (zrh c)
def zoT (c:Cur)  : Cur:=wS (zrh c)
def zxt (c:Cur)  : Int:=wV (zrh c)
def zYI {c:Cur}(h:zoS c=true):zrh c (zoT c) (zxt c):=wG h
def zYK (c:Cur)  : 0<=(zoT c).i:=wP λh=>h.2.1.2
def zYJ (c:Cur)(h:∃N,Ends (wE (λa=>aI a) c.b λa=>True)<|zxG N c):zoS c=true:=wI (λ_ _ h=>h) h
def zy9:zeR:=rP0 λc=>(zoS c,zoT c,[aI<|zxt c])
def zL3:zcc Tryz.prog 182 [false,true,true] zy9:=hP0 zfS zbo zvN zq (zo []) (λ_ h=>(zYI h).1)
def zbb3 {c:Cur}(h:zbk c):zoS c=true:=by
 refine zYJ c ⟨0,?_⟩;unfold zxG oN;conv=>zeta
 have a:zbk {zf c 256 with b:=c.b}:=zb0 h (zJ _ _);have d:zbk {zf {zf c 256 with b:=c.b} 256 with b:=c.b}:=zb0 h (zJ _ _);exact zI (zbF h 256) (zI (zbF a 256)<|zI (zgs d (by simp))<|zbU aI (zcu _ _) trivial)
def zvb (N:Nat)(c:Cur)  : OA :=
 let a:=zba c [0,1,2,3,0,1,-1,4,9223372036854775807]; (oN (zbB c [0,1,2,3,0,1,-1,4,9223372036854775807])<|some [.agg [.s .u8 c.b,.i .i64 a.i,.i .i64 a.h],aI<|zbt c [0,1,2,3,0,1,-1,4,9223372036854775807]])
def zpm (c:Cur)(s:Cur)(a:Int):Prop:=(∃N,zvb N c=some (AV.agg (zcl s)::[aI a]))/\(s.b=c.b/\0<=s.i)/\(True)
def znm (c:Cur)  : Bool:=wC (zpm c)
def znn (c:Cur)  : Cur:=wS (zpm c)
def zuJ (c:Cur)  : Int:=wV (zpm c)
def zWF {c:Cur}(h:znm c=true):zpm c (znn c) (zuJ c):=wG h
def zWH (c:Cur)  : 0<=(znn c).i:=wP λh=>h.2.1.2
def zWG (c:Cur)(h:∃N,Ends (wE (λa=>aI a) c.b λa=>True)<|zvb N c):znm c=true:=wI (λ_ _ h=>h) h
def zw9:zeR:=rP0 λc=>(znm c,znn c,[aI<|zuJ c])
def zIV:zcc Tryz.prog 100 [false,true,true] zw9:=hP0 zfS zbo zvN zq (zo []) (λ_ h=>(zWF h).1)
def zba5 {c:Cur}(h:zbk c):znm c=true:=by
 refine zWG c ⟨0,?_⟩;unfold zvb oN;conv=>zeta
 exact zI (zgs h (by simp)) (zbU aI (zcu _ _) trivial)
def zva (N:Nat)(c:Cur)  : OA :=
 let e:=({ (zf c 3) with b:=c.b}:Cur);let d:=({ (zf e 4) with b:=c.b}:Cur);let a:=({ (zf d 6) with b:=c.b}:Cur); (oN (zD c 3)<|oN (zD e 4)<|oN (zD d 6)<|oN (zD a 3)<|some [.agg [.s .u8 c.b,.i .i64 (zf a 3).i,.i .i64 (zf a 3).h],.agg [.i .i64<|zQ .i64 1<|zu c 3,.i .i64<|zu e 4,.i .i64<|zu d 6,.i .i64<|zQ .i64 1<|zu a 3]])
def zpl (c:Cur)(s:Cur)(a:Entry):Prop:=(∃N,zva N c=some (AV.agg (zcl s)::[aT .entry a]))/\(s.b=c.b/\0<=s.i)/\(True)
def zjB (c:Cur)  : Bool:=wC (zpl c)
def zii (c:Cur)  : Cur:=wS (zpl c)
def zoh (c:Cur)  : Entry:=wV (zpl c)
def zWD {c:Cur}(h:zjB c=true):zpl c (zii c) (zoh c):=wG h
def zv5 (c:Cur)  : 0<=(zii c).i:=wP λh=>h.2.1.2
def zWE (c:Cur)(h:∃N,Ends (wE (λa=>aT .entry a) c.b λa=>True)<|zva N c):zjB c=true:=wI (λ_ _ h=>h) h
def zw8:zeR:=rP0 λc=>(zjB c,zii c,[aT .entry<|zoh c])
def zIU:zcc Tryz.prog 104 [false,true,true] zw8:=hP0 zfS zbo zvN zq (zo []) (λ_ h=>(zWD h).1)
def zNR {c:Cur}(h:zbk c):zjB c=true:=by
 refine zWE c ⟨0,?_⟩;unfold zva oN;conv=>zeta
 have a:zbk {zf c 3 with b:=c.b}:=zb0 h (zJ _ _);have d:zbk {zf {zf c 3 with b:=c.b} 4 with b:=c.b}:=zb0 h (zJ _ _);have e:zbk {zf {zf {zf c 3 with b:=c.b} 4 with b:=c.b} 6 with b:=c.b}:=zb0 h (zJ _ _);exact zI (zbF h 3) (zI (zbF a 4)<|zI (zbF d 6)<|zI (zbF e 3)<|zbU (aT .entry) (v:=⟨_,_,_,_⟩) (zJ _ _) trivial)
def z9p:zdj:=[(183,[false,true,true],zBs),(182,[false,true,true],zy9),(100,[false,true,true],zw9),(104,[false,true,true],zw8)]++z9o
def z6R:zco z9p:=zcZ zvN (by
 intro x a;simp only[qG,qN,or_false]at a;rcases a with rfl|rfl|rfl|rfl
 .exact zOY
 .exact zL3
 .exact zIV
 .exact zIU)
section
open Go Go.RowKit
structure Cw (w0:World) (blk:Nat) (u:Value) (c:Cur) (w:World):Prop where
 os:w.os=w0.os
 tape:w.tape=w0.tape
 output:w.output=w0.output
 size:w0.heap.size<=w.heap.size
 keep:∀b,b<w0.heap.size->b≠blk->w.heap[b]?=w0.heap[b]?
 cur:∃e,w.heap[blk]?=some (.cells #[u,.int .i64 c.i,.int .i64 c.h] e (0,0))
def Cw.trans {g w1 h:World}{blk:Nat}{u:Value}{i d:Cur}(a:Cw g blk u i w1)(c:Cw w1 blk u d h):Cw g blk u d h :=
 ⟨c.os.trans a.os,c.tape.trans a.tape,c.output.trans a.output,qU a.size c.size,λb e f=>(c.keep b (jO e a.size) f).trans (a.keep b e f),c.cur⟩
def Cw.drew {a w:World}{blk:Nat}{u:Value}{c:Cur}(h:Cw a blk u c w):Cw a blk u c w.drew:=⟨h.os,h.tape,h.output,h.size,h.keep,h.cur⟩
def Cw.at (w:World)(blk:Nat)(u:Value)(c:Cur)(h:∃e,w.heap[blk]?=some (.cells #[u,.int .i64 c.i,.int .i64 c.h] e (0,0))):Cw w blk u c w:=⟨rfl,rfl,rfl,qV _,λ_ _ _=>rfl,h⟩
def Cw.alloc {d w:World}{blk:Nat}{u:Value}{c:Cur}(h:Cw d blk u c w)(a:blk<w.heap.size)(o:Obj):Cw d blk u c (w.alloc o):=
 ⟨h.os,h.tape,h.output,qU h.size (by simp),λb a g=>(heap_alloc_old w o<|jO a h.size).trans (h.keep b a g),by obtain⟨e,f⟩:=h.cur;exact⟨e,(heap_alloc_old w o a).trans f⟩⟩
def Cw.lt {b w:World}{blk:Nat}{u:Value}{c:Cur}(h:Cw b blk u c w):blk<w.heap.size:=by obtain⟨e,a⟩:=h.cur;exact(qQ.1 a).1
def zH3 {P:Program}{f:FuncId}{y:LC->LA->Option (Bool×LC×LA)}(V:zcc P f [false,true,true] y){w:World}{blk:Nat}{u:Value}{c c2:Cur}{z:zZ}(q:∃e,w.heap[blk]?=some (.cells #[u,.int .i64 c.i,.int .i64 c.h] e (0,0)))(hu:Rep false w u (.s .u8 c.b) z)(W:∀x,z x->x<w.heap.size/\x≠blk){avs rs:LA}{xs:List Value}{Ka:zZ}(l:zec false w (zF avs) xs λ_=>Ka)(p:∀x,Ka x->x<w.heap.size/\x≠blk)(hr:y (zcl c) avs=some (true,zcl c2,rs)) :
 Calls P f (#[.pointer<|some ⟨blk,0,none⟩]++(zcg avs xs).toArray) w λe B=>∃C A,e = .returned (zlJ<|zcg rs C)/\Cw w blk u c2 B/\zuO (zqo f) B (zF rs) C A/\(∀i x,i<(zF rs).length->A i x->w.heap.size<=x/\x<B.heap.size):=by
 obtain⟨e,Y⟩:=q;refine(V.2 w blk _ e (zcl c) (λj x=>j=0/\z x) avs xs Ka (zcl c2) rs Y rfl rfl ?_ ?_ ?_ l ?_ hr).mono ?_
 .intro j cv v m k
  match j,m,k with
  | 0,m,k=>cases m;cases k;exact hu.weak (λx l=>⟨rfl,l⟩)
  | 1,m,k=>cases m;cases k;exact .i _ _ _
  | 2,m,k=>cases m;cases k;exact .i _ _ _
  |j+3,m,k=>simp[zcl]at m
 .intro j x _ l;exact W x l.2
 .intro i j x r t n hne l hx2;have:i=0:=l.1;subst this;simp[zbe]at n
 .intro x l;refine⟨(p x l).1,(p x l).2,λj t n d=>?_⟩;have:j=0:=d.1;subst this;simp[zbe]at n
 .intro E B hp;cases E with
  |panicked _=>exact hp.elim
  |outgrown=>exact hp.elim
  |returned v=>
   obtain⟨Q,R,S,T,U,a,G,K',C,A,I,L,g3,F,M,N,g7,O,g9,J,K⟩:=hp;have g:∀i x,i<(zcl c).length->zbe [false,true,true] i->¬ ((λ(j:Nat) x=>j=0/\z x) i x):=by intro i x r n d;have:i=0:=d.1;subst this;simp[zbe]at n
   have k:a = #[u,.int .i64 c2.i,.int .i64 c2.h]:=by
    have hs:a.size=3:=L;have D:=(F 0 _ (a[0]'(by omega)) rfl (jL _)).2 (by simp[zbe]);have H:=F 1 _ (a[1]'(by omega)) rfl (jL _);have E:=F 2 _ (a[2]'(by omega)) rfl (jL _);have D:u=a[0]'(by omega):=(by simpa using D);apply Array.ext;{exact hs}
    .intro i r hi2
     match i,r with
     | 0,_=>exact D.symm
     | 1,_=>exact H
     | 2,_=>exact E
     |i+3,h=>omega
   subst k;refine⟨C,A,by rw[N],⟨Q,R,S,T,λb X Z=>U b X Z λj t n d=>g j b t n d,G,I⟩,M,λi x r d=>?_⟩;obtain⟨k1,k2,k3⟩:=O i x r d;rcases k3 with⟨j,t,n,d⟩|d;{exact absurd d (g j x t n)};{exact⟨d,k1⟩}
def zfV (c:Cur):List LI:=zv4 c 3
def zAk (c:Cur):Cur:={zof c 3 with b:=c.b}
def z1f (c:Cur):Int:=zu (zAk c) 8
def zjE (c:Cur):Cur:={zf (zAk c) 8 with b:=c.b}
def z1e (c:Cur):Int:=zu (zjE c) 3
def zuu (c:Cur):Cur:={zf (zjE c) 3 with b:=c.b}
def l04n (c:Cur):Int:=zu (zuu c) 4
def z1c (c:Cur):Cur:={zf (zuu c) 4 with b:=c.b}
def zvG (c:Cur):Int:=zbt (zjE c) [-1,100]
def z1d (c:Cur):Cur:={zba (zjE c) [-1,100] with b:=c.b}
def zp5 (_:Nat)(c:Cur):OA:=
 bif zkd c 3 then (bif zD (zAk c) 8 then (bif ieq (z1f c) 0 then (cond (zD (zjE c) 3) (cond (zD (zuu c) 4) (some (AV.agg (zcl<|z1c c)::[aS (.sl .int)<|up (zfV c) (z1e c)<|tk (ix (zfV c) 0 [])<|l04n c])) none) none)
  else (bif ieq (z1f c) 1 then (cond (zbB (zjE c) [-1,100]) (some (AV.agg (zcl<|z1d c)::[aS (.sl .int)<|up (zfV c) 1<|up (ix (zfV c) 1 []) 2<|zvG c])) none)
  else (cond (ieq (z1f c) 2) (cond (zD (zjE c) 3) (some (AV.agg (zcl<|zuu c)::[aS (.sl .int)<|tk (zfV c)<|z1e c])) none)<|some (AV.agg (zcl<|zjE c)::[aS (.sl .int)<|zfV c])))) else none) else none
def zsH (c:Cur)(s:Cur)(a:List LI):Prop:=(∃N,zp5 N c=some (AV.agg (zcl s)::[aS (.sl .int) a]))/\(s.b=c.b/\0<=s.i)/\(a.length<=3/\∀r∈a,r.length<=4)
def zq7 (c:Cur)  : Bool:=wC (zsH c)
def zkc (c:Cur)  : Cur:=wS (zsH c)
def zr4 (c:Cur)  : List LI:=wV (zsH c)
def zM5 {c:Cur}(h:zq7 c=true):zsH c (zkc c) (zr4 c):=wG h
def z1J (c:Cur)  : 0<=(zkc c).i:=wP λh=>h.2.1.2
def z1I (c:Cur)(h:∃N,Ends (wE (λa=>aS (.sl .int) a) c.b λa=>a.length<=3/\∀r∈a,r.length<=4)<|zp5 N c):zq7 c=true:=wI (λ_ _ h=>h) h
def ztR:zeR:=rP0 λc=>(zq7 c,zkc c,[aS (.sl .int)<|zr4 c])
def z6D {w:World}{blk:Nat}{u:Value}{c:Cur}{l:zZ}{n:Int}(g:∃e,w.heap[blk]?=some (.cells #[u,.int .i64 c.i,.int .i64 c.h] e (0,0)))(t:Rep false w u (.s .u8 c.b) l)(q:∀x,l x->x<w.heap.size/\x≠blk)(r:zkd c n=true) :
 Calls Tryz.prog 184 #[.pointer<|some ⟨blk,0,none⟩,.int .i64 n] w λe k=>∃v j,e = .returned v/\Cw w blk u {zof c n with b:=c.b} k/\Rep true k v (.s (.sl .int)<|zv4 c n) j/\(∀x,j x->w.heap.size<=x/\x<k.heap.size):=by
 have:=zH3 (c:=c) (c2:=zof c n) zyN g t q (avs:=[.one<|.i .i64 n]) (rs:=[aS (.sl .int)<|zv4 c n]) (xs:=[.int .i64 n]) (Ka:=λ_=>False) ⟨rfl,λi A x a d=>by
  match i,a,d with
  | 0,a,d=>cases a;cases d;exact .i _ _ _
  |i+1,a,d=>simp at d⟩ (λx d=>d.elim) (by show some (zkd ⟨c.b,c.i,c.h⟩ n,_,_)=_;rw[show (⟨c.b,c.i,c.h⟩:Cur)=c from rfl,r])
 refine Calls.mono this ?_
 rintro e k ⟨z,j,rfl,f,m,p⟩
 match z,m.1 with
 |[y],_=>exact⟨y,j 0,rfl,⟨f.os,f.tape,f.output,f.size,f.keep,f.cur⟩,m.2 0 _ y rfl rfl,λx d=>p 0 x (by simp[zF,AV.cvs]) d⟩
def zuk {w:World}{blk:Nat}{u:Value}{c:Cur}{j:zZ}{n:Int}(g:∃e,w.heap[blk]?=some (.cells #[u,.int .i64 c.i,.int .i64 c.h] e (0,0)))(r:Rep false w u (.s .u8 c.b) j)(p:∀x,j x->x<w.heap.size/\x≠blk)(q:zD c n=true) :
 Calls Tryz.prog 65 #[.pointer<|some ⟨blk,0,none⟩,.int .i64 n] w λe l=>e = .returned (.int .i64<|zu c n)/\Cw w blk u {zf c n with b:=c.b} l:=by
 have:=zH3 (c:=c) (c2:=zf c n) zvA g r p (avs:=[.one<|.i .i64 n]) (rs:=[aI<|zu c n]) (xs:=[.int .i64 n]) (Ka:=λ_=>False) ⟨rfl,λi z x a d=>by
  match i,a,d with
  | 0,a,d=>cases a;cases d;exact .i _ _ _
  |i+1,a,d=>simp at d⟩ (λx d=>d.elim) (by show some (zD ⟨c.b,c.i,c.h⟩ n,_,_)=_;rw[show (⟨c.b,c.i,c.h⟩:Cur)=c from rfl,q])
 refine Calls.mono this ?_
 rintro e l ⟨t,v,rfl,f,k,A⟩
 match t,k.1,k.2 with
 |[y],_,m=>have:=(m 0 _ y rfl rfl).int_inv;subst this;exact⟨rfl,f.os,f.tape,f.output,f.size,f.keep,f.cur⟩
def z4s {w:World}{blk:Nat}{u:Value}{c:Cur}{k:zZ}{l:LI}{v:Value}{Ka:zZ}(f:∃e,w.heap[blk]?=some (.cells #[u,.int .i64 c.i,.int .i64 c.h] e (0,0)))(t:Rep false w u (.s .u8 c.b) k)(q:∀x,k x->x<w.heap.size/\x≠blk)(r:zbB c l=true)(z:Rep false w v (.s .int l) Ka)(j:∀x,Ka x->x<w.heap.size/\x≠blk) :
 Calls Tryz.prog 101 #[.pointer<|some ⟨blk,0,none⟩,v] w λe n=>e = .returned (.int .i64<|zbt c l)/\Cw w blk u {zba c l with b:=c.b} n:=by
 have:=zH3 (c:=c) (c2:=zba c l) ztk f t q (avs:=[.one<|.s .int l]) (rs:=[aI<|zbt c l]) (xs:=[v]) (Ka:=Ka) ⟨rfl,λi C x a g=>by
  match i,a,g with
  | 0,a,g=>cases a;cases g;exact z
  |i+1,a,g=>simp at g⟩ j (by show some (zbB ⟨c.b,c.i,c.h⟩ l,_,_)=_;rw[show (⟨c.b,c.i,c.h⟩:Cur)=c from rfl,r])
 refine Calls.mono this ?_
 rintro e n ⟨A,B,rfl,d,m,D⟩
 match A,m.1,m.2 with
 |[y],_,p=>have:=(p 0 _ y rfl rfl).int_inv;subst this;exact⟨rfl,d.os,d.tape,d.output,d.size,d.keep,d.cur⟩
def z4A {w:World}{v:Value}{l:List LI}{K:zZ}(h:Rep true w v (.s (.sl .int) l) K)(n:l.length=3):∃(b off cap:Nat) (arr:LV) (e:TypeId) (V:Nat->Value) (c:Nat->zZ),v = .slice (some ⟨b,off,none⟩) 3 cap/\w.heap[b]?=some (.cells arr e (0,0))/\3<=cap/\off+cap<=arr.size/\K b/\
 (∀i x,i<3->c i x->K x/\x≠b)/\(∀i g x,i<3->g<3->c i x->c g x->i=g)/\(∀i,i<3->arr[off+i]?=some (V i))/\∀i x,l[i]?=some x->Rep true w (V i) (.s .int x) (c i):=by
 cases h with
 |nil=>simp at n
 |void _ _ _ B=>cases B
 |sl _ _ b off cap arr e E V c _ y k r p f u a d C z=>have:=k rfl;subst this;have t:Ty.width (.sl .int)=1:=rfl;rw[t,uZ]at f;refine⟨b,off,cap,arr,e,λi=>V i 0,λi=>c i 0,by rw[n],y,by omega,f,u,λi x q j=>⟨(a i 0 x (by omega) (by decide) j).1,(a i 0 x (by omega) (by decide) j).2 rfl⟩,λi g x q A j m=>(d rfl i 0 g 0 x (by omega) (by decide) (by omega) (by decide) j m).1,λi q=>?_,λi x D=>z i x D 0 _ rfl⟩;have:=C i 0 (by omega) (by decide);rwa [t,uZ,jZ] at this
def zWv {w:World}{v:Value}{l:LI}{K:zZ}(h:Rep true w v (.s .int l) K)(d:l.length=4):∃(b off cap:Nat) (arr:LV) (e:TypeId),v = .slice (some ⟨b,off,none⟩) 4 cap/\w.heap[b]?=some (.cells arr e (0,0))/\4<=cap/\off+cap<=arr.size/\K b/\
 ∀i x,l[i]?=some x->arr[off+i]?=some (.int .i64 x):=by
 cases h with
 |nil=>simp at d
 |void _ _ _ u=>cases u
 |sl _ _ b off cap arr e A V z _ q c j f a p k g y r=>have:=c rfl;subst this;have m:Ty.width .int=1:=rfl;rw[m,uZ]at a;refine⟨b,off,cap,arr,e,by rw[d],q,by omega,a,p,λi x n=>?_⟩;have t:i<l.length:=(qA.1 n).1;have:=y i 0 t (by decide);rw[m,uZ,jZ] at this;rw[this,(r i x n 0 (.i .i64 x) rfl).int_inv]
def zJA {o:Bool}{w:World}{b off cap:Nat}{arr:LV}{e:TypeId}(g:w.heap[b]?=some (.cells arr e (0,0))){l:LI}(r:l.length<=1000)(c:l.length<=cap)(m:off+cap<=arr.size)(n:∀i x,l[i]?=some x->arr[off+i]?=some (.int .i64 x)):Rep o w (.slice (some ⟨b,off,none⟩) l.length cap) (.s .int l) (λx=>x=b):=by
 refine .sl .int l b off cap arr e (0,0) (λi j=>.int .i64 (l.getD i 0)) (λ_ _ _=>False) _ g (λ_=>rfl) (by rw[zpJ];omega) c (by show off+cap*1<=arr.size;omega) rfl (λi j x _ _ h=>h.elim) (λ_ i j t u x _ _ _ _ h=>h.elim) (λi j f k=>?_) (λi x p j q a=>?_);{have d:j=0:=(by have:j<1:=k;omega);subst d;have:=n i _ (qB f);show arr[off+i*1+0]?=_;rw[uZ,jZ,this];simp[List.getD,qB f]}
 .match j,a with
  | 0,a=>cases a;have:l.getD i 0=x:=(by simp[List.getD,p]);show Rep o w (.int .i64<|l.getD i 0) _ _;rw[this];exact .i _ _ _
  |j+1,a=>simp[Ty.cells]at a
def zJB {w:World}{b off cap:Nat}{arr:LV}{e:TypeId}(n:w.heap[b]?=some (.cells arr e (0,0))){l:List LI}(A:l.length<=1000)(c:l.length<=cap)(t:off+cap<=arr.size)(V:Nat->Value){K:zZ}(f:K b)(u:∀i,i<l.length->arr[off+i]?=some (V i))(r:∀i x,l[i]?=some x->∃d,Rep false w (V i) (.s .int x) d/\∀y,d y->K y):Rep false w (.slice (some ⟨b,off,none⟩) l.length cap) (.s (.sl .int) l) K:=by
 refine .sl (.sl .int) l b off cap arr e (0,0) (λi _=>V i) (λ_ _=>K) _ n (λ_=>rfl) (by rw[zpJ];omega) c (by show off+cap*1<=arr.size;omega) f (λi j x _ _ h=>⟨h,λh=>by cases h⟩) (λh=>by cases h) (λi j p q=>?_) (λi x v j z a=>?_);{have g:j=0:=(by have:j<1:=q;omega);subst g;show arr[off+i*1+0]?=_;rw[uZ,jZ];exact u i p}
 .match j,a with
  | 0,a=>cases a;obtain⟨d,k,m⟩:=r i x v;exact k.weak m
  |j+1,a=>simp[Ty.cells]at a
def zwJ {w:World}{b o:Nat}{arr:LV}{e:TypeId}(a:w.heap[b]?=some (.cells arr e (0,0))):w.frozen? ⟨b,o,none⟩=false:=by simp[World.frozen?,a]
set_option maxHeartbeats 3000000 in
def zX5 {w:World}{blk:Nat}{u:Value}{c:Cur}{K0:zZ}{r:Ans}(N:Nat)(b5:∃e,w.heap[blk]?=some (.cells #[u,.int .i64 c.i,.int .i64 c.h] e (0,0)))(hu:Rep false w u (.s .u8 c.b) K0)(hK:∀x,K0 x->x<w.heap.size/\x≠blk)(hE:zp5 N c=some r) :
 Calls Tryz.prog 102 #[.pointer<|some ⟨blk,0,none⟩] w λe p=>∃c2 l v Kr,r=AV.agg (zcl c2)::[aS (.sl .int) l]/\e = .returned v/\Cw w blk u c2 p/\Rep false p v (.s (.sl .int) l) Kr/\(∀x,Kr x->w.heap.size<=x/\x<p.heap.size):=by
 unfold zp5 at hE;cases hm:zkd c 3 with
 |false=>rw[hm]at hE;cases hE
 |true=>
 cases K:zD (zAk c) 8 with
 |false=>rw[hm,K]at hE;cases hE
 |true=>
 rw[hm,K,cT,cT]at hE;have a7:∀{p:World} {O:Cur},Cw w blk u O p->O.b=c.b->Rep false p u (.s .u8 O.b) K0/\∀x,K0 x->x<p.heap.size/\x≠blk:=by intro p O h e;rw[e];exact⟨hu.frame λx d=>h.keep x (hK x d).1 (hK x d).2,λx d=>⟨jO (hK x d).1 h.size,(hK x d).2⟩⟩
 have hM:=(zAC hm).2.2 (by omega) (by omega)
 have a8:(zfV c).length=3:=by have:=hM.1;unfold ln at this;unfold zfV;omega
 have h5:=(zjy K).2.2 (by omega)
 obtain⟨k,hk⟩:∃k,zu (zAk c) 8=k:=⟨_,rfl⟩;have f1:z1f c=k:=hk;rw[f1]at hE
 go_enter Tryz.func102,Tryz.ntmps102
 go_wp2_with fail
 refine(z6D b5 hu hK hm).mono ?_
 rintro e L ⟨v,K1,rfl,F,b3,m⟩
 have b3:Rep true L v (.s (.sl .int)<|zfV c) K1:=b3;have F:Cw w blk u (zAk c) L:=F;obtain⟨E,t,a3,d7,e0,V,Kc,rfl,c3,g9,d1,Z,G,e9,hV,c1⟩:=z4A b3 a8;have h3:blk<w.heap.size:=by obtain⟨e,he⟩:=b5;exact(qQ.1 he).1
 have e5:E≠blk:=by have:=(m E Z).1;omega
 have cellAt:∀{p:World} {O:Cur},Cw L blk u O p->p.heap[E]?=some (.cells d7 e0 (0,0)):=λh=>(h.keep E (m E Z).2 e5).trans c3
 go_wp2_with fail
 obtain⟨g1,f2⟩:=a7 F rfl;refine(zuk F.cur g1 f2 K).mono ?_;rw[hk]
 rintro e X ⟨rfl,B⟩
 have B:Cw L blk u (zjE c) X:=B;obtain⟨g2,f3⟩:=a7 (F.trans B) rfl;have g0:=B.size;have g8:w.heap.size<=E/\E<L.heap.size:=m E Z
 have b2:∀{p:World} (i:Nat) (x:LI),(∀b,Kc i b->b<L.heap.size->b≠blk->b≠E->p.heap[b]?=L.heap[b]?)->i<3->(zfV c)[i]?=some x->Rep false p (V i) (.s .int x) (Kc i)/\∀y,Kc i y->w.heap.size<=y/\y<L.heap.size:=by intro p i x hf P d;refine⟨((c1 i x d).frame λy S=>?_).ro,λy S=>m y (G i y P S).1⟩;have:=m y (G i y P S).1;exact hf y S this.2 (by omega) (G i y P S).2
 go_wp2_with fail
 .have h0:ieq k 0=true:=by assumption
  rw[h0,cT]at hE;cases J:zD (zjE c) 3 with
  |false=>rw[J]at hE;cases hE
  |true=>
  cases b4:zD (zuu c) 4 with
  |false=>rw[J,b4]at hE;cases hE
  |true=>
   rw[J,b4,cT,cT]at hE;have hj:=(zjy J).2.2 (by omega);obtain⟨j,a0⟩:=uU hj.1;have c8:z1e c=(j:Int):=a0;have hn:=(zjy b4).2.2 (by omega);obtain⟨n,c9⟩:=uU hn.1;have f8:l04n c=(n:Int):=c9;rw[c8,f8]at hE;rw[a0]at hj;rw[c9]at hn;have e6:j<3:=(by omega);have h6:n<4:=(by omega);obtain⟨R0,c0⟩:∃R0,(zfV c)[0]?=some R0:=⟨_,qB (by omega)⟩;have e2:R0.length=4:=hM.2 R0 (qK c0);obtain⟨f,a,g,T,e1,f0,c4,c6,a9,D,W⟩:=zWv (c1 0 R0 c0) e2;have Q:∀{p:World} {O:Cur},Cw L blk u O p->p.cell? ⟨E,t,none⟩=some (.slice (some ⟨f,a,none⟩) 4 g):=λh=>(by have:=hV 0 (by omega);rw[jZ,f0] at this;rw[cell_of_block<|cellAt h];exact this);have b7:∀{p:World} {O:Cur},Cw L blk u O p->p.cell? ⟨E,t+j,none⟩=some (V j)/\p.frozen? ⟨E,t+j,none⟩=false:=λh=>by rw[cell_of_block<|cellAt h];exact⟨hV j e6,zwJ<|cellAt h⟩
   have d8:∀{I:World},Cw L blk u (z1c c) I->∃c2 l v Kr,r=AV.agg (zcl c2)::[aS (.sl .int) l]/\Ending.returned (.slice (some ⟨E,t,none⟩) 3 a3) = .returned v/\Cw w blk u c2 (I.setCell ⟨E,t+j,none⟩<|.slice (some ⟨f,a,none⟩) n g)/\Rep false (I.setCell ⟨E,t+j,none⟩<|.slice (some ⟨f,a,none⟩) n g) v (.s (.sl .int) l) Kr/\
    (∀x,Kr x->w.heap.size<=x/\x<(I.setCell ⟨E,t+j,none⟩<|.slice (some ⟨f,a,none⟩) n g).heap.size):=by
    intro I h4;have hz:=h4.size;have a6:=m f (G 0 f (by omega) D).1
    have U:f≠blk:=by omega
    have a5:f≠E:=(G 0 f (by omega) D).2
    have ho:∀b,b≠E->(I.setCell ⟨E,t+j,none⟩<|.slice (some ⟨f,a,none⟩) n g).heap[b]?=I.heap[b]?:=λb K=>heap_setCell_other I _ b _ K;have d0:=heap_setCell_same I E (t+j) d7 e0 (.slice (some ⟨f,a,none⟩) n g) (cellAt h4);have A:=F.trans h4;refine⟨_,_,_,K1,(Option.some.inj hE).symm,rfl,⟨A.os,A.tape,A.output,by rw[World.size_setCell];exact A.size,λb K hn=>(ho b (by omega)).trans (A.keep b K hn),by obtain⟨e,he⟩:=A.cur;exact⟨e,(ho blk λh=>e5 h.symm).trans he⟩⟩,?_,λx d=>⟨(m x d).1,by rw[World.size_setCell];have:=m x d;omega⟩⟩
    have c7:ix (zfV c) 0 []=R0:=by unfold ix;simp[List.getD,c0]
    have a1:(up (zfV c) (j:Int)<|tk (ix (zfV c) 0 []) (n:Int)).length=3:=by rw[zj4];exact a8
    have:=zJB d0 (l:=up (zfV c) (j:Int) (tk (ix (zfV c) 0 []) (n:Int))) (by omega) (cap:=a3) (off:=t) (by omega) (by simpa using d1) (λi=>if i=j then .slice (some ⟨f,a,none⟩) n g else V i) Z (λi P=>by
     rw[a1]at P;rw[kE]
     by_cases M:i=j
     .subst M;rw[if_pos rfl,if_pos (by omega),if_pos rfl]
     .rw [if_neg (by omega),if_neg M]
      exact hV i P) (λi x d=>by
     have P:i<3:=by rw[<- a1];exact(qA.1 d).1
     unfold up at d;rw[jC]at d
     by_cases M:i=j
     .subst M;rw[kG,if_pos rfl,if_pos (by omega),c7]at d
      cases d;refine⟨λx=>x=f,?_,λy S=>by rw[S];exact(G 0 f (by omega) D).1⟩
      have hl:(tk R0 (n:Int)).length=n:=by simp[tk];omega
      have:=zJA (o:=false) (w:=I.setCell ⟨E,t+i,none⟩ (.slice (some ⟨f,a,none⟩) n g)) (b:=f) (off:=a) (cap:=g) (arr:=T) (e:=e1) ((ho f a5).trans ((h4.keep f a6.2 U).trans c4)) (l:=tk R0 (n:Int)) (by omega) (by omega) a9 (λq z hq=>by
       unfold tk at hq;rw[jM]at hq;split at hq
       .exact W q z hq
       .cases hq)
      rw[hl] at this;rw[if_pos rfl];exact this
     .rw [kG,if_neg (by omega)]at d
      rw[if_neg M];exact⟨Kc i,(b2 i x (λb _ K hn c3=>(ho b c3).trans (h4.keep b K hn)) P d).1,λy S=>(G i y P S).1⟩)
    rw[a1] at this;exact this
   have Y:Cw L blk u (zjE c) X.drew:=B.drew;obtain⟨e8,e7⟩:=a7 (F.trans Y) rfl;have d2:=Q Y
   go_region_with (first
    |(go_at_call_of 65 (Value.int IntKind.i64 3);refine(zuk (c:=zjE c) (n:=3) Y.cur e8 e7 J).mono ?_;rw[a0];rintro e w3 ⟨rfl,H⟩;have H:Cw X.drew blk u (zuu c) w3:=H;have C:=Y.trans H;have d3:=Q C;obtain⟨g3,f4⟩:=a7 (F.trans C) rfl)
    |(go_at_call_of 65 (Value.int IntKind.i64 4);refine(zuk (c:=zuu c) (n:=4) C.cur g3 f4 b4).mono ?_;rw[c9];rintro e I ⟨rfl,b8⟩;have b8:Cw w3 blk u (z1c c) I:=b8;have b9:=C.trans b8;have d4:=Q b9;obtain⟨d5,d6⟩:=b7 b9))
   (all_goals go_wp2);(all_goals go_ret);all_goals exact d8 b9
 .have h0:ieq k 0=false:=by assumption
  have h1:ieq k 1=true:=by assumption
  rw[h0,h1,cF,cT]at hE;cases c5:zbB (zjE c) [-1,100] with
  |false=>rw[c5]at hE;cases hE
  |true=>
   rw[c5,cT]at hE;obtain⟨R1,a4⟩:∃R1,(zfV c)[1]?=some R1:=⟨_,qB (by omega)⟩;have e3:R1.length=4:=hM.2 R1 (qK a4);obtain⟨f,a,g,T,e1,e4,c4,c6,a9,D,W⟩:=zWv (c1 1 R1 a4) e3;have a6:=m f (G 1 f (by omega) D).1;have U:f≠blk:=(by omega);have a5:f≠E:=(G 1 f (by omega) D).2;have R:∀{p:World} {O:Cur},Cw L blk u O p->p.cell? ⟨E,t+1,none⟩=some (.slice (some ⟨f,a,none⟩) 4 g):=λh=>(by have:=hV 1 (by omega);rw[e4] at this;rw[cell_of_block<|cellAt h];exact this);have a2:∀{p:World} {O:Cur},Cw L blk u O p->p.heap[f]?=some (.cells T e1 (0,0)):=λh=>(h.keep f a6.2 U).trans c4;have b6:∀{p:World} {O:Cur},Cw L blk u O p->p.cell? ⟨f,a+2,none⟩=some (.int .i64 R1[2])/\p.frozen? ⟨f,a+2,none⟩=false:=λh=>by rw[cell_of_block<|a2 h];exact⟨W 2 _<|qB (by omega),zwJ<|a2 h⟩
   have Y:Cw L blk u (zjE c) X.drew:=B.drew;have d2:=R Y;have d9:∀{I:World},Cw L blk u (z1d c) I->∃c2 l v Kr,r=AV.agg (zcl c2)::[aS (.sl .int) l]/\Ending.returned (.slice (some ⟨E,t,none⟩) 3 a3) = .returned v/\Cw w blk u c2 (I.setCell ⟨f,a+2,none⟩<|.int .i64<|zvG c)/\Rep false (I.setCell ⟨f,a+2,none⟩<|.int .i64<|zvG c) v (.s (.sl .int) l) Kr/\
    (∀x,Kr x->w.heap.size<=x/\x<(I.setCell ⟨f,a+2,none⟩<|.int .i64<|zvG c).heap.size):=by
    intro I h4;have hz:=h4.size;have ho:∀b,b≠f->(I.setCell ⟨f,a+2,none⟩<|.int .i64<|zvG c).heap[b]?=I.heap[b]?:=λb K=>heap_setCell_other I _ b _ K;have d0:=heap_setCell_same I f (a+2) T e1 (.int .i64<|zvG c) (a2 h4);have A:=F.trans h4;refine⟨_,_,_,K1,(Option.some.inj hE).symm,rfl,⟨A.os,A.tape,A.output,by rw[World.size_setCell];exact A.size,λb K hn=>(ho b (by omega)).trans (A.keep b K hn),by obtain⟨e,he⟩:=A.cur;exact⟨e,(ho blk λh=>U h.symm).trans he⟩⟩,?_,λx d=>⟨(m x d).1,by rw[World.size_setCell];have:=m x d;omega⟩⟩
    have c7:ix (zfV c) 1 []=R1:=by unfold ix;show (zfV c).getD 1 []=R1;simp[List.getD,a4]
    have a1:(up (zfV c) 1<|up (ix (zfV c) 1 []) 2<|zvG c).length=3:=by rw[zj4];exact a8
    have:=zJB ((ho E λh=>a5 h.symm).trans (cellAt h4)) (l:=up (zfV c) 1 (up (ix (zfV c) 1 []) 2<|zvG c)) (by omega) (cap:=a3) (off:=t) (by omega) d1 V Z (λi P=>hV i (by omega)) (λi x d=>by
     have P:i<3:=by rw[<- a1];exact(qA.1 d).1
     unfold up at d;rw[jC]at d
     by_cases M:i=1
     .subst M;rw[show (1:Int).toNat=1 from rfl,if_pos rfl,if_pos (by omega),c7]at d
      cases d;refine⟨λx=>x=f,?_,λy S=>by rw[S];exact(G 1 f (by omega) D).1⟩
      have hl:(List.set R1 (2:Int).toNat<|zvG c).length=4:=by simp;omega
      have:=zJA (o:=false) (w:=I.setCell ⟨f,a+2,none⟩ (.int .i64<|zvG c)) (b:=f) (off:=a) (cap:=g) d0 (l:=List.set R1 (2:Int).toNat (zvG c)) (by omega) (by omega) (by simpa using a9) (λq z hq=>by
       rw[jC]at hq;rw[kE]
       by_cases f9:q=2
       .subst f9;rw[show (2:Int).toNat=2 from rfl,if_pos rfl,if_pos (by omega)]at hq
        cases hq;rw[if_pos rfl,if_pos (by omega)]
       .rw [show (2:Int).toNat=2 from rfl,if_neg (by omega)]at hq
        rw[if_neg (by omega)]
        exact W q z hq)
      rw[hl] at this;rw[e4];exact this
     .rw [show (1:Int).toNat=1 from rfl,if_neg (by omega)]at d
      refine⟨Kc i,(b2 i x (λb f6 K hn g7=>?_) P d).1,λy S=>(G i y P S).1⟩;exact(ho b λe=>M (e9 i 1 b P (by omega) f6 (by rw[e];exact D))).trans (h4.keep b K hn))
    rw[a1] at this;exact this
   have hA:Cw L blk u (zjE c) (X.alloc<|Obj.cells #[Value.int .i64<|-1,Value.int .i64 100] 3).drew:=(B.alloc B.lt _).drew;obtain⟨g4,f5⟩:=a7 (F.trans hA) rfl;have dA:=R hA;have g5:Rep false (X.alloc<|Obj.cells #[Value.int .i64<|-1,Value.int .i64 100] 3).drew (.slice (some ⟨X.heap.size,0,none⟩) 2 2) (.s .int [-1,100]) (λx=>x=X.heap.size):=by
    have hh:(X.alloc<|Obj.cells #[Value.int .i64<|-1,Value.int .i64 100] 3).drew.heap[X.heap.size]?=some (.cells #[Value.int .i64<|-1,Value.int .i64 100] 3 (0,0)):=heap_alloc_new X _;exact zJA (o:=false) hh (l:=[-1,100]) (cap:=2) (off:=0) (by decide) (by decide) (by decide) (λi x d=>by
     match i,d with
     | 0,d=>cases d;rfl
     | 1,d=>cases d;rfl
     |i+2,d=>simp at d)
   go_region_with (first
    |(go_at_call_of 101 (Value.slice (some ⟨X.heap.size,0,none⟩) 2 2);refine(z4s (c:=zjE c) (l:=[-1,100]) hA.cur g4 f5 c5 g5 (λx d=>by rw[d];exact⟨by simp,Nat.ne_of_gt B.lt⟩)).mono ?_;rintro e w3 ⟨rfl,H⟩;have H:Cw (X.alloc<|Obj.cells #[Value.int .i64<|-1,Value.int .i64 100] 3).drew blk u (z1d c) w3:=H;have C:=hA.trans H;have d3:=R C;obtain⟨d4,d5⟩:=b6 C))
   (all_goals go_wp2);(all_goals go_ret);all_goals exact d9 C
 .have h0:ieq k 0=false:=by assumption
  have h1:ieq k 1=false:=by assumption
  have h2:ieq k 2=true:=by assumption
  rw[h0,h1,h2,cF,cF,cT]at hE;cases J:zD (zjE c) 3 with
  |false=>rw[J]at hE;cases hE
  |true=>
   rw[J,cT]at hE;have hj:=(zjy J).2.2 (by omega);obtain⟨j,a0⟩:=uU hj.1;have c8:z1e c=(j:Int):=a0;rw[c8]at hE;refine(zuk B.cur g2 f3 J).mono ?_;rw[a0];rintro e w3 ⟨rfl,H⟩;have H:Cw X blk u (zuu c) w3:=H;go_wp2;go_ret;have e6:j<3:=(by omega);have f7:(tk (zfV c) (j:Int)).length=j:=(by simp[tk];omega);have C:=B.trans H;refine⟨_,_,_,K1,(Option.some.inj hE).symm,rfl,F.trans C,?_,λx d=>⟨(m x d).1,by have:=m x d;have:=C.size;omega⟩⟩
   have:=zJB (cellAt C) (l:=tk (zfV c) (j:Int)) (by omega) (cap:=a3) (off:=t) (by omega) d1 V Z (λi P=>hV i (by omega)) (λi x d=>by
    have P:i<(tk (zfV c) (j:Int)).length:=(qA.1 d).1;have g6:(zfV c)[i]?=some x:=by unfold tk at d;rw[jM]at d;split at d;{exact d};{cases d}
    exact⟨Kc i,(b2 i x (λb _ K hn _=>C.keep b K hn) (by omega) g6).1,λy S=>(G i y (by omega) S).1⟩)
   rw[f7] at this;exact this
 .have h0:ieq k 0=false:=by assumption
  have h1:ieq k 1=false:=by assumption
  have h2:ieq k 2=false:=by assumption
  rw[h0,h1,h2,cF,cF,cF]at hE
  go_ret
  exact⟨_,_,_,K1,(Option.some.inj hE).symm,rfl,F.trans B,(b3.frame λx d=>B.keep x (m x d).2 (by have:=m x d;omega)).ro,λx d=>⟨(m x d).1,by have:=m x d;omega⟩⟩
def zU9 {c:Cur}(h:zbk c):zq7 c=true:=by
 refine z1I c ⟨0,?_⟩;unfold zp5;have t:=zbcD h (a0:=3) (by omega) (by omega);have y:zbk (zAk c):=zb0 h (z1L _ _);have k:zbk (zjE c):=zb0 h (zJ _ _);have z:zbk (zuu c):=zb0 h (zJ _ _);have p:=(zAC t).2.2 (by omega) (by omega);have A:(zfV c).length=3:=(by have:=p.1;unfold ln at this;unfold zfV;omega);have f:∀r∈zfV c,r.length<=4:=λr f=>k6 (p.2 r f);have u:∀n,(ix (zfV c) n []).length<=4:=(by intro n;unfold ix List.getD;cases e:(zfV c)[n.toNat]? with|none=>simp|some r=>exact f r (qK e));have g:∀(n:Int) (r:LI),r.length<=4->∀q∈up (zfV c) n r,q.length<=4:=by intro n r j q e;rcases qZ e with e|rfl;{exact f q e};{exact j}
 have d:∀(s:Cur) (l:List LI),s.b=c.b->0<=s.i->l.length<=3->(∀r∈l,r.length<=4)->Ends (λa=>∃s m,a=(AV.agg (zcl s)::[aS (.sl .int) m])/\(s.b=c.b/\0<=s.i)/\(m.length<=3/\∀r∈m,r.length<=4)) (some (AV.agg (zcl s)::[aS (.sl .int) l])):=
  λs l v w x j=>⟨_,rfl,s,l,rfl,⟨v,w⟩,x,j⟩
 exact zI t (zI (zbF y 8) (zbK (λ_=>zI (zbF k 3) (zI (zbF z 4) (d _ _ rfl (zJ _ _) (by rw[zj4];omega) (g _ _<|qU (zDP _ _)<|u _))))
  (λ_=>zbK (λ_=>zI (zgs k (by simp)) (d _ _ rfl (zcu _ _) (by rw[zj4];omega) (g _ _ (by rw[zj4];exact u _)))) λ_=>zbK (λ_=>zI (zbF k 3) (d _ _ rfl (zJ _ _) (qU (zDP _ _) (by omega)) λr e=>f r (jY e))) λ_=>d _ _ rfl (zJ _ _) (by omega) f)))
def zOS:zcc Tryz.prog 102 [false,true,true] ztR:=by
 refine⟨zkJ (by kernel_rfl),?_⟩;intro w blk d e cs K T xs Ka U rs D P a4 k A X n W g;unfold ztR rP0 at g;obtain⟨⟨p,q,r⟩,rfl,g⟩:=z4n g;obtain⟨rfl,R,rfl,rfl⟩:=zw3 g;dsimp only at R ⊢;have hs:d.size=3:=P;have M:xs=[]:=List.eq_nil_of_length_eq_zero n.1;subst M;obtain⟨N,hE⟩:=(zM5 R).1;have v1:=(k 1 _ (d[1]'(by omega)) rfl (jL _)).int_inv;have v2:=(k 2 _ (d[2]'(by omega)) rfl (jL _)).int_inv
 have m:d = #[d[0]'(by omega),.int .i64 q,.int .i64 r]:=by
  apply Array.ext;{exact hs}
  .intro i E hi2
   match i,E with
   | 0,_=>rfl
   | 1,_=>exact v1
   | 2,_=>exact v2
   |i+3,h=>omega
 have hu:=k 0 _ (d[0]'(by omega)) rfl (jL _);have f:Rep false w (d[0]'(by omega)) (.s .u8 p) (K 0):=hu;generalize d[0]'(by omega)=u at m f;subst m;refine(zX5 (c:=⟨p,q,r⟩) (u:=u) (K0:=K 0) N ⟨e,D⟩ f (λx n=>A 0 x (show 0<3 by decide) n) hE).mono ?_;rintro e2 w' ⟨z,l,v,S,hr,rfl,y,Y,t⟩;have B:AV.agg (zcl<|zkc ⟨p,q,r⟩)::[aS (.sl .int)<|zr4 ⟨p,q,r⟩]=AV.agg (zcl z)::[aS (.sl .int) l]:=hr;simp only[List.cons.injEq,AV.agg.injEq,AV.one.injEq,and_true]at B;obtain⟨C,I⟩:=B;have I:zr4 ⟨p,q,r⟩=l:=(by cases I;rfl);subst I;have O:zkc ⟨p,q,r⟩=z:=(by have C:=C;simp only[zcl,List.cons.injEq,CV.s.injEq,CV.i.injEq,true_and,and_true,heq_eq_eq]at C;obtain⟨F,G,H⟩:=C;generalize zkc ⟨p,q,r⟩=s at F G H;obtain⟨a1,a2,a3⟩:=s;obtain⟨b1,b2,b3⟩:=z;simp only at F G H;rw[F,G,H]);rw[O];obtain⟨V,J⟩:=y.cur;refine⟨y.os,y.tape,y.output,y.size,λb D hn _=>y.keep b D hn,#[u,.int .i64 z.i,.int .i64 z.h],V,λ_ _=>False,[v],λ_=>S,J,rfl,rfl,?_,⟨rfl,λi Q x a n=>?_⟩,rfl,λj x _ h=>h.elim,λi x E L=>⟨(t x L).2,?_,.inr (t x L).1⟩,λi j x _ _ _ h=>h.elim,?_,λi j x _ _ h=>h.elim⟩
 .intro j Q u' a f
  match j,a,f with
  | 0,a,f=>cases a;exact⟨λh=>by simp[zbe]at h,λ_=>f⟩
  | 1,a,f=>cases a;cases f;rfl
  | 2,a,f=>cases a;cases f;rfl
  |j+3,a,f=>simp[zcl]at a
 .match i,a,n with
  | 0,a,n=>cases a;cases n;exact Y
  |i+1,a,n=>simp at n
 {have:=(qQ.1 D).1;have:=(t x L).1;omega};{intro i j Q x E ho Z a0 _;have h1:i<1:=(qA.1 E).1;have h2:j<1:=Z;omega}
def z9q:zdj:=[(102,[false,true,true],ztR)]++z9p
def zWk:zco z9q:=zcZ z6R (by
 intro x a;simp only[qG,qN,or_false]at a;rcases a with rfl
 .exact zOS)
end
end
end Go.Proofs.YtdlfljbgoopanaaGreat.E
