/- What is proved here: a part of the proof that the statement of this claim holds (several texts of wip/, laid together). -/
import Derived.Test.YtldknngdnednbaaGreatW4
import Derived.Shelf.Bits.Mul64
import Derived.Ground.NamesProg
import Derived.Laws.CopyOwn
import Derived.Deep.RegionLaw
import Derived.WalkKit
import Derived.Tactics2
import Derived.Test.YtldknngdnednbaaGreatProg
namespace Go.Proofs.YtldknngdnednbaaGreat.E
open Go
set_option linter.unusedVariables false
set_option maxRecDepth 100000
set_option linter.unusedSimpArgs false
set_option linter.unusedSectionVars false
noncomputable section
def zma:zbu:=[(114,zhE),(46,zhF),(110,ziP),(76,ziQ)]++zor
theorem zfP:zbE zma:=zl zp6 (zl zp7 (zl zrQ (zl zrR zgN)))
theorem zIn {a b:Bool}(h:(a=true)↔(b=true)):a=b:=by cases a<;>cases b<;>simp_all
@[simp] theorem zTR (x:Int):win x 0 3=hasB x 4:=zIn (by rw [zf0];unfold hasB;rw [decide_eq_true_iff];omega)
@[simp] theorem zCS (x:Int):win x 0 7=hasB x 8:=zIn (by rw [zf0];unfold hasB;rw [decide_eq_true_iff];omega)
def zd6 (t:List Slot)(p:Int)(s:Slot):List Slot:=bif hasB p (ln t) then up t p s else t
@[simp] theorem zS8 (t:List Slot)(p:Int)(s:Slot):(zd6 t p s).length=t.length:=by
 unfold zd6;cases hasB p (ln t)<;>simp
@[simp,reducible] def zkQ (t:List Slot)(p:Int)(s:Slot):Bool:=pc (t.length<=1048576)
@[simp,reducible] def zhN (t:List Slot)(p:Int)(s:Slot):List Slot:=zd6 t p s
def zlW:List AV->Option (Bool×List AV)
 | [.one (.s .slot b),.one (.i .i64 c),.agg [.i .i64 d,.i .i64 e]]=>some ((zkQ b c (⟨d,e⟩:Slot)),[.one (.s .slot (zhN b c (⟨d,e⟩:Slot)))])
 | _=>none
def zpS (N:Nat)(a0:List Slot)(a1:Int)(a2:Slot):Option Ans :=
 (cond (few (ln (ap [] a0))) (cond (zN a1 0 (wsub .i64 (ln a0) 1)) (cond (zT a1 0 (wsub .i64 (ln a0) 1)) (cond (inb a1 (ln (ap [] a0))) (share (up (ap [] a0) a1 a2) (fun x4=>(some [(.one (.s .slot x4))]))) none) (some [(.one (.s .slot (ap [] a0)))])) none) none)
theorem zHJ (N:Nat)(a0:List Slot)(a1:Int)(a2:Slot):evalFn (cQ zma zL zF zG) (zB []) N 12 100 [.one (.s .slot a0),.one (.i .i64 a1),.agg (Ty.cells .slot a2)]=zpS N a0 a1 a2:=by kernel_rfl
theorem zEB (a0:List Slot)(a1:Int)(a2:Slot)(hb:zD big [.one (.s .slot a0),.one (.i .i64 a1),.agg (Ty.cells .slot a2)])(hc:(zkQ a0 a1 a2)=true):∃N,zpS N a0 a1 a2=some [.one (.s .slot (zhN a0 a1 a2))]:=by
 have hs:=zI.1 hc;refine ⟨0,?_⟩;unfold zpS;refine must (by first|assumption|(simp_all<;>omega)) (must rfl (br (fun _=>must (by first|assumption|(simp_all<;>omega)) (shr ?_)) (fun _=>?_)))
 all_goals first|rfl|(simp only [*,zhN,zd6,cT,cF]<;>rfl)|simp_all [Ty.cells,zhN,zd6]
theorem zzG:Holds Tryz.prog 100 zlW:=zn zfP zA zq zu (zC (by kernel_rfl)) fun avs rs hb h=>by
 unfold zlW at h;split at h
 ·obtain ⟨hc,rfl⟩:=zi h;exact (zd1 zEB zHJ hc hb :)
 ·cases h
@[simp,reducible] def zj5 (t:List Slot)(p:Int)(s:Slot):Bool:=pc (t.length<=1048576)
@[simp,reducible] def zeR (t:List Slot)(p:Int)(s:Slot):List Slot:=zd6 t p s
def zlz:List AV->Option (Bool×List AV)
 | [.one (.s .slot b),.one (.i .i64 c),.agg [.i .i64 d,.i .i64 e]]=>some ((zj5 b c (⟨d,e⟩:Slot)),[.one (.s .slot (zeR b c (⟨d,e⟩:Slot)))])
 | _=>none
def zpt (N:Nat)(a0:List Slot)(a1:Int)(a2:Slot):Option Ans :=
 (cond (zf8 a0) (cond (zcF a1 (ln a0)) (cond (zda a1 (ln a0)) (cond (inb a1 (ln (zdI a0))) (share (up (zdI a0) a1 a2) (fun x4=>(some [(.one (.s .slot x4))]))) none) (some [(.one (.s .slot (zdI a0)))])) none) none)
theorem zHi (N:Nat)(a0:List Slot)(a1:Int)(a2:Slot):evalFn (cQ zma zL zF zG) (zB []) N 12 180 [.one (.s .slot a0),.one (.i .i64 a1),.agg (Ty.cells .slot a2)]=zpt N a0 a1 a2:=by kernel_rfl
theorem zEa (a0:List Slot)(a1:Int)(a2:Slot)(hb:zD big [.one (.s .slot a0),.one (.i .i64 a1),.agg (Ty.cells .slot a2)])(hc:(zj5 a0 a1 a2)=true):∃N,zpt N a0 a1 a2=some [.one (.s .slot (zeR a0 a1 a2))]:=by
 have hs:=zI.1 hc;refine ⟨0,?_⟩;unfold zpt;refine must (by first|assumption|(simp_all<;>omega)) (must rfl (br (fun _=>must (by first|assumption|(simp_all<;>omega)) (shr ?_)) (fun _=>?_)))
 all_goals first|rfl|(simp only [*,zeR,zd6,cT,cF]<;>rfl)|simp_all [Ty.cells,zeR,zd6]
theorem zzf:Holds Tryz.prog 180 zlz:=zn zfP zA zq zu (zC (by kernel_rfl)) fun avs rs hb h=>by
 unfold zlz at h;split at h
 ·obtain ⟨hc,rfl⟩:=zi h;exact (zd1 zEa zHi hc hb :)
 ·cases h
def zdV (p n:Int):Bool:=bif zfx p then win n 0 7 else false
def zmv (p n:Int):Int:=bif zdV p n then wor .i64 p (zhY .i64 1 n) else p
theorem cv7 {n:Int}(h:hasB n 8=true):wcv .u64 n=n/\ile 0 n=true:=by
 have:=of_decide_eq_true h;exact ⟨zFn (by omega) (by omega),decide_eq_true (by omega)⟩
@[simp,reducible] def zgu (p n:Int):Bool:=true
@[simp,reducible] def zek (p n:Int):Int:=zmv p n
@[simp,reducible] def zix (p n:Int):Bool:=zdV p n
def zn9:List AV->Option (Bool×List AV)
 | [.one (.i .i64 c),.one (.i .i64 d)]=>some ((zgu c d),[.one (.i .i64 (zek c d)),.one (.b (zix c d))])
 | _=>none
def zsW (N:Nat)(a0 a1:Int):Option Ans :=
 (cond (zfZ a0) (cond (cond (ze9 a0) false true) (some [(.one (.i .i64 a0)),(.one (.b false))]) (cond (zN a1 0 7) (cond (cond (zT a1 0 7) false true) (some [(.one (.i .i64 a0)),(.one (.b false))]) (cond (ile 0 (wcv .u64 a1)) (some [(.one (.i .i64 (wor .i64 a0 (zhY .i64 1 (wcv .u64 a1))))),(.one (.b true))]) none)) none)) none)
theorem zKo (N:Nat)(a0 a1:Int):evalFn (cQ zma zL zF zG) (zB []) N 12 104 [.one (.i .i64 a0),.one (.i .i64 a1)]=zsW N a0 a1:=by kernel_rfl
theorem zGV (a0 a1:Int)(hb:zD big [.one (.i .i64 a0),.one (.i .i64 a1)])(hc:(zgu a0 a1)=true):∃N,zsW N a0 a1=some [.one (.i .i64 (zek a0 a1)),.one (.b (zix a0 a1))]:=by
 have hw:=@cv7 a1;refine ⟨0,?_⟩;unfold zsW;refine must rfl (brN (fun _=>?_) (fun _=>must rfl (brN (fun _=>?_) (fun _=>must (by first|assumption|(simp_all<;>omega)) ?_))))
 all_goals first|rfl|(simp only [*,zek,zix,zmv,zdV,cT,cF]<;>rfl)|simp_all [Ty.cells,zek,zix,zmv,zdV]
theorem zBw:Holds Tryz.prog 104 zn9:=zn zfP zA zq zu (zC (by kernel_rfl)) fun avs rs hb h=>by
 unfold zn9 at h;split at h
 ·obtain ⟨hc,rfl⟩:=zi h;exact (fin2 zGV zKo hc hb :)
 ·cases h
@[simp,reducible] def zgp (p n:Int):Bool:=true
@[simp,reducible] def zdF (p n:Int):Int:=zmv p n
@[simp,reducible] def zie (p n:Int):Bool:=zdV p n
def znH:List AV->Option (Bool×List AV)
 | [.one (.i .i64 c),.one (.i .i64 d)]=>some ((zgp c d),[.one (.i .i64 (zdF c d)),.one (.b (zie c d))])
 | _=>none
def zss (N:Nat)(a0 a1:Int):Option Ans :=
 (cond (zfR a0) (cond (cond (zfQ a0) false true) (some [(.one (.i .i64 a0)),(.one (.b false))]) (cond (zQ a1 0 7) (cond (cond (zX a1 0 7) false true) (some [(.one (.i .i64 a0)),(.one (.b false))]) (cond (ile 0 a1) (some [(.one (.i .i64 (wor .i64 a0 (zhY .i64 1 a1)))),(.one (.b true))]) none)) none)) none)
theorem zJV (N:Nat)(a0 a1:Int):evalFn (cQ zma zL zF zG) (zB []) N 12 186 [.one (.i .i64 a0),.one (.i .i64 a1)]=zss N a0 a1:=by kernel_rfl
theorem zGs (a0 a1:Int)(hb:zD big [.one (.i .i64 a0),.one (.i .i64 a1)])(hc:(zgp a0 a1)=true):∃N,zss N a0 a1=some [.one (.i .i64 (zdF a0 a1)),.one (.b (zie a0 a1))]:=by
 have hw:=@cv7 a1;refine ⟨0,?_⟩;unfold zss;refine must rfl (brN (fun _=>?_) (fun _=>must rfl (brN (fun _=>?_) (fun _=>must (by first|assumption|(simp_all<;>omega)) ?_))))
 all_goals first|rfl|(simp only [*,zdF,zie,zmv,zdV,cT,cF]<;>rfl)|simp_all [Ty.cells,zdF,zie,zmv,zdV]
theorem zA4:Holds Tryz.prog 186 znH:=zn zfP zA zq zu (zC (by kernel_rfl)) fun avs rs hb h=>by
 unfold znH at h;split at h
 ·obtain ⟨hc,rfl⟩:=zi h;exact (fin2 zGs zJV hc hb :)
 ·cases h
def posts (c:Ctl)(n:Int):Bool:=bif zgC c then (cond (win n 0 7) (ieq (wand .i64 (zcK .i64 c.Post n) 1) 1) false) else false
@[simp,reducible] def zxw (c:Ctl)(n:Int):Bool:=true
@[simp,reducible] def zuA (c:Ctl)(n:Int):Bool:=posts c n
def ztL:List AV->Option (Bool×List AV)
 | [.agg [.i .i64 c,.i .i64 d,.b e],.one (.i .i64 f)]=>some ((zxw (⟨c,d,e⟩:Ctl) f),[.one (.b (zuA (⟨c,d,e⟩:Ctl) f))])
 | _=>none
def zwE (N:Nat)(a0:Ctl)(a1:Int):Option Ans :=
 (cond (zmW a0) (cond (zl2 a0) (cond (zN a1 0 7) (cond (zT a1 0 7) (cond (ile 0 (wcv .u64 a1)) (some [(.one (.b (ieq (wand .i64 (zcK .i64 a0.Post (wcv .u64 a1)) 1) 1)))]) none) (some [(.one (.b false))])) none) (some [(.one (.b false))])) none)
theorem zOc (N:Nat)(a0:Ctl)(a1:Int):evalFn (cQ zma zL zF zG) (zB []) N 12 148 [.agg (zeb a0),.one (.i .i64 a1)]=zwE N a0 a1:=by kernel_rfl
theorem zLF (a0:Ctl)(a1:Int)(hb:zD big [.agg (zeb a0),.one (.i .i64 a1)])(hc:(zxw a0 a1)=true):∃N,zwE N a0 a1=some [.one (.b (zuA a0 a1))]:=by
 have hw:=@cv7 a1;refine ⟨0,?_⟩;unfold zwE;refine must rfl (br (fun _=>must rfl (br (fun _=>must (by first|assumption|(simp_all<;>omega)) ?_) (fun _=>?_))) (fun _=>?_))
 all_goals first|rfl|(simp only [*,zuA,posts,cT,cF]<;>rfl)|simp_all [Ty.cells,zuA,posts]
theorem zGa:Holds Tryz.prog 148 ztL:=zn zfP zA zq zu (zC (by kernel_rfl)) fun avs rs hb h=>by
 unfold ztL at h;split at h
 ·obtain ⟨hc,rfl⟩:=zi h;exact (fin2 zLF zOc hc hb :)
 ·cases h
@[simp,reducible] def zxc (c:Ctl)(n:Int):Bool:=true
@[simp,reducible] def zuj (c:Ctl)(n:Int):Bool:=posts c n
def ztx:List AV->Option (Bool×List AV)
 | [.agg [.i .i64 c,.i .i64 d,.b e],.one (.i .i64 f)]=>some ((zxc (⟨c,d,e⟩:Ctl) f),[.one (.b (zuj (⟨c,d,e⟩:Ctl) f))])
 | _=>none
def zwq (N:Nat)(a0:Ctl)(a1:Int):Option Ans :=
 (cond (zmN a0) (cond (zlf a0) (cond (zQ a1 0 7) (cond (zX a1 0 7) (cond (ile 0 a1) (some [(.one (.b (ieq (wand .i64 (zcK .i64 a0.Post a1) 1) 1)))]) none) (some [(.one (.b false))])) none) (some [(.one (.b false))])) none)
theorem zNY (N:Nat)(a0:Ctl)(a1:Int):evalFn (cQ zma zL zF zG) (zB []) N 12 213 [.agg (zeb a0),.one (.i .i64 a1)]=zwq N a0 a1:=by kernel_rfl
theorem zLr (a0:Ctl)(a1:Int)(hb:zD big [.agg (zeb a0),.one (.i .i64 a1)])(hc:(zxc a0 a1)=true):∃N,zwq N a0 a1=some [.one (.b (zuj a0 a1))]:=by
 have hw:=@cv7 a1;refine ⟨0,?_⟩;unfold zwq;refine must rfl (br (fun _=>must rfl (br (fun _=>must (by first|assumption|(simp_all<;>omega)) ?_) (fun _=>?_))) (fun _=>?_))
 all_goals first|rfl|(simp only [*,zuj,posts,cT,cF]<;>rfl)|simp_all [Ty.cells,zuj,posts]
theorem zFW:Holds Tryz.prog 213 ztx:=zn zfP zA zq zu (zC (by kernel_rfl)) fun avs rs hb h=>by
 unfold ztx at h;split at h
 ·obtain ⟨hc,rfl⟩:=zi h;exact (fin2 zLr zNY hc hb :)
 ·cases h
def zby (b:Bare)(g:Int):Bool:=bif zbO b then hasB g (ln b.Guests) else false
theorem zcj {b:Bare}{g:Int}:(zby b g=true)↔zbO b=true/\hasB g (ln b.Guests)=true:=by
 unfold zby;cases zbO b<;>simp
@[simp,reducible] def zeW (b:Bare)(g:Int):Bool:=pc (SmB b)
@[simp,reducible] def zfF (b:Bare)(g:Int):Bool:=zby b g
def ztN:List AV->Option (Bool×List AV)
 | [.agg [.s (.sl .int) c,.s .guest d,.s .int e,.i .i64 f],.one (.i .i64 g)]=>some ((zeW (⟨c,d,e,f⟩:Bare) g),[.one (.b (zfF (⟨c,d,e,f⟩:Bare) g))])
 | _=>none
def zwI (N:Nat)(a0:Bare)(a1:Int):Option Ans :=
 (cond (zfW a0) (cond (zcO a0) (cond (zN a1 0 (wsub .i64 (ln a0.Guests) 1)) (some [(.one (.b (zT a1 0 (wsub .i64 (ln a0.Guests) 1))))]) none) (some [(.one (.b false))])) none)
theorem zOe (N:Nat)(a0:Bare)(a1:Int):evalFn (cQ zma zL zF zG) (zB []) N 12 98 [.agg (Ty.cells .bare a0),.one (.i .i64 a1)]=zwI N a0 a1:=by kernel_rfl
theorem zLH (a0:Bare)(a1:Int)(hb:zD big [.agg (Ty.cells .bare a0),.one (.i .i64 a1)])(hc:(zeW a0 a1)=true):∃N,zwI N a0 a1=some [.one (.b (zfF a0 a1))]:=by
 have hs:=zI.1 hc;have hl:a0.Guests.length<=1048576:=hs.2.1.1
 refine ⟨0,?_⟩;unfold zwI;refine must rfl (br (fun _=>must rfl ?_) (fun _=>?_))
 all_goals first|rfl|(simp only [*,zfF,zby,cT,cF]<;>rfl)|simp_all [Ty.cells,zfF,zby]
theorem zGc:Holds Tryz.prog 98 ztN:=zn zfP zA zq zu (zC (by kernel_rfl)) fun avs rs hb h=>by
 unfold ztN at h;split at h
 ·obtain ⟨hc,rfl⟩:=zi h;exact (fin2 zLH zOe hc hb :)
 ·cases h
@[simp,reducible] def zou (b:Bare)(g:Int):Bool:=pc (SmB b)
@[simp,reducible] def zd2 (b:Bare)(g:Int):GExit:=(gAt b g).Exit
def zqA:List AV->Option (Bool×List AV)
 | [.agg [.s (.sl .int) b,.s .guest c,.s .int d,.i .i64 e],.one (.i .i64 f)]=>some ((zou (⟨b,c,d,e⟩:Bare) f),[.agg (zcY (zd2 (⟨b,c,d,e⟩:Bare) f))])
 | _=>none
def zuK (N:Nat)(a0:Bare)(a1:Int):Option Ans :=
 (cond (zcm a0 a1) (some [(.agg [(.i .i64 (zh a0 a1).Exit.Kind),(.i .i64 (zh a0 a1).Exit.Page),(.b (zh a0 a1).Exit.Write),(.i .i64 (zh a0 a1).Exit.N)])]) none)
theorem zLN (N:Nat)(a0:Bare)(a1:Int):evalFn (cQ zma zL zF zG) (zB []) N 12 183 [.agg (Ty.cells .bare a0),.one (.i .i64 a1)]=zuK N a0 a1:=by kernel_rfl
theorem zIT (a0:Bare)(a1:Int)(hb:zD big [.agg (Ty.cells .bare a0),.one (.i .i64 a1)])(hc:(zou a0 a1)=true):∃N,zuK N a0 a1=some [.agg (zcY (zd2 a0 a1))]:=by
 have hs:=zI.1 hc;refine ⟨0,?_⟩;unfold zuK;refine must (by first|assumption|(simp_all<;>omega)) ?_
 first|rfl|(simp only [*,zd2,cT,cF]<;>rfl)|simp_all [Ty.cells,zd2]
theorem zC9:Holds Tryz.prog 183 zqA:=zn zfP zA zq zu (zC (by kernel_rfl)) fun avs rs hb h=>by
 unfold zqA at h;split at h
 ·obtain ⟨hc,rfl⟩:=zi h;exact (fin2 zIT zLN hc hb :)
 ·cases h
def zdY:zbu:=[(100,zlW),(180,zlz),(104,zn9),(186,znH),(148,ztL),(213,ztx),(98,ztN),(183,zqA)]++zma
theorem zcC:zbE zdY:=zl zzG (zl zzf (zl zBw (zl zA4 (zl zGa (zl zFW (zl zGc (zl zC9 zfP)))))))
theorem zQM {α:Type}{l:List α}{i:Int}{d:α}(h:hasB i (ln l)=true):up l i (ix l i d)=l:=by
 obtain ⟨k,rfl,hk⟩:=zC3 (n:=l.length) h;unfold up;rw [zbx hk,Int.toNat_natCast];exact List.set_getElem_self hk
theorem zmJ {b:Bare}{g:Int}(h:hasB g (ln b.Guests)=true):gAt b g=ix b.Guests g zo:=by
 unfold gAt;rw [h];rfl
theorem zPr {b:Bare}{g:Int}(h:hasB g (ln b.Guests)=true):zc7 b g (gAt b g)=b:=by
 unfold zc7;rw [zmJ h,zQM h]
def chg (b:Bare)(g:Int)(c:Bool)(x:Guest):Bare:=bif (cond (zby b g) c false) then zc7 b g x else b
def zbY (b:Bare)(g:Int)(c:Bool):Bool:=bif zby b g then c else false
def ztY (p:Int)(s:Slot):Bool:=bif hasB p 4 then zgk s 8 else false
def zok (x:Guest)(p:Int)(s:Slot):Guest:={ x with Written:=zd6 x.Written p s }
def zf3 (x:Guest)(p:Int):Guest:={ x with Live:=zd6 x.Live p (ziA x.Written p) }
def zgf:GExit:=⟨0,0,false,0⟩
def zs7 (x:Guest)(v:Int):Bool:=bif win v 0 99 then (cond (ieq x.Exit.Kind 2) true (ieq x.Exit.Kind 3)) else false
def zpW (x:Guest)(v:Int):Guest:=zbB (stopped (cond (ieq x.Exit.Kind 2) { x with A:=v } x) zgf)
def ztp (x:Guest):Bool:=bif ieq x.Exit.Kind 1 then true else ieq x.Exit.Kind 4
def zqv (x:Guest):Guest:=bif ieq x.Exit.Kind 1 then stopped x zgf else held (stopped x zgf)
def zhS (x:Guest)(n:Int):Guest:={ x with Pending:=zmv x.Pending n }
def zyT (x:Guest)(c:Ctl):Guest:={ x with Ctl:=c }
theorem zR2 {x:Guest}{n:Int}(h:zdV x.Pending n=false):zhS x n=x:=by
 unfold zhS zmv;rw [h];rfl
theorem zKH {x:Guest}(p:Int)(s:Slot)(h:SmG x):SmG (zok x p s):=⟨h.1,by simpa [zok] using h.2.1,h.2.2.1,h.2.2.2⟩
theorem zCD {x:Guest}(p:Int)(h:SmG x):SmG (zf3 x p):=⟨h.1,h.2.1,by simpa [zf3] using h.2.2.1,h.2.2.2⟩
theorem zQF {x:Guest}(v:Int)(h:SmG x):SmG (zpW x v):=by
 unfold zpW;cases ieq x.Exit.Kind 2<;>exact zhg h
theorem zQG {x:Guest}(h:SmG x):SmG (zqv x):=by
 unfold zqv;cases ieq x.Exit.Kind 1
 ·exact zKG (g:=stopped x zgf) h
 ·exact h
theorem zpe {b:Bare}{g:Int}{c:Bool}{x:Guest}(h:SmB b)(hx:SmG x):SmB (chg b g c x):=by
 unfold chg;cases (cond (zby b g) c false)
 ·exact h
 ·exact zjm h hx
@[simp,reducible] def ztS (b:Bare)(g p:Int)(s:Slot):Bool:=pc (SmB b)
@[simp,reducible] def zis (b:Bare)(g p:Int)(s:Slot):Bare:=chg b g (ztY p s) (zok (gAt b g) p s)
@[simp,reducible] def zit (b:Bare)(g p:Int)(s:Slot):Bool:=zbY b g (ztY p s)
def zn2:List AV->Option (Bool×List AV)
 | [.agg [.s (.sl .int) c,.s .guest d,.s .int e,.i .i64 f],.one (.i .i64 g),.one (.i .i64 h),.agg [.i .i64 j,.i .i64 k]]=>some ((ztS (⟨c,d,e,f⟩:Bare) g h (⟨j,k⟩:Slot)),[.agg (Ty.cells .bare (zis (⟨c,d,e,f⟩:Bare) g h (⟨j,k⟩:Slot))),.one (.b (zit (⟨c,d,e,f⟩:Bare) g h (⟨j,k⟩:Slot)))])
 | _=>none
def zsN (N:Nat)(a0:Bare)(a1 a2:Int)(a3:Slot):Option Ans :=
 (cond (zcb a0) (cond (zeW (zf a0) a1) (cond (cond (zfF (zf a0) a1) false true) (some [(.agg (Ty.cells .bare (zf a0))),(.one (.b false))]) (cond (zN a2 0 3) (cond (cond (zT a2 0 3) false true) (some [(.agg (Ty.cells .bare (zf a0))),(.one (.b false))]) (cond (zoZ a3 8) (cond (cond (zl4 a3 8) false true) (some [(.agg (Ty.cells .bare (zf a0))),(.one (.b false))]) (cond (inb a1 (ln (zf a0).Guests)) (cond (zkQ (ix (zf a0).Guests a1 zo).Written a2 a3) (cond (inb a1 (ln (zf a0).Guests)) (share (up (zf a0).Guests a1 ({ (ix (zf a0).Guests a1 zo) with Written:=(zhN (ix (zf a0).Guests a1 zo).Written a2 a3) }:Guest)) (fun x5=>(some [(.agg (Ty.cells .bare ({ (zf a0) with Guests:=x5 }:Bare))),(.one (.b true))]))) none) none) none)) none)) none)) none) none)
theorem zKg (N:Nat)(a0:Bare)(a1 a2:Int)(a3:Slot):evalFn (cQ zdY zL zF zG) (zB []) N 12 47 [.agg (Ty.cells .bare a0),.one (.i .i64 a1),.one (.i .i64 a2),.agg (Ty.cells .slot a3)]=zsN N a0 a1 a2 a3:=by kernel_rfl
theorem zGN (a0:Bare)(a1 a2:Int)(a3:Slot)(hb:zD big [.agg (Ty.cells .bare a0),.one (.i .i64 a1),.one (.i .i64 a2),.agg (Ty.cells .slot a3)])(hc:(ztS a0 a1 a2 a3)=true):∃N,zsN N a0 a1 a2 a3=some [.agg (Ty.cells .bare (zis a0 a1 a2 a3)),.one (.b (zit a0 a1 a2 a3))]:=by
 have hs:=zI.1 hc;have hx:=zeX a1 hs;have hz:zby a0 a1=true->hasB a1 (ln a0.Guests)=true:=fun h=>(zcj.1 h).2;have hz2:zby a0 a1=true->gAt a0 a1=ix a0.Guests a1 zo:=fun h=>zmJ (zcj.1 h).2;have hw:=hx.2.1
 refine ⟨0,?_⟩;unfold zsN;refine must (by first|assumption|(simp_all<;>omega)) (must (by first|assumption|(simp_all<;>omega)) (brN (fun _=>?_) (fun _=>must rfl (brN (fun _=>?_) (fun _=>must rfl (brN (fun _=>?_) (fun _=>must (by first|assumption|(simp_all<;>omega)) (must (by first|assumption|(simp_all<;>omega)) (must (by first|assumption|(simp_all<;>omega)) (shr ?_))))))))))
 all_goals first|rfl|(simp only [*,zis,zit,chg,zbY,ztY,zok,zc7,cT,cF]<;>rfl)|simp_all [Ty.cells,zis,zit,chg,zbY,ztY,zok,zc7]
theorem zBp:Holds Tryz.prog 47 zn2:=zn zcC zA zq zu (zC (by kernel_rfl)) fun avs rs hb h=>by
 unfold zn2 at h;split at h
 ·obtain ⟨hc,rfl⟩:=zi h;exact (ztd zGN zKg hc hb :)
 ·cases h
@[simp,reducible] def ztj (b:Bare)(g p:Int)(s:Slot):Bool:=pc (SmB b)
@[simp,reducible] def zib (b:Bare)(g p:Int)(s:Slot):Bare:=chg b g (ztY p s) (zok (gAt b g) p s)
@[simp,reducible] def zic (b:Bare)(g p:Int)(s:Slot):Bool:=zbY b g (ztY p s)
def znA:List AV->Option (Bool×List AV)
 | [.agg [.s (.sl .int) c,.s .guest d,.s .int e,.i .i64 f],.one (.i .i64 g),.one (.i .i64 h),.agg [.i .i64 j,.i .i64 k]]=>some ((ztj (⟨c,d,e,f⟩:Bare) g h (⟨j,k⟩:Slot)),[.agg (Ty.cells .bare (zib (⟨c,d,e,f⟩:Bare) g h (⟨j,k⟩:Slot))),.one (.b (zic (⟨c,d,e,f⟩:Bare) g h (⟨j,k⟩:Slot)))])
 | _=>none
def zsk (N:Nat)(a0:Bare)(a1 a2:Int)(a3:Slot):Option Ans :=
 (cond (zcF a2 4) (cond (zda a2 4) (cond (zoz a3 8) (cond (zcm a0 a1) (cond (zcp a0) (cond (cond (zbW a0) false true) (cond (zS a0) (some [(.agg (Ty.cells .bare (zH a0))),(.one (.b false))]) none) (cond (cond (zcl a0 a1) false true) (cond (zS a0) (some [(.agg (Ty.cells .bare (zH a0))),(.one (.b false))]) none) (cond (cond (zlh a3 8) false true) (cond (zS a0) (some [(.agg (Ty.cells .bare (zH a0))),(.one (.b false))]) none) (cond (zj5 (zh a0 a1).Written a2 a3) (cond (cond (ieq a0.Pending a0.Pending) true false) (cond (ieq a1 a1) (cond (zbc a0 a1 ({ (zh a0 a1) with Written:=(zeR (zh a0 a1).Written a2 a3) }:Guest)) (some [(.agg (Ty.cells .bare (zbk a0 a1 ({ (zh a0 a1) with Written:=(zeR (zh a0 a1).Written a2 a3) }:Guest)))),(.one (.b true))]) none) none) none) none)))) none) none) none) (cond (zcm a0 a1) (cond (zcp a0) (cond (cond (zbW a0) false true) (cond (zS a0) (some [(.agg (Ty.cells .bare (zH a0))),(.one (.b false))]) none) (cond (cond (zcl a0 a1) false true) (cond (zS a0) (some [(.agg (Ty.cells .bare (zH a0))),(.one (.b false))]) none) (cond (zS a0) (some [(.agg (Ty.cells .bare (zH a0))),(.one (.b false))]) none))) none) none)) none)
theorem zJN (N:Nat)(a0:Bare)(a1 a2:Int)(a3:Slot):evalFn (cQ zdY zL zF zG) (zB []) N 12 115 [.agg (Ty.cells .bare a0),.one (.i .i64 a1),.one (.i .i64 a2),.agg (Ty.cells .slot a3)]=zsk N a0 a1 a2 a3:=by kernel_rfl
theorem zGk (a0:Bare)(a1 a2:Int)(a3:Slot)(hb:zD big [.agg (Ty.cells .bare a0),.one (.i .i64 a1),.one (.i .i64 a2),.agg (Ty.cells .slot a3)])(hc:(ztj a0 a1 a2 a3)=true):∃N,zsk N a0 a1 a2 a3=some [.agg (Ty.cells .bare (zib a0 a1 a2 a3)),.one (.b (zic a0 a1 a2 a3))]:=by
 have hs:=zI.1 hc;have hx:=zeX a1 hs;have ho:_/\_/\_/\_:=hx;have hy:=fun p s=>zKH (x:=gAt a0 a1) p s hx;unfold zok at hy
 refine ⟨0,?_⟩;unfold zsk;refine must rfl (br (fun _=>must rfl (must (by first|assumption|(simp_all<;>omega)) (must rfl (brN (fun _=>must (by first|assumption|(simp_all<;>omega)) ?_) (fun _=>brN (fun _=>must (by first|assumption|(simp_all<;>omega)) ?_) (fun _=>brN (fun _=>must (by first|assumption|(simp_all<;>omega)) ?_) (fun _=>must (by first|assumption|(simp_all<;>omega)) (must (by first|assumption|(simp_all<;>omega)) (must (by first|assumption|(simp_all<;>omega)) (must (by first|assumption|(simp_all<;>omega)) ?_)))))))))) (fun _=>must (by first|assumption|(simp_all<;>omega)) (must rfl (brN (fun _=>must (by first|assumption|(simp_all<;>omega)) ?_) (fun _=>brN (fun _=>must (by first|assumption|(simp_all<;>omega)) ?_) (fun _=>must (by first|assumption|(simp_all<;>omega)) ?_))))))
 all_goals first|rfl|(simp only [*,zib,zic,chg,zbY,ztY,zok,zby,zcr,cT,cF]<;>rfl)|simp_all [Ty.cells,zib,zic,chg,zbY,ztY,zok,zby,zcr]
theorem zAX:Holds Tryz.prog 115 znA:=zn zcC zA zq zu (zC (by kernel_rfl)) fun avs rs hb h=>by
 unfold znA at h;split at h
 ·obtain ⟨hc,rfl⟩:=zi h;exact (ztd zGk zJN hc hb :)
 ·cases h
@[simp,reducible] def zoh (b:Bare)(g p:Int):Bool:=pc (SmB b)
@[simp,reducible] def zgg (b:Bare)(g p:Int):Bare:=chg b g (hasB p 4) (zf3 (gAt b g) p)
@[simp,reducible] def zgh (b:Bare)(g p:Int):Bool:=zbY b g (hasB p 4)
def zkA:List AV->Option (Bool×List AV)
 | [.agg [.s (.sl .int) c,.s .guest d,.s .int e,.i .i64 f],.one (.i .i64 g),.one (.i .i64 h)]=>some ((zoh (⟨c,d,e,f⟩:Bare) g h),[.agg (Ty.cells .bare (zgg (⟨c,d,e,f⟩:Bare) g h)),.one (.b (zgh (⟨c,d,e,f⟩:Bare) g h))])
 | _=>none
def znh (N:Nat)(a0:Bare)(a1 a2:Int):Option Ans :=
 (cond (zcb a0) (cond (zeW (zf a0) a1) (cond (cond (zfF (zf a0) a1) false true) (some [(.agg (Ty.cells .bare (zf a0))),(.one (.b false))]) (cond (zN a2 0 3) (cond (cond (zT a2 0 3) false true) (some [(.agg (Ty.cells .bare (zf a0))),(.one (.b false))]) (cond (inb a1 (ln (zf a0).Guests)) (cond (inb a1 (ln (zf a0).Guests)) (cond (zoY (ix (zf a0).Guests a1 zo).Written a2) (cond (zkQ (ix (zf a0).Guests a1 zo).Live a2 (zfb (ix (zf a0).Guests a1 zo).Written a2)) (cond (inb a1 (ln (zf a0).Guests)) (share (up (zf a0).Guests a1 ({ (ix (zf a0).Guests a1 zo) with Live:=(zhN (ix (zf a0).Guests a1 zo).Live a2 (zfb (ix (zf a0).Guests a1 zo).Written a2)) }:Guest)) (fun x4=>(some [(.agg (Ty.cells .bare ({ (zf a0) with Guests:=x4 }:Bare))),(.one (.b true))]))) none) none) none) none) none)) none)) none) none)
theorem zEY (N:Nat)(a0:Bare)(a1 a2:Int):evalFn (cQ zdY zL zF zG) (zB []) N 12 48 [.agg (Ty.cells .bare a0),.one (.i .i64 a1),.one (.i .i64 a2)]=znh N a0 a1 a2:=by kernel_rfl
theorem zBY (a0:Bare)(a1 a2:Int)(hb:zD big [.agg (Ty.cells .bare a0),.one (.i .i64 a1),.one (.i .i64 a2)])(hc:(zoh a0 a1 a2)=true):∃N,znh N a0 a1 a2=some [.agg (Ty.cells .bare (zgg a0 a1 a2)),.one (.b (zgh a0 a1 a2))]:=by
 have hs:=zI.1 hc;have hx:=zeX a1 hs;have hz:zby a0 a1=true->hasB a1 (ln a0.Guests)=true:=fun h=>(zcj.1 h).2;have hz2:zby a0 a1=true->gAt a0 a1=ix a0.Guests a1 zo:=fun h=>zmJ (zcj.1 h).2;have hw:=hx.2.2.1
 refine ⟨0,?_⟩;unfold znh;refine must (by first|assumption|(simp_all<;>omega)) (must (by first|assumption|(simp_all<;>omega)) (brN (fun _=>?_) (fun _=>must rfl (brN (fun _=>?_) (fun _=>must (by first|assumption|(simp_all<;>omega)) (must (by first|assumption|(simp_all<;>omega)) (must rfl (must (by first|assumption|(simp_all<;>omega)) (must (by first|assumption|(simp_all<;>omega)) (shr ?_))))))))))
 all_goals first|rfl|(simp only [*,zgg,zgh,chg,zbY,zf3,zc7,cT,cF]<;>rfl)|simp_all [Ty.cells,zgg,zgh,chg,zbY,zf3,zc7]
theorem zyi:Holds Tryz.prog 48 zkA:=zn zcC zA zq zu (zC (by kernel_rfl)) fun avs rs hb h=>by
 unfold zkA at h;split at h
 ·obtain ⟨hc,rfl⟩:=zi h;exact (zd1 zBY zEY hc hb :)
 ·cases h
@[simp,reducible] def zno (b:Bare)(g p:Int):Bool:=pc (SmB b)
@[simp,reducible] def zf4 (b:Bare)(g p:Int):Bare:=chg b g (hasB p 4) (zf3 (gAt b g) p)
@[simp,reducible] def zf5 (b:Bare)(g p:Int):Bool:=zbY b g (hasB p 4)
def zkm:List AV->Option (Bool×List AV)
 | [.agg [.s (.sl .int) c,.s .guest d,.s .int e,.i .i64 f],.one (.i .i64 g),.one (.i .i64 h)]=>some ((zno (⟨c,d,e,f⟩:Bare) g h),[.agg (Ty.cells .bare (zf4 (⟨c,d,e,f⟩:Bare) g h)),.one (.b (zf5 (⟨c,d,e,f⟩:Bare) g h))])
 | _=>none
def zm0 (N:Nat)(a0:Bare)(a1 a2:Int):Option Ans :=
 (cond (zcF a2 4) (cond (zcm a0 a1) (cond (zcp a0) (cond (cond (zbW a0) false true) (cond (zS a0) (some [(.agg (Ty.cells .bare (zH a0))),(.one (.b false))]) none) (cond (cond (zcl a0 a1) false true) (cond (zS a0) (some [(.agg (Ty.cells .bare (zH a0))),(.one (.b false))]) none) (cond (cond (zda a2 4) false true) (cond (zS a0) (some [(.agg (Ty.cells .bare (zH a0))),(.one (.b false))]) none) (cond (zoy (zh a0 a1).Written a2) (cond (zj5 (zh a0 a1).Live a2 (zet (zh a0 a1).Written a2)) (cond (cond (ieq a0.Pending a0.Pending) true false) (cond (ieq a1 a1) (cond (zbc a0 a1 ({ (zh a0 a1) with Live:=(zeR (zh a0 a1).Live a2 (zet (zh a0 a1).Written a2)) }:Guest)) (some [(.agg (Ty.cells .bare (zbk a0 a1 ({ (zh a0 a1) with Live:=(zeR (zh a0 a1).Live a2 (zet (zh a0 a1).Written a2)) }:Guest)))),(.one (.b true))]) none) none) none) none) none)))) none) none) none)
theorem zEH (N:Nat)(a0:Bare)(a1 a2:Int):evalFn (cQ zdY zL zF zG) (zB []) N 12 116 [.agg (Ty.cells .bare a0),.one (.i .i64 a1),.one (.i .i64 a2)]=zm0 N a0 a1 a2:=by kernel_rfl
theorem zBH (a0:Bare)(a1 a2:Int)(hb:zD big [.agg (Ty.cells .bare a0),.one (.i .i64 a1),.one (.i .i64 a2)])(hc:(zno a0 a1 a2)=true):∃N,zm0 N a0 a1 a2=some [.agg (Ty.cells .bare (zf4 a0 a1 a2)),.one (.b (zf5 a0 a1 a2))]:=by
 have hs:=zI.1 hc;have hx:=zeX a1 hs;have ho:_/\_/\_/\_:=hx;have hy:=fun p=>zCD (x:=gAt a0 a1) p hx;unfold zf3 at hy
 refine ⟨0,?_⟩;unfold zm0;refine must rfl (must (by first|assumption|(simp_all<;>omega)) (must rfl (brN (fun _=>must (by first|assumption|(simp_all<;>omega)) ?_) (fun _=>brN (fun _=>must (by first|assumption|(simp_all<;>omega)) ?_) (fun _=>brN (fun _=>must (by first|assumption|(simp_all<;>omega)) ?_) (fun _=>must rfl (must (by first|assumption|(simp_all<;>omega)) (must (by first|assumption|(simp_all<;>omega)) (must (by first|assumption|(simp_all<;>omega)) (must (by first|assumption|(simp_all<;>omega)) ?_))))))))))
 all_goals first|rfl|(simp only [*,zf4,zf5,chg,zbY,zf3,zby,zcr,cT,cF]<;>rfl)|simp_all [Ty.cells,zf4,zf5,chg,zbY,zf3,zby,zcr]
theorem zx2:Holds Tryz.prog 116 zkm:=zn zcC zA zq zu (zC (by kernel_rfl)) fun avs rs hb h=>by
 unfold zkm at h;split at h
 ·obtain ⟨hc,rfl⟩:=zi h;exact (zd1 zBH zEH hc hb :)
 ·cases h
@[simp,reducible] def zlX (b:Bare)(g v:Int):Bool:=pc (SmB b)
@[simp,reducible] def zfy (b:Bare)(g v:Int):Bare:=chg b g (zs7 (gAt b g) v) (zpW (gAt b g) v)
@[simp,reducible] def zfz (b:Bare)(g v:Int):Bool:=zbY b g (zs7 (gAt b g) v)
def zje:List AV->Option (Bool×List AV)
 | [.agg [.s (.sl .int) c,.s .guest d,.s .int e,.i .i64 f],.one (.i .i64 g),.one (.i .i64 h)]=>some ((zlX (⟨c,d,e,f⟩:Bare) g h),[.agg (Ty.cells .bare (zfy (⟨c,d,e,f⟩:Bare) g h)),.one (.b (zfz (⟨c,d,e,f⟩:Bare) g h))])
 | _=>none
def zk2 (N:Nat)(a0:Bare)(a1 a2:Int):Option Ans :=
 (cond (zcb a0) (cond (zeW (zf a0) a1) (cond (cond (zfF (zf a0) a1) false true) (some [(.agg (Ty.cells .bare (zf a0))),(.one (.b false))]) (cond (zN a2 0 99) (cond (cond (zT a2 0 99) false true) (some [(.agg (Ty.cells .bare (zf a0))),(.one (.b false))]) (cond (inb a1 (ln (zf a0).Guests)) (cond (ieq (ix (zf a0).Guests a1 zo).Exit.Kind 2) (cond (zcR ({ (ix (zf a0).Guests a1 zo) with A:=a2 }:Guest) (⟨0,0,false,0⟩:GExit)) (cond (zbL (zcB ({ (ix (zf a0).Guests a1 zo) with A:=a2 }:Guest) (⟨0,0,false,0⟩:GExit))) (cond (inb a1 (ln (zf a0).Guests)) (share (up (zf a0).Guests a1 (zb1 (zcB ({ (ix (zf a0).Guests a1 zo) with A:=a2 }:Guest) (⟨0,0,false,0⟩:GExit)))) (fun x4=>(some [(.agg (Ty.cells .bare ({ (zf a0) with Guests:=x4 }:Bare))),(.one (.b true))]))) none) none) none) (cond (ieq (ix (zf a0).Guests a1 zo).Exit.Kind 3) (cond (zcR (ix (zf a0).Guests a1 zo) (⟨0,0,false,0⟩:GExit)) (cond (zbL (zcB (ix (zf a0).Guests a1 zo) (⟨0,0,false,0⟩:GExit))) (cond (inb a1 (ln (zf a0).Guests)) (share (up (zf a0).Guests a1 (zb1 (zcB (ix (zf a0).Guests a1 zo) (⟨0,0,false,0⟩:GExit)))) (fun x4=>(some [(.agg (Ty.cells .bare ({ (zf a0) with Guests:=x4 }:Bare))),(.one (.b true))]))) none) none) none) (some [(.agg (Ty.cells .bare (zf a0))),(.one (.b false))]))) none)) none)) none) none)
theorem zCj (N:Nat)(a0:Bare)(a1 a2:Int):evalFn (cQ zdY zL zF zG) (zB []) N 12 49 [.agg (Ty.cells .bare a0),.one (.i .i64 a1),.one (.i .i64 a2)]=zk2 N a0 a1 a2:=by kernel_rfl
theorem zzS (a0:Bare)(a1 a2:Int)(hb:zD big [.agg (Ty.cells .bare a0),.one (.i .i64 a1),.one (.i .i64 a2)])(hc:(zlX a0 a1 a2)=true):∃N,zk2 N a0 a1 a2=some [.agg (Ty.cells .bare (zfy a0 a1 a2)),.one (.b (zfz a0 a1 a2))]:=by
 have hs:=zI.1 hc;have hx:=zeX a1 hs;have hz:zby a0 a1=true->hasB a1 (ln a0.Guests)=true:=fun h=>(zcj.1 h).2;have hz2:zby a0 a1=true->gAt a0 a1=ix a0.Guests a1 zo:=fun h=>zmJ (zcj.1 h).2;have ho:_/\_/\_/\_:=hx
 refine ⟨0,?_⟩;unfold zk2;refine must (by first|assumption|(simp_all<;>omega)) (must (by first|assumption|(simp_all<;>omega)) (brN (fun _=>?_) (fun _=>must rfl (brN (fun _=>?_) (fun _=>must (by first|assumption|(simp_all<;>omega)) (br (fun _=>must (by first|assumption|(simp_all<;>omega)) (must (by first|assumption|(simp_all<;>omega)) (must (by first|assumption|(simp_all<;>omega)) (shr ?_)))) (fun _=>br (fun _=>must (by first|assumption|(simp_all<;>omega)) (must (by first|assumption|(simp_all<;>omega)) (must (by first|assumption|(simp_all<;>omega)) (shr ?_)))) (fun _=>?_))))))))
 all_goals first|rfl|(simp only [*,zfy,zfz,chg,zbY,zs7,zpW,zgf,zc7,SmG,stopped,cT,cF]<;>rfl)|simp_all [Ty.cells,zfy,zfz,chg,zbY,zs7,zpW,zgf,zc7,SmG,stopped]
theorem zw7:Holds Tryz.prog 49 zje:=zn zcC zA zq zu (zC (by kernel_rfl)) fun avs rs hb h=>by
 unfold zje at h;split at h
 ·obtain ⟨hc,rfl⟩:=zi h;exact (zd1 zzS zCj hc hb :)
 ·cases h
@[simp,reducible] def zla (b:Bare)(g v:Int):Bool:=pc (SmB b)
@[simp,reducible] def zfl (b:Bare)(g v:Int):Bare:=chg b g (zs7 (gAt b g) v) (zpW (gAt b g) v)
@[simp,reducible] def zfm (b:Bare)(g v:Int):Bool:=zbY b g (zs7 (gAt b g) v)
def zi9:List AV->Option (Bool×List AV)
 | [.agg [.s (.sl .int) c,.s .guest d,.s .int e,.i .i64 f],.one (.i .i64 g),.one (.i .i64 h)]=>some ((zla (⟨c,d,e,f⟩:Bare) g h),[.agg (Ty.cells .bare (zfl (⟨c,d,e,f⟩:Bare) g h)),.one (.b (zfm (⟨c,d,e,f⟩:Bare) g h))])
 | _=>none
def zkV (N:Nat)(a0:Bare)(a1 a2:Int):Option Ans :=
 (cond (zou a0 a1) (cond (ieq (zd2 a0 a1).Kind 2) (cond (zQ a2 0 99) (cond (zcm a0 a1) (cond (zcp a0) (cond (cond (zbW a0) false true) (cond (zS a0) (some [(.agg (Ty.cells .bare (zH a0))),(.one (.b false))]) none) (cond (cond (zcl a0 a1) false true) (cond (zS a0) (some [(.agg (Ty.cells .bare (zH a0))),(.one (.b false))]) none) (cond (cond (zX a2 0 99) false true) (cond (zS a0) (some [(.agg (Ty.cells .bare (zH a0))),(.one (.b false))]) none) (cond (ieq (zd2 a0 a1).Kind 2) (cond (zcQ ({ (zh a0 a1) with A:=a2 }:Guest) (⟨0,0,false,0⟩:GExit)) (cond (zdo (zbM ({ (zh a0 a1) with A:=a2 }:Guest) (⟨0,0,false,0⟩:GExit))) (cond (cond (ieq a0.Pending a0.Pending) true false) (cond (ieq a1 a1) (cond (zbc a0 a1 (zcg (zbM ({ (zh a0 a1) with A:=a2 }:Guest) (⟨0,0,false,0⟩:GExit)))) (some [(.agg (Ty.cells .bare (zbk a0 a1 (zcg (zbM ({ (zh a0 a1) with A:=a2 }:Guest) (⟨0,0,false,0⟩:GExit)))))),(.one (.b true))]) none) none) none) none) none) (cond (zcQ (zh a0 a1) (⟨0,0,false,0⟩:GExit)) (cond (zdo (zbM (zh a0 a1) (⟨0,0,false,0⟩:GExit))) (cond (cond (ieq a0.Pending a0.Pending) true false) (cond (ieq a1 a1) (cond (zbc a0 a1 (zcg (zbM (zh a0 a1) (⟨0,0,false,0⟩:GExit)))) (some [(.agg (Ty.cells .bare (zbk a0 a1 (zcg (zbM (zh a0 a1) (⟨0,0,false,0⟩:GExit)))))),(.one (.b true))]) none) none) none) none) none))))) none) none) none) (cond (ieq (zd2 a0 a1).Kind 3) (cond (zQ a2 0 99) (cond (zcm a0 a1) (cond (zcp a0) (cond (cond (zbW a0) false true) (cond (zS a0) (some [(.agg (Ty.cells .bare (zH a0))),(.one (.b false))]) none) (cond (cond (zcl a0 a1) false true) (cond (zS a0) (some [(.agg (Ty.cells .bare (zH a0))),(.one (.b false))]) none) (cond (cond (zX a2 0 99) false true) (cond (zS a0) (some [(.agg (Ty.cells .bare (zH a0))),(.one (.b false))]) none) (cond (ieq (zd2 a0 a1).Kind 2) (cond (zcQ ({ (zh a0 a1) with A:=a2 }:Guest) (⟨0,0,false,0⟩:GExit)) (cond (zdo (zbM ({ (zh a0 a1) with A:=a2 }:Guest) (⟨0,0,false,0⟩:GExit))) (cond (cond (ieq a0.Pending a0.Pending) true false) (cond (ieq a1 a1) (cond (zbc a0 a1 (zcg (zbM ({ (zh a0 a1) with A:=a2 }:Guest) (⟨0,0,false,0⟩:GExit)))) (some [(.agg (Ty.cells .bare (zbk a0 a1 (zcg (zbM ({ (zh a0 a1) with A:=a2 }:Guest) (⟨0,0,false,0⟩:GExit)))))),(.one (.b true))]) none) none) none) none) none) (cond (zcQ (zh a0 a1) (⟨0,0,false,0⟩:GExit)) (cond (zdo (zbM (zh a0 a1) (⟨0,0,false,0⟩:GExit))) (cond (cond (ieq a0.Pending a0.Pending) true false) (cond (ieq a1 a1) (cond (zbc a0 a1 (zcg (zbM (zh a0 a1) (⟨0,0,false,0⟩:GExit)))) (some [(.agg (Ty.cells .bare (zbk a0 a1 (zcg (zbM (zh a0 a1) (⟨0,0,false,0⟩:GExit)))))),(.one (.b true))]) none) none) none) none) none))))) none) none) none) (cond (zcm a0 a1) (cond (zcp a0) (cond (cond (zbW a0) false true) (cond (zS a0) (some [(.agg (Ty.cells .bare (zH a0))),(.one (.b false))]) none) (cond (cond (zcl a0 a1) false true) (cond (zS a0) (some [(.agg (Ty.cells .bare (zH a0))),(.one (.b false))]) none) (cond (zS a0) (some [(.agg (Ty.cells .bare (zH a0))),(.one (.b false))]) none))) none) none))) none)
theorem zCc (N:Nat)(a0:Bare)(a1 a2:Int):evalFn (cQ zdY zL zF zG) (zB []) N 12 117 [.agg (Ty.cells .bare a0),.one (.i .i64 a1),.one (.i .i64 a2)]=zkV N a0 a1 a2:=by kernel_rfl
theorem zzL (a0:Bare)(a1 a2:Int)(hb:zD big [.agg (Ty.cells .bare a0),.one (.i .i64 a1),.one (.i .i64 a2)])(hc:(zla a0 a1 a2)=true):∃N,zkV N a0 a1 a2=some [.agg (Ty.cells .bare (zfl a0 a1 a2)),.one (.b (zfm a0 a1 a2))]:=by
 have hs:=zI.1 hc;have hx:=zeX a1 hs;have ho:_/\_/\_/\_:=hx;have hy2:SmG ({ gAt a0 a1 with A:=a2 }:Guest):=hx;have hy3:∀e,SmG (zbB (stopped (gAt a0 a1) e)):=fun e=>zhg (zMI e hx)
 refine ⟨0,?_⟩;unfold zkV;refine must (by first|assumption|(simp_all<;>omega)) (br (fun _=>must rfl (must (by first|assumption|(simp_all<;>omega)) (must rfl (brN (fun _=>must (by first|assumption|(simp_all<;>omega)) ?_) (fun _=>brN (fun _=>must (by first|assumption|(simp_all<;>omega)) ?_) (fun _=>brN (fun _=>must (by first|assumption|(simp_all<;>omega)) ?_) (fun _=>br (fun _=>must (by first|assumption|(simp_all<;>omega)) (must (by first|assumption|(simp_all<;>omega)) (must (by first|assumption|(simp_all<;>omega)) (must (by first|assumption|(simp_all<;>omega)) (must (by first|assumption|(simp_all<;>omega)) ?_))))) (fun _=>must (by first|assumption|(simp_all<;>omega)) (must (by first|assumption|(simp_all<;>omega)) (must (by first|assumption|(simp_all<;>omega)) (must (by first|assumption|(simp_all<;>omega)) (must (by first|assumption|(simp_all<;>omega)) ?_)))))))))))) (fun _=>br (fun _=>must rfl (must (by first|assumption|(simp_all<;>omega)) (must rfl (brN (fun _=>must (by first|assumption|(simp_all<;>omega)) ?_) (fun _=>brN (fun _=>must (by first|assumption|(simp_all<;>omega)) ?_) (fun _=>brN (fun _=>must (by first|assumption|(simp_all<;>omega)) ?_) (fun _=>br (fun _=>must (by first|assumption|(simp_all<;>omega)) (must (by first|assumption|(simp_all<;>omega)) (must (by first|assumption|(simp_all<;>omega)) (must (by first|assumption|(simp_all<;>omega)) (must (by first|assumption|(simp_all<;>omega)) ?_))))) (fun _=>must (by first|assumption|(simp_all<;>omega)) (must (by first|assumption|(simp_all<;>omega)) (must (by first|assumption|(simp_all<;>omega)) (must (by first|assumption|(simp_all<;>omega)) (must (by first|assumption|(simp_all<;>omega)) ?_)))))))))))) (fun _=>must (by first|assumption|(simp_all<;>omega)) (must rfl (brN (fun _=>must (by first|assumption|(simp_all<;>omega)) ?_) (fun _=>brN (fun _=>must (by first|assumption|(simp_all<;>omega)) ?_) (fun _=>must (by first|assumption|(simp_all<;>omega)) ?_)))))))
 all_goals first|rfl|(simp only [*,zfl,zfm,chg,zbY,zs7,zpW,zgf,zby,zcr,cT,cF]<;>rfl)|simp_all [Ty.cells,zfl,zfm,chg,zbY,zs7,zpW,zgf,zby,zcr]
theorem zw0:Holds Tryz.prog 117 zi9:=zn zcC zA zq zu (zC (by kernel_rfl)) fun avs rs hb h=>by
 unfold zi9 at h;split at h
 ·obtain ⟨hc,rfl⟩:=zi h;exact (zd1 zzL zCc hc hb :)
 ·cases h
@[simp,reducible] def zlZ (b:Bare)(g:Int):Bool:=pc (SmB b)
@[simp,reducible] def zfC (b:Bare)(g:Int):Bare:=chg b g (ztp (gAt b g)) (zqv (gAt b g))
@[simp,reducible] def zfD (b:Bare)(g:Int):Bool:=zbY b g (ztp (gAt b g))
def zjg:List AV->Option (Bool×List AV)
 | [.agg [.s (.sl .int) c,.s .guest d,.s .int e,.i .i64 f],.one (.i .i64 g)]=>some ((zlZ (⟨c,d,e,f⟩:Bare) g),[.agg (Ty.cells .bare (zfC (⟨c,d,e,f⟩:Bare) g)),.one (.b (zfD (⟨c,d,e,f⟩:Bare) g))])
 | _=>none
def zk4 (N:Nat)(a0:Bare)(a1:Int):Option Ans :=
 (cond (zcb a0) (cond (zeW (zf a0) a1) (cond (cond (zfF (zf a0) a1) false true) (some [(.agg (Ty.cells .bare (zf a0))),(.one (.b false))]) (cond (inb a1 (ln (zf a0).Guests)) (cond (ieq (ix (zf a0).Guests a1 zo).Exit.Kind 1) (cond (zcR (ix (zf a0).Guests a1 zo) (⟨0,0,false,0⟩:GExit)) (cond (inb a1 (ln (zf a0).Guests)) (share (up (zf a0).Guests a1 (zcB (ix (zf a0).Guests a1 zo) (⟨0,0,false,0⟩:GExit))) (fun x3=>(some [(.agg (Ty.cells .bare ({ (zf a0) with Guests:=x3 }:Bare))),(.one (.b true))]))) none) none) (cond (ieq (ix (zf a0).Guests a1 zo).Exit.Kind 4) (cond (zcR (ix (zf a0).Guests a1 zo) (⟨0,0,false,0⟩:GExit)) (cond (zjh (zcB (ix (zf a0).Guests a1 zo) (⟨0,0,false,0⟩:GExit))) (cond (inb a1 (ln (zf a0).Guests)) (share (up (zf a0).Guests a1 (zkK (zcB (ix (zf a0).Guests a1 zo) (⟨0,0,false,0⟩:GExit)))) (fun x3=>(some [(.agg (Ty.cells .bare ({ (zf a0) with Guests:=x3 }:Bare))),(.one (.b true))]))) none) none) none) (some [(.agg (Ty.cells .bare (zf a0))),(.one (.b false))]))) none)) none) none)
theorem zCl (N:Nat)(a0:Bare)(a1:Int):evalFn (cQ zdY zL zF zG) (zB []) N 12 50 [.agg (Ty.cells .bare a0),.one (.i .i64 a1)]=zk4 N a0 a1:=by kernel_rfl
theorem zzU (a0:Bare)(a1:Int)(hb:zD big [.agg (Ty.cells .bare a0),.one (.i .i64 a1)])(hc:(zlZ a0 a1)=true):∃N,zk4 N a0 a1=some [.agg (Ty.cells .bare (zfC a0 a1)),.one (.b (zfD a0 a1))]:=by
 have hs:=zI.1 hc;have hx:=zeX a1 hs;have hz:zby a0 a1=true->hasB a1 (ln a0.Guests)=true:=fun h=>(zcj.1 h).2;have hz2:zby a0 a1=true->gAt a0 a1=ix a0.Guests a1 zo:=fun h=>zmJ (zcj.1 h).2;have ho:_/\_/\_/\_:=hx
 refine ⟨0,?_⟩;unfold zk4;refine must (by first|assumption|(simp_all<;>omega)) (must (by first|assumption|(simp_all<;>omega)) (brN (fun _=>?_) (fun _=>must (by first|assumption|(simp_all<;>omega)) (br (fun _=>must (by first|assumption|(simp_all<;>omega)) (must (by first|assumption|(simp_all<;>omega)) (shr ?_))) (fun _=>br (fun _=>must (by first|assumption|(simp_all<;>omega)) (must (by first|assumption|(simp_all<;>omega)) (must (by first|assumption|(simp_all<;>omega)) (shr ?_)))) (fun _=>?_))))))
 all_goals first|rfl|(simp only [*,zfC,zfD,chg,zbY,ztp,zqv,zgf,zc7,SmG,stopped,cT,cF]<;>rfl)|simp_all [Ty.cells,zfC,zfD,chg,zbY,ztp,zqv,zgf,zc7,SmG,stopped]
theorem zw9:Holds Tryz.prog 50 zjg:=zn zcC zA zq zu (zC (by kernel_rfl)) fun avs rs hb h=>by
 unfold zjg at h;split at h
 ·obtain ⟨hc,rfl⟩:=zi h;exact (fin2 zzU zCl hc hb :)
 ·cases h
@[simp,reducible] def zlc (b:Bare)(g:Int):Bool:=pc (SmB b)
@[simp,reducible] def zfp (b:Bare)(g:Int):Bare:=chg b g (ztp (gAt b g)) (zqv (gAt b g))
@[simp,reducible] def zfq (b:Bare)(g:Int):Bool:=zbY b g (ztp (gAt b g))
def zjb:List AV->Option (Bool×List AV)
 | [.agg [.s (.sl .int) c,.s .guest d,.s .int e,.i .i64 f],.one (.i .i64 g)]=>some ((zlc (⟨c,d,e,f⟩:Bare) g),[.agg (Ty.cells .bare (zfp (⟨c,d,e,f⟩:Bare) g)),.one (.b (zfq (⟨c,d,e,f⟩:Bare) g))])
 | _=>none
def zkX (N:Nat)(a0:Bare)(a1:Int):Option Ans :=
 (cond (zou a0 a1) (cond (ieq (zd2 a0 a1).Kind 1) (cond (zcm a0 a1) (cond (zcp a0) (cond (cond (zbW a0) false true) (cond (zS a0) (some [(.agg (Ty.cells .bare (zH a0))),(.one (.b false))]) none) (cond (cond (zcl a0 a1) false true) (cond (zS a0) (some [(.agg (Ty.cells .bare (zH a0))),(.one (.b false))]) none) (cond (ieq (zd2 a0 a1).Kind 4) (cond (zlg ({ (zh a0 a1) with Exit:=(⟨0,0,false,0⟩:GExit) }:Guest)) (cond (cond (ieq a0.Pending a0.Pending) true false) (cond (ieq a1 a1) (cond (zbc a0 a1 (zf6 ({ (zh a0 a1) with Exit:=(⟨0,0,false,0⟩:GExit) }:Guest))) (some [(.agg (Ty.cells .bare (zbk a0 a1 (zf6 ({ (zh a0 a1) with Exit:=(⟨0,0,false,0⟩:GExit) }:Guest))))),(.one (.b true))]) none) none) none) none) (cond (cond (ieq a0.Pending a0.Pending) true false) (cond (ieq a1 a1) (cond (zbc a0 a1 ({ (zh a0 a1) with Exit:=(⟨0,0,false,0⟩:GExit) }:Guest)) (some [(.agg (Ty.cells .bare (zbk a0 a1 ({ (zh a0 a1) with Exit:=(⟨0,0,false,0⟩:GExit) }:Guest)))),(.one (.b true))]) none) none) none)))) none) none) (cond (zcm a0 a1) (cond (zcp a0) (cond (cond (zbW a0) false true) (cond (zS a0) (some [(.agg (Ty.cells .bare (zH a0))),(.one (.b false))]) none) (cond (cond (zcl a0 a1) false true) (cond (zS a0) (some [(.agg (Ty.cells .bare (zH a0))),(.one (.b false))]) none) (cond (cond (ieq (zd2 a0 a1).Kind 4) false true) (cond (zS a0) (some [(.agg (Ty.cells .bare (zH a0))),(.one (.b false))]) none) (cond (ieq (zd2 a0 a1).Kind 4) (cond (zlg ({ (zh a0 a1) with Exit:=(⟨0,0,false,0⟩:GExit) }:Guest)) (cond (cond (ieq a0.Pending a0.Pending) true false) (cond (ieq a1 a1) (cond (zbc a0 a1 (zf6 ({ (zh a0 a1) with Exit:=(⟨0,0,false,0⟩:GExit) }:Guest))) (some [(.agg (Ty.cells .bare (zbk a0 a1 (zf6 ({ (zh a0 a1) with Exit:=(⟨0,0,false,0⟩:GExit) }:Guest))))),(.one (.b true))]) none) none) none) none) (cond (cond (ieq a0.Pending a0.Pending) true false) (cond (ieq a1 a1) (cond (zbc a0 a1 ({ (zh a0 a1) with Exit:=(⟨0,0,false,0⟩:GExit) }:Guest)) (some [(.agg (Ty.cells .bare (zbk a0 a1 ({ (zh a0 a1) with Exit:=(⟨0,0,false,0⟩:GExit) }:Guest)))),(.one (.b true))]) none) none) none))))) none) none)) none)
theorem zCe (N:Nat)(a0:Bare)(a1:Int):evalFn (cQ zdY zL zF zG) (zB []) N 12 118 [.agg (Ty.cells .bare a0),.one (.i .i64 a1)]=zkX N a0 a1:=by kernel_rfl
theorem zzN (a0:Bare)(a1:Int)(hb:zD big [.agg (Ty.cells .bare a0),.one (.i .i64 a1)])(hc:(zlc a0 a1)=true):∃N,zkX N a0 a1=some [.agg (Ty.cells .bare (zfp a0 a1)),.one (.b (zfq a0 a1))]:=by
 have hs:=zI.1 hc;have hx:=zeX a1 hs;have ho:_/\_/\_/\_:=hx;have h14:ieq (gAt a0 a1).Exit.Kind 1=true->ieq (gAt a0 a1).Exit.Kind 4=false:=fun h=>zxO h (by decide)
 refine ⟨0,?_⟩;unfold zkX;refine must (by first|assumption|(simp_all<;>omega)) (br (fun _=>must (by first|assumption|(simp_all<;>omega)) (must rfl (brN (fun _=>must (by first|assumption|(simp_all<;>omega)) ?_) (fun _=>brN (fun _=>must (by first|assumption|(simp_all<;>omega)) ?_) (fun _=>br (fun _=>must (by first|assumption|(simp_all<;>omega)) (must (by first|assumption|(simp_all<;>omega)) (must (by first|assumption|(simp_all<;>omega)) (must (by first|assumption|(simp_all<;>omega)) ?_)))) (fun _=>must (by first|assumption|(simp_all<;>omega)) (must (by first|assumption|(simp_all<;>omega)) (must (by first|assumption|(simp_all<;>omega)) ?_)))))))) (fun _=>must (by first|assumption|(simp_all<;>omega)) (must rfl (brN (fun _=>must (by first|assumption|(simp_all<;>omega)) ?_) (fun _=>brN (fun _=>must (by first|assumption|(simp_all<;>omega)) ?_) (fun _=>brN (fun _=>must (by first|assumption|(simp_all<;>omega)) ?_) (fun _=>br (fun _=>must (by first|assumption|(simp_all<;>omega)) (must (by first|assumption|(simp_all<;>omega)) (must (by first|assumption|(simp_all<;>omega)) (must (by first|assumption|(simp_all<;>omega)) ?_)))) (fun _=>must (by first|assumption|(simp_all<;>omega)) (must (by first|assumption|(simp_all<;>omega)) (must (by first|assumption|(simp_all<;>omega)) ?_))))))))))
 all_goals first|rfl|(simp only [*,zfp,zfq,chg,zbY,ztp,zqv,zgf,zby,zcr,SmG,stopped,cT,cF]<;>rfl)|simp_all [Ty.cells,zfp,zfq,chg,zbY,ztp,zqv,zgf,zby,zcr,SmG,stopped]
theorem zw2:Holds Tryz.prog 118 zjb:=zn zcC zA zq zu (zC (by kernel_rfl)) fun avs rs hb h=>by
 unfold zjb at h;split at h
 ·obtain ⟨hc,rfl⟩:=zi h;exact (fin2 zzN zCe hc hb :)
 ·cases h
theorem zSC {b:Bare}{g:Int}{c:Bool}{x:Guest}(h:zby b g=false):chg b g c x=b:=by
 unfold chg;rw [h];rfl
theorem zRK {b:Bare}{g n:Int}(h:zby b g=true):chg b g (zdV (gAt b g).Pending n) (zhS (gAt b g) n)=zc7 b g (zhS (gAt b g) n):=by
 unfold chg;rw [h];cases hp:zdV (gAt b g).Pending n
 ·rw [zR2 hp,zPr (zcj.1 h).2];rfl
 ·rfl
@[simp,reducible] def zlY (b:Bare)(g n:Int):Bool:=pc (SmB b)
@[simp,reducible] def zfA (b:Bare)(g n:Int):Bare:=chg b g (zdV (gAt b g).Pending n) (zhS (gAt b g) n)
@[simp,reducible] def zfB (b:Bare)(g n:Int):Bool:=zbY b g (zdV (gAt b g).Pending n)
def zjf:List AV->Option (Bool×List AV)
 | [.agg [.s (.sl .int) c,.s .guest d,.s .int e,.i .i64 f],.one (.i .i64 g),.one (.i .i64 h)]=>some ((zlY (⟨c,d,e,f⟩:Bare) g h),[.agg (Ty.cells .bare (zfA (⟨c,d,e,f⟩:Bare) g h)),.one (.b (zfB (⟨c,d,e,f⟩:Bare) g h))])
 | _=>none
def zk3 (N:Nat)(a0:Bare)(a1 a2:Int):Option Ans :=
 (cond (zcb a0) (cond (zeW (zf a0) a1) (cond (cond (zfF (zf a0) a1) false true) (some [(.agg (Ty.cells .bare (zf a0))),(.one (.b false))]) (cond (inb a1 (ln (zf a0).Guests)) (cond (zgu (ix (zf a0).Guests a1 zo).Pending a2) (cond (inb a1 (ln (zf a0).Guests)) (share (up (zf a0).Guests a1 ({ (ix (zf a0).Guests a1 zo) with Pending:=(zek (ix (zf a0).Guests a1 zo).Pending a2) }:Guest)) (fun x4=>(some [(.agg (Ty.cells .bare ({ (zf a0) with Guests:=x4 }:Bare))),(.one (.b (zix (ix (zf a0).Guests a1 zo).Pending a2)))]))) none) none) none)) none) none)
theorem zCk (N:Nat)(a0:Bare)(a1 a2:Int):evalFn (cQ zdY zL zF zG) (zB []) N 12 51 [.agg (Ty.cells .bare a0),.one (.i .i64 a1),.one (.i .i64 a2)]=zk3 N a0 a1 a2:=by kernel_rfl
theorem zzT (a0:Bare)(a1 a2:Int)(hb:zD big [.agg (Ty.cells .bare a0),.one (.i .i64 a1),.one (.i .i64 a2)])(hc:(zlY a0 a1 a2)=true):∃N,zk3 N a0 a1 a2=some [.agg (Ty.cells .bare (zfA a0 a1 a2)),.one (.b (zfB a0 a1 a2))]:=by
 have hs:=zI.1 hc;have hz:zby a0 a1=true->hasB a1 (ln a0.Guests)=true:=fun h=>(zcj.1 h).2;have hz2:zby a0 a1=true->gAt a0 a1=ix a0.Guests a1 zo:=fun h=>zmJ (zcj.1 h).2;have hj:=@zRK a0 a1 a2;have hj0:=@zSC a0 a1 (zdV (gAt a0 a1).Pending a2) (zhS (gAt a0 a1) a2)
 refine ⟨0,?_⟩;unfold zk3;refine must (by first|assumption|(simp_all<;>omega)) (must (by first|assumption|(simp_all<;>omega)) (brN (fun _=>?_) (fun _=>must (by first|assumption|(simp_all<;>omega)) (must rfl (must (by first|assumption|(simp_all<;>omega)) (shr ?_))))))
 all_goals first|rfl|(simp only [*,zfA,zfB,zbY,zc7,zhS,cT,cF]<;>rfl)|simp_all [Ty.cells,zfA,zfB,zbY,zc7,zhS]
theorem zw8:Holds Tryz.prog 51 zjf:=zn zcC zA zq zu (zC (by kernel_rfl)) fun avs rs hb h=>by
 unfold zjf at h;split at h
 ·obtain ⟨hc,rfl⟩:=zi h;exact (zd1 zzT zCk hc hb :)
 ·cases h
@[simp,reducible] def zlb (b:Bare)(g n:Int):Bool:=pc (SmB b)
@[simp,reducible] def zfn (b:Bare)(g n:Int):Bare:=chg b g (zdV (gAt b g).Pending n) (zhS (gAt b g) n)
@[simp,reducible] def zfo (b:Bare)(g n:Int):Bool:=zbY b g (zdV (gAt b g).Pending n)
def zja:List AV->Option (Bool×List AV)
 | [.agg [.s (.sl .int) c,.s .guest d,.s .int e,.i .i64 f],.one (.i .i64 g),.one (.i .i64 h)]=>some ((zlb (⟨c,d,e,f⟩:Bare) g h),[.agg (Ty.cells .bare (zfn (⟨c,d,e,f⟩:Bare) g h)),.one (.b (zfo (⟨c,d,e,f⟩:Bare) g h))])
 | _=>none
def zkW (N:Nat)(a0:Bare)(a1 a2:Int):Option Ans :=
 (cond (zcm a0 a1) (cond (zgp (zh a0 a1).Pending a2) (cond (zcm a0 a1) (cond (zcp a0) (cond (cond (zbW a0) false true) (cond (zS a0) (some [(.agg (Ty.cells .bare (zH a0))),(.one (.b false))]) none) (cond (cond (zcl a0 a1) false true) (cond (zS a0) (some [(.agg (Ty.cells .bare (zH a0))),(.one (.b false))]) none) (cond (cond (zie (zh a0 a1).Pending a2) false true) (cond (zS a0) (some [(.agg (Ty.cells .bare (zH a0))),(.one (.b false))]) none) (cond (cond (ieq a0.Pending a0.Pending) true false) (cond (ieq a1 a1) (cond (zbc a0 a1 ({ (zh a0 a1) with Pending:=(zdF (zh a0 a1).Pending a2) }:Guest)) (some [(.agg (Ty.cells .bare (zbk a0 a1 ({ (zh a0 a1) with Pending:=(zdF (zh a0 a1).Pending a2) }:Guest)))),(.one (.b true))]) none) none) none)))) none) none) none) none)
theorem zCd (N:Nat)(a0:Bare)(a1 a2:Int):evalFn (cQ zdY zL zF zG) (zB []) N 12 119 [.agg (Ty.cells .bare a0),.one (.i .i64 a1),.one (.i .i64 a2)]=zkW N a0 a1 a2:=by kernel_rfl
theorem zzM (a0:Bare)(a1 a2:Int)(hb:zD big [.agg (Ty.cells .bare a0),.one (.i .i64 a1),.one (.i .i64 a2)])(hc:(zlb a0 a1 a2)=true):∃N,zkW N a0 a1 a2=some [.agg (Ty.cells .bare (zfn a0 a1 a2)),.one (.b (zfo a0 a1 a2))]:=by
 have hs:=zI.1 hc;have hx:=zeX a1 hs;have ho:_/\_/\_/\_:=hx
 refine ⟨0,?_⟩;unfold zkW;refine must (by first|assumption|(simp_all<;>omega)) (must rfl (must (by first|assumption|(simp_all<;>omega)) (must rfl (brN (fun _=>must (by first|assumption|(simp_all<;>omega)) ?_) (fun _=>brN (fun _=>must (by first|assumption|(simp_all<;>omega)) ?_) (fun _=>brN (fun _=>must (by first|assumption|(simp_all<;>omega)) ?_) (fun _=>must (by first|assumption|(simp_all<;>omega)) (must (by first|assumption|(simp_all<;>omega)) (must (by first|assumption|(simp_all<;>omega)) ?_)))))))))
 all_goals first|rfl|(simp only [*,zfn,zfo,chg,zbY,zhS,zby,zcr,cT,cF]<;>rfl)|simp_all [Ty.cells,zfn,zfo,chg,zbY,zhS,zby,zcr]
theorem zw1:Holds Tryz.prog 119 zja:=zn zcC zA zq zu (zC (by kernel_rfl)) fun avs rs hb h=>by
 unfold zja at h;split at h
 ·obtain ⟨hc,rfl⟩:=zi h;exact (zd1 zzM zCd hc hb :)
 ·cases h
@[simp,reducible] def ztQ (b:Bare)(g:Int)(c:Ctl):Bool:=pc (SmB b)
@[simp,reducible] def zin (b:Bare)(g:Int)(c:Ctl):Bare:=chg b g (zgC c) (zyT (gAt b g) c)
@[simp,reducible] def zio (b:Bare)(g:Int)(c:Ctl):Bool:=zbY b g (zgC c)
def znZ:List AV->Option (Bool×List AV)
 | [.agg [.s (.sl .int) c,.s .guest d,.s .int e,.i .i64 f],.one (.i .i64 g),.agg [.i .i64 h,.i .i64 j,.b k]]=>some ((ztQ (⟨c,d,e,f⟩:Bare) g (⟨h,j,k⟩:Ctl)),[.agg (Ty.cells .bare (zin (⟨c,d,e,f⟩:Bare) g (⟨h,j,k⟩:Ctl))),.one (.b (zio (⟨c,d,e,f⟩:Bare) g (⟨h,j,k⟩:Ctl)))])
 | _=>none
def zsK (N:Nat)(a0:Bare)(a1:Int)(a2:Ctl):Option Ans :=
 (cond (zcb a0) (cond (zeW (zf a0) a1) (cond (cond (zfF (zf a0) a1) false true) (some [(.agg (Ty.cells .bare (zf a0))),(.one (.b false))]) (cond (zmW a2) (cond (cond (zl2 a2) false true) (some [(.agg (Ty.cells .bare (zf a0))),(.one (.b false))]) (cond (inb a1 (ln (zf a0).Guests)) (share (up (zf a0).Guests a1 ({ (ix (zf a0).Guests a1 zo) with Ctl:=a2 }:Guest)) (fun x4=>(some [(.agg (Ty.cells .bare ({ (zf a0) with Guests:=x4 }:Bare))),(.one (.b true))]))) none)) none)) none) none)
theorem zKd (N:Nat)(a0:Bare)(a1:Int)(a2:Ctl):evalFn (cQ zdY zL zF zG) (zB []) N 12 52 [.agg (Ty.cells .bare a0),.one (.i .i64 a1),.agg (zeb a2)]=zsK N a0 a1 a2:=by kernel_rfl
theorem zGK (a0:Bare)(a1:Int)(a2:Ctl)(hb:zD big [.agg (Ty.cells .bare a0),.one (.i .i64 a1),.agg (zeb a2)])(hc:(ztQ a0 a1 a2)=true):∃N,zsK N a0 a1 a2=some [.agg (Ty.cells .bare (zin a0 a1 a2)),.one (.b (zio a0 a1 a2))]:=by
 have hs:=zI.1 hc;have hz:zby a0 a1=true->hasB a1 (ln a0.Guests)=true:=fun h=>(zcj.1 h).2;have hz2:zby a0 a1=true->gAt a0 a1=ix a0.Guests a1 zo:=fun h=>zmJ (zcj.1 h).2
 refine ⟨0,?_⟩;unfold zsK;refine must (by first|assumption|(simp_all<;>omega)) (must (by first|assumption|(simp_all<;>omega)) (brN (fun _=>?_) (fun _=>must rfl (brN (fun _=>?_) (fun _=>must (by first|assumption|(simp_all<;>omega)) (shr ?_))))))
 all_goals first|rfl|(simp only [*,zin,zio,chg,zbY,zyT,zc7,cT,cF]<;>rfl)|simp_all [Ty.cells,zin,zio,chg,zbY,zyT,zc7]
theorem zBm:Holds Tryz.prog 52 znZ:=zn zcC zA zq zu (zC (by kernel_rfl)) fun avs rs hb h=>by
 unfold znZ at h;split at h
 ·obtain ⟨hc,rfl⟩:=zi h;exact (zd1 zGK zKd hc hb :)
 ·cases h
@[simp,reducible] def zth (b:Bare)(g:Int)(c:Ctl):Bool:=pc (SmB b)
@[simp,reducible] def zh7 (b:Bare)(g:Int)(c:Ctl):Bare:=chg b g (zgC c) (zyT (gAt b g) c)
@[simp,reducible] def zh8 (b:Bare)(g:Int)(c:Ctl):Bool:=zbY b g (zgC c)
def znx:List AV->Option (Bool×List AV)
 | [.agg [.s (.sl .int) c,.s .guest d,.s .int e,.i .i64 f],.one (.i .i64 g),.agg [.i .i64 h,.i .i64 j,.b k]]=>some ((zth (⟨c,d,e,f⟩:Bare) g (⟨h,j,k⟩:Ctl)),[.agg (Ty.cells .bare (zh7 (⟨c,d,e,f⟩:Bare) g (⟨h,j,k⟩:Ctl))),.one (.b (zh8 (⟨c,d,e,f⟩:Bare) g (⟨h,j,k⟩:Ctl)))])
 | _=>none
def zsh (N:Nat)(a0:Bare)(a1:Int)(a2:Ctl):Option Ans :=
 (cond (zmN a2) (cond (zcm a0 a1) (cond (zcp a0) (cond (cond (zbW a0) false true) (cond (zS a0) (some [(.agg (Ty.cells .bare (zH a0))),(.one (.b false))]) none) (cond (cond (zcl a0 a1) false true) (cond (zS a0) (some [(.agg (Ty.cells .bare (zH a0))),(.one (.b false))]) none) (cond (cond (zlf a2) false true) (cond (zS a0) (some [(.agg (Ty.cells .bare (zH a0))),(.one (.b false))]) none) (cond (cond (ieq a0.Pending a0.Pending) true false) (cond (ieq a1 a1) (cond (zbc a0 a1 ({ (zh a0 a1) with Ctl:=a2 }:Guest)) (some [(.agg (Ty.cells .bare (zbk a0 a1 ({ (zh a0 a1) with Ctl:=a2 }:Guest)))),(.one (.b true))]) none) none) none)))) none) none) none)
theorem zJK (N:Nat)(a0:Bare)(a1:Int)(a2:Ctl):evalFn (cQ zdY zL zF zG) (zB []) N 12 120 [.agg (Ty.cells .bare a0),.one (.i .i64 a1),.agg (zeb a2)]=zsh N a0 a1 a2:=by kernel_rfl
theorem zGh (a0:Bare)(a1:Int)(a2:Ctl)(hb:zD big [.agg (Ty.cells .bare a0),.one (.i .i64 a1),.agg (zeb a2)])(hc:(zth a0 a1 a2)=true):∃N,zsh N a0 a1 a2=some [.agg (Ty.cells .bare (zh7 a0 a1 a2)),.one (.b (zh8 a0 a1 a2))]:=by
 have hs:=zI.1 hc;have hx:=zeX a1 hs;have ho:_/\_/\_/\_:=hx
 refine ⟨0,?_⟩;unfold zsh;refine must rfl (must (by first|assumption|(simp_all<;>omega)) (must rfl (brN (fun _=>must (by first|assumption|(simp_all<;>omega)) ?_) (fun _=>brN (fun _=>must (by first|assumption|(simp_all<;>omega)) ?_) (fun _=>brN (fun _=>must (by first|assumption|(simp_all<;>omega)) ?_) (fun _=>must (by first|assumption|(simp_all<;>omega)) (must (by first|assumption|(simp_all<;>omega)) (must (by first|assumption|(simp_all<;>omega)) ?_))))))))
 all_goals first|rfl|(simp only [*,zh7,zh8,chg,zbY,zyT,zby,zcr,cT,cF]<;>rfl)|simp_all [Ty.cells,zh7,zh8,chg,zbY,zyT,zby,zcr]
theorem zAU:Holds Tryz.prog 120 znx:=zn zcC zA zq zu (zC (by kernel_rfl)) fun avs rs hb h=>by
 unfold znx at h;split at h
 ·obtain ⟨hc,rfl⟩:=zi h;exact (zd1 zGh zJK hc hb :)
 ·cases h
def zCp (p c v:Int):Bool:=bif hasB p 8 then (cond (hasB c 4) (win v 0 99) false) else false
def zii (b:Bare)(p c v:Int):Bool:=bif zbO b then zCp p c v else false
def zkk (b:Bare)(p c v:Int):Bare:=bif zii b p c v then { b with Memory:=zdC b.Memory p c v } else b
def zpV (b:Bare):Bare:=bif zbO b then { b with Pending:=zdZ b.Pending } else b
def zyP (b:Bare):Int:=bif zbO b then zf9 b.Pending else -1
def zvs (b:Bare):Bool:=bif zbO b then !ilt (zcq b.Pending) 0 else false
def zdq (b:Bare)(g a n:Int):Bool:=bif zby b g then (cond (win a 0 15) (zhh (gAt b g).Live (zc6 a) n) false) else false
def zos (b:Bare)(g a n:Int):Int:=zgl (gAt b g).Live (zc6 a) n
def zmb (b:Bare)(g a v:Int):Bool:=bif zdq b g a 2 then win v 0 99 else false
def zpZ (b:Bare)(g a v:Int):Bare:=bif zmb b g a v then { b with Memory:=zdC b.Memory (zos b g a 2) (zdr a) v } else b
def zfV (b:Bare)(g a:Int):Int:=bif zdq b g a 1 then cellAt b.Memory (zos b g a 1) (zdr a) else 0
@[simp,reducible] def zrm (b:Bare)(p c v:Int):Bool:=pc (SmB b)
@[simp,reducible] def zg8 (b:Bare)(p c v:Int):Bare:=zkk b p c v
@[simp,reducible] def zg9 (b:Bare)(p c v:Int):Bool:=zii b p c v
def zlM:List AV->Option (Bool×List AV)
 | [.agg [.s (.sl .int) c,.s .guest d,.s .int e,.i .i64 f],.one (.i .i64 g),.one (.i .i64 h),.one (.i .i64 j)]=>some ((zrm (⟨c,d,e,f⟩:Bare) g h j),[.agg (Ty.cells .bare (zg8 (⟨c,d,e,f⟩:Bare) g h j)),.one (.b (zg9 (⟨c,d,e,f⟩:Bare) g h j))])
 | _=>none
def zpJ (N:Nat)(a0:Bare)(a1 a2 a3:Int):Option Ans :=
 (cond (zcb a0) (cond (zfW (zf a0)) (cond (cond (zcO (zf a0)) false true) (some [(.agg (Ty.cells .bare (zf a0))),(.one (.b false))]) (cond (zN a1 0 7) (cond (cond (zT a1 0 7) false true) (some [(.agg (Ty.cells .bare (zf a0))),(.one (.b false))]) (cond (zN a2 0 3) (cond (cond (zT a2 0 3) false true) (some [(.agg (Ty.cells .bare (zf a0))),(.one (.b false))]) (cond (zN a3 0 99) (cond (cond (zT a3 0 99) false true) (some [(.agg (Ty.cells .bare (zf a0))),(.one (.b false))]) (cond (zfE (zf a0).Memory a1 a2 a3) (some [(.agg (Ty.cells .bare ({ (zf a0) with Memory:=(zeV (zf a0).Memory a1 a2 a3) }:Bare))),(.one (.b true))]) none)) none)) none)) none)) none) none)
theorem zHy (N:Nat)(a0:Bare)(a1 a2 a3:Int):evalFn (cQ zdY zL zF zG) (zB []) N 12 54 [.agg (Ty.cells .bare a0),.one (.i .i64 a1),.one (.i .i64 a2),.one (.i .i64 a3)]=zpJ N a0 a1 a2 a3:=by kernel_rfl
theorem zEq (a0:Bare)(a1 a2 a3:Int)(hb:zD big [.agg (Ty.cells .bare a0),.one (.i .i64 a1),.one (.i .i64 a2),.one (.i .i64 a3)])(hc:(zrm a0 a1 a2 a3)=true):∃N,zpJ N a0 a1 a2 a3=some [.agg (Ty.cells .bare (zg8 a0 a1 a2 a3)),.one (.b (zg9 a0 a1 a2 a3))]:=by
 have hs:=zI.1 hc;have hz:_/\_/\_:=hs
 refine ⟨0,?_⟩;unfold zpJ;refine must (by first|assumption|(simp_all<;>omega)) (must rfl (brN (fun _=>?_) (fun _=>must rfl (brN (fun _=>?_) (fun _=>must rfl (brN (fun _=>?_) (fun _=>must rfl (brN (fun _=>?_) (fun _=>must (by first|assumption|(simp_all<;>omega)) ?_)))))))))
 all_goals first|rfl|(simp only [*,zg8,zg9,zkk,zii,zCp,cT,cF]<;>rfl)|simp_all [Ty.cells,zg8,zg9,zkk,zii,zCp]
theorem zzv:Holds Tryz.prog 54 zlM:=zn zcC zA zq zu (zC (by kernel_rfl)) fun avs rs hb h=>by
 unfold zlM at h;split at h
 ·obtain ⟨hc,rfl⟩:=zi h;exact (ztd zEq zHy hc hb :)
 ·cases h
@[simp,reducible] def ztP (b:Bare):Bool:=pc (SmB b)
@[simp,reducible] def zik (b:Bare):Bare:=zpV b
@[simp,reducible] def zil (b:Bare):Int:=zyP b
@[simp,reducible] def zim (b:Bare):Bool:=zvs b
def znX:List AV->Option (Bool×List AV)
 | [.agg [.s (.sl .int) c,.s .guest d,.s .int e,.i .i64 f]]=>some ((ztP (⟨c,d,e,f⟩:Bare)),[.agg (Ty.cells .bare (zik (⟨c,d,e,f⟩:Bare))),.one (.i .i64 (zil (⟨c,d,e,f⟩:Bare))),.one (.b (zim (⟨c,d,e,f⟩:Bare)))])
 | _=>none
def zsI (N:Nat)(a0:Bare):Option Ans :=
 (cond (zcb a0) (cond (zfW (zf a0)) (cond (cond (zcO (zf a0)) false true) (some [(.agg (Ty.cells .bare (zf a0))),(.one (.i .i64 (-1))),(.one (.b false))]) (cond (zmB (zf a0).Pending) (some [(.agg (Ty.cells .bare ({ (zf a0) with Pending:=(zfc (zf a0).Pending) }:Bare))),(.one (.i .i64 (zfd (zf a0).Pending))),(.one (.b (ziy (zf a0).Pending)))]) none)) none) none)
theorem zKb (N:Nat)(a0:Bare):evalFn (cQ zdY zL zF zG) (zB []) N 12 56 [.agg (Ty.cells .bare a0)]=zsI N a0:=by kernel_rfl
theorem zGI (a0:Bare)(hb:zD big [.agg (Ty.cells .bare a0)])(hc:(ztP a0)=true):∃N,zsI N a0=some [.agg (Ty.cells .bare (zik a0)),.one (.i .i64 (zil a0)),.one (.b (zim a0))]:=by
 have hs:=zI.1 hc;refine ⟨0,?_⟩;unfold zsI;refine must (by first|assumption|(simp_all<;>omega)) (must rfl (brN (fun _=>?_) (fun _=>must rfl ?_)))
 all_goals first|rfl|(simp only [*,zik,zil,zim,zpV,zyP,zvs,zdZ,zf9,cT,cF]<;>rfl)|simp_all [Ty.cells,zik,zil,zim,zpV,zyP,zvs,zdZ,zf9]
theorem zBk:Holds Tryz.prog 56 znX:=zn zcC zA zq zu (zC (by kernel_rfl)) fun avs rs hb h=>by
 unfold znX at h;split at h
 ·obtain ⟨hc,rfl⟩:=zi h;exact (fin1 zGI zKb hc hb :)
 ·cases h
@[simp,reducible] def zp9 (b:Bare)(p c v:Int):Bool:=pc (SmB b)
@[simp,reducible] def zgS (b:Bare)(p c v:Int):Bare:=zkk b p c v
@[simp,reducible] def zgT (b:Bare)(p c v:Int):Bool:=zii b p c v
def zlq:List AV->Option (Bool×List AV)
 | [.agg [.s (.sl .int) c,.s .guest d,.s .int e,.i .i64 f],.one (.i .i64 g),.one (.i .i64 h),.one (.i .i64 j)]=>some ((zp9 (⟨c,d,e,f⟩:Bare) g h j),[.agg (Ty.cells .bare (zgS (⟨c,d,e,f⟩:Bare) g h j)),.one (.b (zgT (⟨c,d,e,f⟩:Bare) g h j))])
 | _=>none
def zpk (N:Nat)(a0:Bare)(a1 a2 a3:Int):Option Ans :=
 (cond (zS a0) (cond (zcp a0) (cond (cond (zbW a0) false true) (some [(.agg (Ty.cells .bare (zH a0))),(.one (.b false))]) (cond (zcF a1 8) (cond (cond (zda a1 8) false true) (some [(.agg (Ty.cells .bare (zH a0))),(.one (.b false))]) (cond (zcF a2 4) (cond (cond (zda a2 4) false true) (some [(.agg (Ty.cells .bare (zH a0))),(.one (.b false))]) (cond (zQ a3 0 99) (cond (cond (zX a3 0 99) false true) (some [(.agg (Ty.cells .bare (zH a0))),(.one (.b false))]) (cond (zfr a0.Memory a1 a2 a3) (some [(.agg (Ty.cells .bare ({ (zH a0) with Memory:=(zdG a0.Memory a1 a2 a3) }:Bare))),(.one (.b true))]) none)) none)) none)) none)) none) none)
theorem zG8 (N:Nat)(a0:Bare)(a1 a2 a3:Int):evalFn (cQ zdY zL zF zG) (zB []) N 12 122 [.agg (Ty.cells .bare a0),.one (.i .i64 a1),.one (.i .i64 a2),.one (.i .i64 a3)]=zpk N a0 a1 a2 a3:=by kernel_rfl
theorem zD0 (a0:Bare)(a1 a2 a3:Int)(hb:zD big [.agg (Ty.cells .bare a0),.one (.i .i64 a1),.one (.i .i64 a2),.one (.i .i64 a3)])(hc:(zp9 a0 a1 a2 a3)=true):∃N,zpk N a0 a1 a2 a3=some [.agg (Ty.cells .bare (zgS a0 a1 a2 a3)),.one (.b (zgT a0 a1 a2 a3))]:=by
 have hs:=zI.1 hc;have hz:_/\_/\_:=hs
 refine ⟨0,?_⟩;unfold zpk;refine must (by first|assumption|(simp_all<;>omega)) (must rfl (brN (fun _=>?_) (fun _=>must rfl (brN (fun _=>?_) (fun _=>must rfl (brN (fun _=>?_) (fun _=>must rfl (brN (fun _=>?_) (fun _=>must (by first|assumption|(simp_all<;>omega)) ?_)))))))))
 all_goals first|rfl|(simp only [*,zgS,zgT,zkk,zii,zCp,cT,cF]<;>rfl)|simp_all [Ty.cells,zgS,zgT,zkk,zii,zCp]
theorem zy6:Holds Tryz.prog 122 zlq:=zn zcC zA zq zu (zC (by kernel_rfl)) fun avs rs hb h=>by
 unfold zlq at h;split at h
 ·obtain ⟨hc,rfl⟩:=zi h;exact (ztd zD0 zG8 hc hb :)
 ·cases h
@[simp,reducible] def ztf (b:Bare):Bool:=pc (SmB b)
@[simp,reducible] def zh2 (b:Bare):Bare:=zpV b
@[simp,reducible] def zh3 (b:Bare):Int:=zyP b
@[simp,reducible] def zh4 (b:Bare):Bool:=zvs b
def znv:List AV->Option (Bool×List AV)
 | [.agg [.s (.sl .int) c,.s .guest d,.s .int e,.i .i64 f]]=>some ((ztf (⟨c,d,e,f⟩:Bare)),[.agg (Ty.cells .bare (zh2 (⟨c,d,e,f⟩:Bare))),.one (.i .i64 (zh3 (⟨c,d,e,f⟩:Bare))),.one (.b (zh4 (⟨c,d,e,f⟩:Bare)))])
 | _=>none
def zsg (N:Nat)(a0:Bare):Option Ans :=
 (cond (zS a0) (cond (zmi a0.Pending) (cond (zcp a0) (cond (cond (zbW a0) false true) (some [(.agg (Ty.cells .bare (zH a0))),(.one (.i .i64 (-1))),(.one (.b false))]) (cond (cond (zif a0.Pending) false true) (some [(.agg (Ty.cells .bare (zH a0))),(.one (.i .i64 (-1))),(.one (.b false))]) (some [(.agg (Ty.cells .bare ({ (zH a0) with Pending:=(ze4 a0.Pending) }:Bare))),(.one (.i .i64 (ze5 a0.Pending))),(.one (.b true))]))) none) none) none)
theorem zJJ (N:Nat)(a0:Bare):evalFn (cQ zdY zL zF zG) (zB []) N 12 124 [.agg (Ty.cells .bare a0)]=zsg N a0:=by kernel_rfl
theorem zGg (a0:Bare)(hb:zD big [.agg (Ty.cells .bare a0)])(hc:(ztf a0)=true):∃N,zsg N a0=some [.agg (Ty.cells .bare (zh2 a0)),.one (.i .i64 (zh3 a0)),.one (.b (zh4 a0))]:=by
 have hs:=zI.1 hc;refine ⟨0,?_⟩;unfold zsg;refine must (by first|assumption|(simp_all<;>omega)) (must rfl (must rfl (brN (fun _=>?_) (fun _=>brN (fun _=>?_) (fun _=>?_)))))
 all_goals first|rfl|(simp only [*,zh2,zh3,zh4,zpV,zyP,zvs,zdZ,zf9,cT,cF]<;>rfl)|simp_all [Ty.cells,zh2,zh3,zh4,zpV,zyP,zvs,zdZ,zf9]
theorem zAS:Holds Tryz.prog 124 znv:=zn zcC zA zq zu (zC (by kernel_rfl)) fun avs rs hb h=>by
 unfold znv at h;split at h
 ·obtain ⟨hc,rfl⟩:=zi h;exact (fin1 zGg zJJ hc hb :)
 ·cases h
theorem zQS {α:Type}(c:Bool)(x y:α):(cond c (cond c x y) y)=(cond c x y):=by cases c<;>rfl
@[simp,reducible] def zr8 (b:Bare)(g a n:Int):Bool:=pc (SmB b)
@[simp,reducible] def zfO (b:Bare)(g a n:Int):Int:=bif zdq b g a n then zos b g a n else -1
@[simp,reducible] def zjC (b:Bare)(g a n:Int):Bool:=zdq b g a n
def ztO:List AV->Option (Bool×List AV)
 | [.agg [.s (.sl .int) c,.s .guest d,.s .int e,.i .i64 f],.one (.i .i64 g),.one (.i .i64 h),.one (.i .i64 j)]=>some ((zr8 (⟨c,d,e,f⟩:Bare) g h j),[.one (.i .i64 (zfO (⟨c,d,e,f⟩:Bare) g h j)),.one (.b (zjC (⟨c,d,e,f⟩:Bare) g h j))])
 | _=>none
def zwJ (N:Nat)(a0:Bare)(a1 a2 a3:Int):Option Ans :=
 (cond (zeW a0 a1) (cond (cond (zfF a0 a1) false true) (some [(.one (.i .i64 (-1))),(.one (.b false))]) (cond (zN a2 0 15) (cond (cond (zT a2 0 15) false true) (some [(.one (.i .i64 (-1))),(.one (.b false))]) (cond (inb a1 (ln a0.Guests)) (cond (zeA a2) (cond (zgj (ix a0.Guests a1 zo).Live (zbG a2) a3) (some [(.one (.i .i64 (zb4 (ix a0.Guests a1 zo).Live (zbG a2) a3))),(.one (.b (zd5 (ix a0.Guests a1 zo).Live (zbG a2) a3)))]) none) none) none)) none)) none)
theorem zOf (N:Nat)(a0:Bare)(a1 a2 a3:Int):evalFn (cQ zdY zL zF zG) (zB []) N 12 108 [.agg (Ty.cells .bare a0),.one (.i .i64 a1),.one (.i .i64 a2),.one (.i .i64 a3)]=zwJ N a0 a1 a2 a3:=by kernel_rfl
theorem zLI (a0:Bare)(a1 a2 a3:Int)(hb:zD big [.agg (Ty.cells .bare a0),.one (.i .i64 a1),.one (.i .i64 a2),.one (.i .i64 a3)])(hc:(zr8 a0 a1 a2 a3)=true):∃N,zwJ N a0 a1 a2 a3=some [.one (.i .i64 (zfO a0 a1 a2 a3)),.one (.b (zjC a0 a1 a2 a3))]:=by
 have hs:=zI.1 hc;have hz:zby a0 a1=true->hasB a1 (ln a0.Guests)=true:=fun h=>(zcj.1 h).2;have hz2:zby a0 a1=true->gAt a0 a1=ix a0.Guests a1 zo:=fun h=>zmJ (zcj.1 h).2
 refine ⟨0,?_⟩;unfold zwJ;refine must (by first|assumption|(simp_all<;>omega)) (brN (fun _=>?_) (fun _=>must rfl (brN (fun _=>?_) (fun _=>must (by first|assumption|(simp_all<;>omega)) (must rfl (must rfl ?_))))))
 all_goals first|rfl|(simp only [*,zfO,zjC,zdq,zos,zgl,zQS,cT,cF]<;>rfl)|simp_all [Ty.cells,zfO,zjC,zdq,zos,zgl,zQS]
theorem zGd:Holds Tryz.prog 108 ztO:=zn zcC zA zq zu (zC (by kernel_rfl)) fun avs rs hb h=>by
 unfold ztO at h;split at h
 ·obtain ⟨hc,rfl⟩:=zi h;exact (ztd zLI zOf hc hb :)
 ·cases h
def zpd (b:Bare)(g a:Int):Bool:=bif zby b g then win a 0 15 else false
@[simp,reducible] def zrV (b:Bare)(g a n:Int):Bool:=pc (SmB b)
@[simp,reducible] def zfI (b:Bare)(g a n:Int):Int:=bif zpd b g a then zos b g a n else 0
@[simp,reducible] def zfJ (b:Bare)(g a n:Int):Int:=bif zpd b g a then zdr a else 0
@[simp,reducible] def zjw (b:Bare)(g a n:Int):Bool:=zdq b g a n
def zty:List AV->Option (Bool×List AV)
 | [.agg [.s (.sl .int) c,.s .guest d,.s .int e,.i .i64 f],.one (.i .i64 g),.one (.i .i64 h),.one (.i .i64 j)]=>some ((zrV (⟨c,d,e,f⟩:Bare) g h j),[.one (.i .i64 (zfI (⟨c,d,e,f⟩:Bare) g h j)),.one (.i .i64 (zfJ (⟨c,d,e,f⟩:Bare) g h j)),.one (.b (zjw (⟨c,d,e,f⟩:Bare) g h j))])
 | _=>none
def zwt (N:Nat)(a0:Bare)(a1 a2 a3:Int):Option Ans :=
 (cond (zcm a0 a1) (cond (zcp a0) (cond (cond (zbW a0) false true) (some [(.one (.i .i64 0)),(.one (.i .i64 0)),(.one (.b false))]) (cond (cond (zcl a0 a1) false true) (some [(.one (.i .i64 0)),(.one (.i .i64 0)),(.one (.b false))]) (cond (zQ a2 0 15) (cond (cond (zX a2 0 15) false true) (some [(.one (.i .i64 0)),(.one (.i .i64 0)),(.one (.b false))]) (cond (zer a2) (cond (zf7 (zh a0 a1).Live (zbs a2) a3) (cond (zeq a2) (some [(.one (.i .i64 (zbJ (zh a0 a1).Live (zbs a2) a3))),(.one (.i .i64 (zb9 a2))),(.one (.b (zd3 (zh a0 a1).Live (zbs a2) a3)))]) none) none) none)) none))) none) none)
theorem zNZ (N:Nat)(a0:Bare)(a1 a2 a3:Int):evalFn (cQ zdY zL zF zG) (zB []) N 12 192 [.agg (Ty.cells .bare a0),.one (.i .i64 a1),.one (.i .i64 a2),.one (.i .i64 a3)]=zwt N a0 a1 a2 a3:=by kernel_rfl
theorem zLs (a0:Bare)(a1 a2 a3:Int)(hb:zD big [.agg (Ty.cells .bare a0),.one (.i .i64 a1),.one (.i .i64 a2),.one (.i .i64 a3)])(hc:(zrV a0 a1 a2 a3)=true):∃N,zwt N a0 a1 a2 a3=some [.one (.i .i64 (zfI a0 a1 a2 a3)),.one (.i .i64 (zfJ a0 a1 a2 a3)),.one (.b (zjw a0 a1 a2 a3))]:=by
 have hs:=zI.1 hc;refine ⟨0,?_⟩;unfold zwt;refine must (by first|assumption|(simp_all<;>omega)) (must rfl (brN (fun _=>?_) (fun _=>brN (fun _=>?_) (fun _=>must rfl (brN (fun _=>?_) (fun _=>must rfl (must rfl (must rfl ?_))))))))
 all_goals first|rfl|(simp only [*,zfI,zfJ,zjw,zdq,zos,zpd,zby,cT,cF]<;>rfl)|simp_all [Ty.cells,zfI,zfJ,zjw,zdq,zos,zpd,zby]
theorem zFX:Holds Tryz.prog 192 zty:=zn zcC zA zq zu (zC (by kernel_rfl)) fun avs rs hb h=>by
 unfold zty at h;split at h
 ·obtain ⟨hc,rfl⟩:=zi h;exact (ztd zLs zNZ hc hb :)
 ·cases h
def zrL:zbu:=[(108,ztO),(192,zty)]++zdY
theorem ziV:zbE zrL:=zl zGd (zl zFX zcC)
theorem zoT {b:Bare}{g a n:Int}(h:zdq b g a n=true):zpd b g a=true:=by
 unfold zdq at h;unfold zpd;cases h1:zby b g
 ·rw [h1] at h;exact h
 ·cases h2:win a 0 15
  ·rw [h1,h2] at h;exact h
  ·rfl
@[simp,reducible] def ztR (b:Bare)(g a v:Int):Bool:=pc (SmB b)
@[simp,reducible] def ziq (b:Bare)(g a v:Int):Bare:=zpZ b g a v
@[simp,reducible] def zir (b:Bare)(g a v:Int):Bool:=zmb b g a v
def zn0:List AV->Option (Bool×List AV)
 | [.agg [.s (.sl .int) c,.s .guest d,.s .int e,.i .i64 f],.one (.i .i64 g),.one (.i .i64 h),.one (.i .i64 j)]=>some ((ztR (⟨c,d,e,f⟩:Bare) g h j),[.agg (Ty.cells .bare (ziq (⟨c,d,e,f⟩:Bare) g h j)),.one (.b (zir (⟨c,d,e,f⟩:Bare) g h j))])
 | _=>none
def zsL (N:Nat)(a0:Bare)(a1 a2 a3:Int):Option Ans :=
 (cond (zcb a0) (cond (zr8 (zf a0) a1 a2 2) (cond (cond (zjC (zf a0) a1 a2 2) false true) (some [(.agg (Ty.cells .bare (zf a0))),(.one (.b false))]) (cond (zN a3 0 99) (cond (cond (zT a3 0 99) false true) (some [(.agg (Ty.cells .bare (zf a0))),(.one (.b false))]) (cond (zdW a2) (cond (zfE (zf a0).Memory (zfO (zf a0) a1 a2 2) (zcd a2) a3) (some [(.agg (Ty.cells .bare ({ (zf a0) with Memory:=(zeV (zf a0).Memory (zfO (zf a0) a1 a2 2) (zcd a2) a3) }:Bare))),(.one (.b true))]) none) none)) none)) none) none)
theorem zKe (N:Nat)(a0:Bare)(a1 a2 a3:Int):evalFn (cQ zrL zL zF zG) (zB []) N 12 57 [.agg (Ty.cells .bare a0),.one (.i .i64 a1),.one (.i .i64 a2),.one (.i .i64 a3)]=zsL N a0 a1 a2 a3:=by kernel_rfl
theorem zGL (a0:Bare)(a1 a2 a3:Int)(hb:zD big [.agg (Ty.cells .bare a0),.one (.i .i64 a1),.one (.i .i64 a2),.one (.i .i64 a3)])(hc:(ztR a0 a1 a2 a3)=true):∃N,zsL N a0 a1 a2 a3=some [.agg (Ty.cells .bare (ziq a0 a1 a2 a3)),.one (.b (zir a0 a1 a2 a3))]:=by
 have hs:=zI.1 hc;have hz:_/\_/\_:=hs;have hr:=@zoT a0 a1 a2 2
 refine ⟨0,?_⟩;unfold zsL;refine must (by first|assumption|(simp_all<;>omega)) (must (by first|assumption|(simp_all<;>omega)) (brN (fun _=>?_) (fun _=>must rfl (brN (fun _=>?_) (fun _=>must rfl (must (by first|assumption|(simp_all<;>omega)) ?_))))))
 all_goals first|rfl|(simp only [*,ziq,zir,zpZ,zmb,cT,cF]<;>rfl)|simp_all [Ty.cells,ziq,zir,zpZ,zmb]
theorem zBn:Holds Tryz.prog 57 zn0:=zn ziV zA zq zu (zC (by kernel_rfl)) fun avs rs hb h=>by
 unfold zn0 at h;split at h
 ·obtain ⟨hc,rfl⟩:=zi h;exact (ztd zGL zKe hc hb :)
 ·cases h
@[simp,reducible] def zro (b:Bare)(g a:Int):Bool:=pc (SmB b)
@[simp,reducible] def zha (b:Bare)(g a:Int):Int:=zfV b g a
@[simp,reducible] def zhb (b:Bare)(g a:Int):Bool:=zdq b g a 1
def zlO:List AV->Option (Bool×List AV)
 | [.agg [.s (.sl .int) c,.s .guest d,.s .int e,.i .i64 f],.one (.i .i64 g),.one (.i .i64 h)]=>some ((zro (⟨c,d,e,f⟩:Bare) g h),[.one (.i .i64 (zha (⟨c,d,e,f⟩:Bare) g h)),.one (.b (zhb (⟨c,d,e,f⟩:Bare) g h))])
 | _=>none
def zpL (N:Nat)(a0:Bare)(a1 a2:Int):Option Ans :=
 (cond (zr8 a0 a1 a2 1) (cond (cond (zjC a0 a1 a2 1) false true) (some [(.one (.i .i64 0)),(.one (.b false))]) (cond (zdW a2) (cond (zkI a0.Memory (zfO a0 a1 a2 1) (zcd a2)) (some [(.one (.i .i64 (zfX a0.Memory (zfO a0 a1 a2 1) (zcd a2)))),(.one (.b true))]) none) none)) none)
theorem zHA (N:Nat)(a0:Bare)(a1 a2:Int):evalFn (cQ zrL zL zF zG) (zB []) N 12 58 [.agg (Ty.cells .bare a0),.one (.i .i64 a1),.one (.i .i64 a2)]=zpL N a0 a1 a2:=by kernel_rfl
theorem zEs (a0:Bare)(a1 a2:Int)(hb:zD big [.agg (Ty.cells .bare a0),.one (.i .i64 a1),.one (.i .i64 a2)])(hc:(zro a0 a1 a2)=true):∃N,zpL N a0 a1 a2=some [.one (.i .i64 (zha a0 a1 a2)),.one (.b (zhb a0 a1 a2))]:=by
 have hs:=zI.1 hc;have hz:_/\_/\_:=hs;have hr:=@zoT a0 a1 a2 1
 refine ⟨0,?_⟩;unfold zpL;refine must (by first|assumption|(simp_all<;>omega)) (brN (fun _=>?_) (fun _=>must rfl (must rfl ?_)))
 all_goals first|rfl|(simp only [*,zha,zhb,zfV,cT,cF]<;>rfl)|simp_all [Ty.cells,zha,zhb,zfV]
theorem zzx:Holds Tryz.prog 58 zlO:=zn ziV zA zq zu (zC (by kernel_rfl)) fun avs rs hb h=>by
 unfold zlO at h;split at h
 ·obtain ⟨hc,rfl⟩:=zi h;exact (zd1 zEs zHA hc hb :)
 ·cases h
@[simp,reducible] def zti (b:Bare)(g a v:Int):Bool:=pc (SmB b)
@[simp,reducible] def zh9 (b:Bare)(g a v:Int):Bare:=zpZ b g a v
@[simp,reducible] def zia (b:Bare)(g a v:Int):Bool:=zmb b g a v
def zny:List AV->Option (Bool×List AV)
 | [.agg [.s (.sl .int) c,.s .guest d,.s .int e,.i .i64 f],.one (.i .i64 g),.one (.i .i64 h),.one (.i .i64 j)]=>some ((zti (⟨c,d,e,f⟩:Bare) g h j),[.agg (Ty.cells .bare (zh9 (⟨c,d,e,f⟩:Bare) g h j)),.one (.b (zia (⟨c,d,e,f⟩:Bare) g h j))])
 | _=>none
def zsi (N:Nat)(a0:Bare)(a1 a2 a3:Int):Option Ans :=
 (cond (zS a0) (cond (zrV a0 a1 a2 2) (cond (cond (zjw a0 a1 a2 2) false true) (some [(.agg (Ty.cells .bare (zH a0))),(.one (.b false))]) (cond (zQ a3 0 99) (cond (cond (zX a3 0 99) false true) (some [(.agg (Ty.cells .bare (zH a0))),(.one (.b false))]) (cond (zfr a0.Memory (zfI a0 a1 a2 2) (zfJ a0 a1 a2 2) a3) (some [(.agg (Ty.cells .bare ({ (zH a0) with Memory:=(zdG a0.Memory (zfI a0 a1 a2 2) (zfJ a0 a1 a2 2) a3) }:Bare))),(.one (.b true))]) none)) none)) none) none)
theorem zJL (N:Nat)(a0:Bare)(a1 a2 a3:Int):evalFn (cQ zrL zL zF zG) (zB []) N 12 125 [.agg (Ty.cells .bare a0),.one (.i .i64 a1),.one (.i .i64 a2),.one (.i .i64 a3)]=zsi N a0 a1 a2 a3:=by kernel_rfl
theorem zGi (a0:Bare)(a1 a2 a3:Int)(hb:zD big [.agg (Ty.cells .bare a0),.one (.i .i64 a1),.one (.i .i64 a2),.one (.i .i64 a3)])(hc:(zti a0 a1 a2 a3)=true):∃N,zsi N a0 a1 a2 a3=some [.agg (Ty.cells .bare (zh9 a0 a1 a2 a3)),.one (.b (zia a0 a1 a2 a3))]:=by
 have hs:=zI.1 hc;have hz:_/\_/\_:=hs;have hr:=@zoT a0 a1 a2 2
 refine ⟨0,?_⟩;unfold zsi;refine must (by first|assumption|(simp_all<;>omega)) (must (by first|assumption|(simp_all<;>omega)) (brN (fun _=>?_) (fun _=>must rfl (brN (fun _=>?_) (fun _=>must (by first|assumption|(simp_all<;>omega)) ?_)))))
 all_goals first|rfl|(simp only [*,zh9,zia,zpZ,zmb,cT,cF]<;>rfl)|simp_all [Ty.cells,zh9,zia,zpZ,zmb]
theorem zAV:Holds Tryz.prog 125 zny:=zn ziV zA zq zu (zC (by kernel_rfl)) fun avs rs hb h=>by
 unfold zny at h;split at h
 ·obtain ⟨hc,rfl⟩:=zi h;exact (ztd zGi zJL hc hb :)
 ·cases h
@[simp,reducible] def zgU (b:Bare)(g a:Int):Bool:=pc (SmB b)
@[simp,reducible] def zjT (b:Bare)(g a:Int):Int:=zfV b g a
@[simp,reducible] def zjU (b:Bare)(g a:Int):Bool:=zdq b g a 1
def zhD:List AV->Option (Bool×List AV)
 | [.agg [.s (.sl .int) c,.s .guest d,.s .int e,.i .i64 f],.one (.i .i64 g),.one (.i .i64 h)]=>some ((zgU (⟨c,d,e,f⟩:Bare) g h),[.one (.i .i64 (zjT (⟨c,d,e,f⟩:Bare) g h)),.one (.b (zjU (⟨c,d,e,f⟩:Bare) g h))])
 | _=>none
def zpm (N:Nat)(a0:Bare)(a1 a2:Int):Option Ans :=
 (cond (zrV a0 a1 a2 1) (cond (cond (zjw a0 a1 a2 1) false true) (some [(.one (.i .i64 0)),(.one (.b false))]) (cond (zjW a0.Memory (zfI a0 a1 a2 1) (zfJ a0 a1 a2 1)) (some [(.one (.i .i64 (zes a0.Memory (zfI a0 a1 a2 1) (zfJ a0 a1 a2 1)))),(.one (.b true))]) none)) none)
theorem zHa (N:Nat)(a0:Bare)(a1 a2:Int):evalFn (cQ zrL zL zF zG) (zB []) N 12 126 [.agg (Ty.cells .bare a0),.one (.i .i64 a1),.one (.i .i64 a2)]=zpm N a0 a1 a2:=by kernel_rfl
theorem zD2 (a0:Bare)(a1 a2:Int)(hb:zD big [.agg (Ty.cells .bare a0),.one (.i .i64 a1),.one (.i .i64 a2)])(hc:(zgU a0 a1 a2)=true):∃N,zpm N a0 a1 a2=some [.one (.i .i64 (zjT a0 a1 a2)),.one (.b (zjU a0 a1 a2))]:=by
 have hs:=zI.1 hc;have hz:_/\_/\_:=hs;have hr:=@zoT a0 a1 a2 1
 refine ⟨0,?_⟩;unfold zpm;refine must (by first|assumption|(simp_all<;>omega)) (brN (fun _=>?_) (fun _=>must rfl ?_))
 all_goals first|rfl|(simp only [*,zjT,zjU,zfV,cT,cF]<;>rfl)|simp_all [Ty.cells,zjT,zjU,zfV]
theorem zp5:Holds Tryz.prog 126 zhD:=zn ziV zA zq zu (zC (by kernel_rfl)) fun avs rs hb h=>by
 unfold zhD at h;split at h
 ·obtain ⟨hc,rfl⟩:=zi h;exact (zd1 zD2 zHa hc hb :)
 ·cases h
def zcH (l:List Guest)(n:Int):List Int:=idxs (fun (x:Guest)=>posts x.Ctl n) l 0
theorem zIM {α:Type}(p:α->Bool):∀(l:List α) (i:Nat),∀k∈idxs p l i,(i:Int)<=k/\k<(i:Int)+l.length
 | [],_,k,hk=>by cases hk
 | x :: l,i,k,hk=>by
  have hr:=zIM p l (i+1);simp only [List.length_cons];unfold idxs at hk;cases hp:p x
  ·rw [hp] at hk;have:=hr k hk;omega
  ·rw [hp] at hk;rcases List.mem_cons.1 hk with rfl|hk
   ·omega
   ·have:=hr k hk;omega
@[simp,reducible] def zrv (b:Bare)(n:Int):Bool:=pc (SmB b)
@[simp,reducible] def zhK (b:Bare)(n:Int):List Int:=zcH b.Guests n
def zlR:List AV->Option (Bool×List AV)
 | [.agg [.s (.sl .int) b,.s .guest c,.s .int d,.i .i64 e],.one (.i .i64 f)]=>some ((zrv (⟨b,c,d,e⟩:Bare) f),[.one (.s .int (zhK (⟨b,c,d,e⟩:Bare) f))])
 | _=>none
def zpP (N:Nat)(a0:Bare)(a1:Int):Option Ans :=
 (iter (σ:=(Int×(Int×(Int×((List Int)×((List (List Int))×((List Guest)×((List Int)×Unit)))))))) N (fun r3 s4=>(cond (ilt s4.2.1 (ln s4.2.2.2.2.2.1)) (cond (inb s4.2.1 (ln s4.2.2.2.2.2.1)) (cond (zxw (ix s4.2.2.2.2.2.1 s4.2.1 zo).Ctl s4.1) (cond (zuA (ix s4.2.2.2.2.2.1 s4.2.1 zo).Ctl s4.1) (cond (few (ln (ap s4.2.2.2.1 [s4.2.1]))) (r3 (s4.1,((zy .i64 s4.2.1 1),(s4.2.2.1,((ap s4.2.2.2.1 [s4.2.1]),(s4.2.2.2.2.1,(s4.2.2.2.2.2.1,(s4.2.2.2.2.2.2.1,())))))))) none) (r3 (s4.1,((zy .i64 s4.2.1 1),(s4.2.2.1,(s4.2.2.2.1,(s4.2.2.2.2.1,(s4.2.2.2.2.2.1,(s4.2.2.2.2.2.2.1,()))))))))) none) none) (some [(.one (.s .int s4.2.2.2.1))]))) (a1,(0,(a0.Pending,([],(a0.Memory,(a0.Guests,(a0.Outs,()))))))))
def zFj:FuncId->Nat->Option Tmpl:=zB [(106,0,{ n:=28,tm:=[(1,.i .i64),(2,.lp 0 0),(5,.sl 0 []),(6,.i .i64)],lo:=[(0,[.sl 1 [],.sl 2 [],.sl 3 [],.i .i64])],ro:=[(0,.int,true),(1,(.sl .int),false),(2,.guest,false),(3,.int,false)] })]
theorem zHE (N:Nat)(a0:Bare)(a1:Int):evalFn (cQ zrL zL zF zG) zFj N 12 106 [.agg (Ty.cells .bare a0),.one (.i .i64 a1)]=zpP N a0 a1:=by kernel_rfl
theorem zEw (a0:Bare)(a1:Int)(hb:zD big [.agg (Ty.cells .bare a0),.one (.i .i64 a1)])(hc:(zrv a0 a1)=true):∃N,zpP N a0 a1=some [.one (.s .int (zhK a0 a1))]:=by
 have hs:=zI.1 hc;have hl:=zcP hs.2.1.1;refine ⟨NN,?_⟩;have hNN:∀{n:Nat},n<=big->n<NN:=fun h=>zb7 h;generalize NN=N at hNN ⊢;unfold zpP;refine (zbI a0.Guests (fun i (t:(List Int))=>(a1,(i:Int),a0.Pending,t,a0.Memory,a0.Guests,a0.Outs,())) _ (fun i (x:Guest) (t:List Int) κ=>bif posts x.Ctl a1 then (cond (few (ln (ap t [(i:Int)]))) (κ (ap t [(i:Int)])) none) else κ t) (fun (t:(List Int))=>(some [(.one (.s .int t))])) (fun i hi t rec=>?_) (fun t rec=>?_) _ ([]) (hNN hl.1)).trans ?_
 ·simp only [zbr hi,zbn hi,zbx hi,zbt hi hl.1,cT]
 ·simp only [zbe,cF]
 exact zvL (fun (x:Guest)=>posts x.Ctl a1) _ a0.Guests 0 [] (by simpa using hl.2)
theorem zzB:Holds Tryz.prog 106 zlR:=zn ziV zA zq zu (zC (by kernel_rfl)) fun avs rs hb h=>by
 unfold zlR at h;split at h
 ·obtain ⟨hc,rfl⟩:=zi h;exact (fin2 zEw zHE hc hb :)
 ·cases h
@[simp,reducible] def zqf (b:Bare)(n:Int):Bool:=pc (SmB b)
@[simp,reducible] def zeQ (b:Bare)(n:Int):List Int:=zcH b.Guests n
def zlu:List AV->Option (Bool×List AV)
 | [.agg [.s (.sl .int) b,.s .guest c,.s .int d,.i .i64 e],.one (.i .i64 f)]=>some ((zqf (⟨b,c,d,e⟩:Bare) f),[.one (.s .int (zeQ (⟨b,c,d,e⟩:Bare) f))])
 | _=>none
def zpq (N:Nat)(a0:Bare)(a1:Int):Option Ans :=
 (iter (σ:=(Int×(Int×(Int×((List Int)×((List Guest)×Unit)))))) N (fun r3 s4=>(cond (ilt s4.2.2.1 s4.2.1) (cond (inb s4.2.2.1 (ln s4.2.2.2.2.1)) (cond (zxc (ix s4.2.2.2.2.1 s4.2.2.1 zo).Ctl s4.1) (cond (zuj (ix s4.2.2.2.2.1 s4.2.2.1 zo).Ctl s4.1) (cond (few (ln (ap s4.2.2.2.1 [s4.2.2.1]))) (r3 (s4.1,(s4.2.1,((zy .i64 s4.2.2.1 1),((ap s4.2.2.2.1 [s4.2.2.1]),(s4.2.2.2.2.1,())))))) none) (r3 (s4.1,(s4.2.1,((zy .i64 s4.2.2.1 1),(s4.2.2.2.1,(s4.2.2.2.2.1,()))))))) none) none) (some [(.one (.s .int s4.2.2.2.1))]))) (a1,((ln a0.Guests),(0,([],(a0.Guests,()))))))
def zFa:FuncId->Nat->Option Tmpl:=zB [(190,0,{ n:=27,tm:=[(1,.i .i64),(5,.sl 0 []),(10,.sl 1 []),(11,.i .i64),(12,.i .i64)],lo:=[],ro:=[(0,.int,true),(1,.guest,false)] })]
theorem zHe (N:Nat)(a0:Bare)(a1:Int):evalFn (cQ zrL zL zF zG) zFa N 12 190 [.agg (Ty.cells .bare a0),.one (.i .i64 a1)]=zpq N a0 a1:=by kernel_rfl
theorem zD6 (a0:Bare)(a1:Int)(hb:zD big [.agg (Ty.cells .bare a0),.one (.i .i64 a1)])(hc:(zqf a0 a1)=true):∃N,zpq N a0 a1=some [.one (.s .int (zeQ a0 a1))]:=by
 have hs:=zI.1 hc;have hl:=zcP hs.2.1.1;refine ⟨NN,?_⟩;have hNN:∀{n:Nat},n<=big->n<NN:=fun h=>zb7 h;generalize NN=N at hNN ⊢;unfold zpq;refine (zbI a0.Guests (fun i (t:(List Int))=>(a1,(ln a0.Guests),(i:Int),t,a0.Guests,())) _ (fun i (x:Guest) (t:List Int) κ=>bif posts x.Ctl a1 then (cond (few (ln (ap t [(i:Int)]))) (κ (ap t [(i:Int)])) none) else κ t) (fun (t:(List Int))=>(some [(.one (.s .int t))])) (fun i hi t rec=>?_) (fun t rec=>?_) _ ([]) (hNN hl.1)).trans ?_
 ·simp only [zbr hi,zbn hi,zbx hi,zbt hi hl.1,cT]
 ·simp only [zbe,cF]
 exact zvL (fun (x:Guest)=>posts x.Ctl a1) _ a0.Guests 0 [] (by simpa using hl.2)
theorem zza:Holds Tryz.prog 190 zlu:=zn ziV zA zq zu (zC (by kernel_rfl)) fun avs rs hb h=>by
 unfold zlu at h;split at h
 ·obtain ⟨hc,rfl⟩:=zi h;exact (fin2 zD6 zHe hc hb :)
 ·cases h
def zH4:zbu:=[(106,zlR),(190,zlu)]++zrL
theorem zyX:zbE zH4:=zl zzB (zl zza ziV)
def zvU (n:Int)(l:List Guest)(k:Int):List Guest:=up l k (zhS (ix l k zo) n)
def zjy (n:Int)(ks:List Int)(l:List Guest):List Guest:=ks.foldl (zvU n) l
theorem zr4 (n:Int)(l:List Guest)(k:Int):(zvU n l k).length=l.length:=zrB _ _ _
theorem zOq {n:Int}{l:List Guest}{k:Int}(hk:hasB k (ln l)=true)(h:zpU l):zpU (zvU n l k):=zE5 h (zCE h hk _)
theorem zxz {n:Int}:∀(ks:List Int) {l:List Guest},(∀k∈ks,hasB k (ln l)=true)->zpU l->zpU (zjy n ks l)/\(zjy n ks l).length=l.length
 | [],_,_,h=>⟨h,rfl⟩
 | k :: ks,l,hk,h=>by
  have h1:=zOq (n:=n) (hk k (by simp)) h
  obtain ⟨g1,g2⟩:=zxz (n:=n) ks (l:=zvU n l k) (fun j hj=>by rw [ln,zr4];exact hk j (by simp [hj])) h1
  exact ⟨g1,g2.trans (zr4 _ _ _)⟩
theorem zy1 {ρ:Type}(n:Int)(K:List Guest->Option ρ):∀(ks:List Int) (i:Nat) (l:List Guest),(∀k∈ks,hasB k (ln l)=true) ->
 goL (fun _ k (t:List Guest) κ=>bif inb k (ln t) then (cond (inb k (ln t)) (κ (up t k (zhS (ix t k zo) n))) none) else none) K ks i l=K (zjy n ks l)
 | [],_,_,_=>rfl
 | k :: ks,i,l,h=>by
  have hk:inb k (ln l)=true:=h k (by simp)
  simp only [goL,hk,cT];exact zy1 n K ks (i+1) (zvU n l k) (fun j hj=>by rw [ln,zr4];exact h j (by simp [hj]))
def zCq (b:Bare)(n:Int):Bare:=bif ieq (ln (zcH b.Guests n)) 0 then { b with Pending:=zmv b.Pending n } else { b with Guests:=zjy n (zcH b.Guests n) b.Guests }
def zjz (b:Bare)(n:Int):Bool:=bif zbO b then hasB n 8 else false
def zoQ (b:Bare)(n:Int):Bare:=bif zjz b n then zCq b n else b
theorem zoR {b:Bare}{n:Int}:∀k∈zcH b.Guests n,hasB k (ln b.Guests)=true:=fun k hk=>by
 have:=zIM _ _ _ k hk;exact decide_eq_true (by simp only [ln];omega)
theorem zOj {b:Bare}{n:Int}(h:ieq (ln (zcH b.Guests n)) 0=true):zjy n (zcH b.Guests n) b.Guests=b.Guests:=by
 have h1:((zcH b.Guests n).length:Int)=0:=of_decide_eq_true h;have:zcH b.Guests n=[]:=List.length_eq_zero_iff.1 (by omega)
 rw [this];rfl
theorem zCr {b:Bare}{n:Int}:(cond (ieq (ln (zcH b.Guests n)) 0) (some [AV.agg (Ty.cells .bare ⟨b.Memory,zjy n (zcH b.Guests n) b.Guests,b.Outs,zmv b.Pending n⟩),AV.one (.b true)]) (some [AV.agg (Ty.cells .bare ⟨b.Memory,zjy n (zcH b.Guests n) b.Guests,b.Outs,b.Pending⟩),AV.one (.b true)]))=some [AV.agg (Ty.cells .bare (zCq b n)),AV.one (.b true)]:=by
 unfold zCq;cases h:ieq (ln (zcH b.Guests n)) 0
 ·rfl
 ·simp only [cT,zOj h]
@[simp,reducible] def zrn (b:Bare)(n:Int):Bool:=pc (SmB b)
@[simp,reducible] def zkG (b:Bare)(n:Int):Bare:=zoQ b n
@[simp,reducible] def zkH (b:Bare)(n:Int):Bool:=zjz b n
def zlN:List AV->Option (Bool×List AV)
 | [.agg [.s (.sl .int) c,.s .guest d,.s .int e,.i .i64 f],.one (.i .i64 g)]=>some ((zrn (⟨c,d,e,f⟩:Bare) g),[.agg (Ty.cells .bare (zkG (⟨c,d,e,f⟩:Bare) g)),.one (.b (zkH (⟨c,d,e,f⟩:Bare) g))])
 | _=>none
def zpK (N:Nat)(a0:Bare)(a1:Int):Option Ans :=
 (cond (zcb a0) (cond (zfW (zf a0)) (cond (cond (zcO (zf a0)) false true) (some [(.agg (Ty.cells .bare (zf a0))),(.one (.b false))]) (cond (zN a1 0 7) (cond (cond (zT a1 0 7) false true) (some [(.agg (Ty.cells .bare (zf a0))),(.one (.b false))]) (cond (zrv (zf a0) a1) (iter (σ:=(Int×(Int×(Int×(Int×((List Int)×((List (List Int))×((List Guest)×((List Int)×((List (List Int))×((List Guest)×((List Int)×Unit)))))))))))) N (fun r3 s4=>(cond (ilt s4.2.1 (ln s4.2.2.2.2.1)) (cond (inb s4.2.1 (ln s4.2.2.2.2.1)) (cond (inb s4.2.1 (ln s4.2.2.2.2.1)) (cond (inb (ix s4.2.2.2.2.1 s4.2.1 0) (ln s4.2.2.2.2.2.2.1)) (cond (zgu (ix s4.2.2.2.2.2.2.1 (ix s4.2.2.2.2.1 s4.2.1 0) zo).Pending s4.1) (cond (inb (ix s4.2.2.2.2.1 s4.2.1 0) (ln s4.2.2.2.2.2.2.1)) (r3 (s4.1,((zy .i64 s4.2.1 1),(s4.2.2.1,(s4.2.2.2.1,(s4.2.2.2.2.1,(s4.2.2.2.2.2.1,((up s4.2.2.2.2.2.2.1 (ix s4.2.2.2.2.1 s4.2.1 0) ({ (ix s4.2.2.2.2.2.2.1 (ix s4.2.2.2.2.1 s4.2.1 0) zo) with Pending:=(zek (ix s4.2.2.2.2.2.2.1 (ix s4.2.2.2.2.1 s4.2.1 0) zo).Pending s4.1) }:Guest)),(s4.2.2.2.2.2.2.2.1,(s4.2.2.2.2.2.2.2.2.1,(s4.2.2.2.2.2.2.2.2.2.1,(s4.2.2.2.2.2.2.2.2.2.2.1,())))))))))))) none) none) none) none) none) (cond (ieq (ln s4.2.2.2.2.1) 0) (cond (zgu s4.2.2.1 s4.1) (some [(.agg (Ty.cells .bare (⟨s4.2.2.2.2.2.1,s4.2.2.2.2.2.2.1,s4.2.2.2.2.2.2.2.1,(zek s4.2.2.1 s4.1)⟩:Bare))),(.one (.b true))]) none) (some [(.agg (Ty.cells .bare (⟨s4.2.2.2.2.2.1,s4.2.2.2.2.2.2.1,s4.2.2.2.2.2.2.2.1,s4.2.2.1⟩:Bare))),(.one (.b true))])))) (a1,(0,((zf a0).Pending,(0,((zhK (zf a0) a1),((zf a0).Memory,((zf a0).Guests,((zf a0).Outs,([],([],([],())))))))))))) none)) none)) none) none)
def zFi:FuncId->Nat->Option Tmpl:=zB [(55,0,{ n:=62,tm:=[(1,.i .i64),(2,.lp 0 0),(4,.lp 1 0),(6,.sl 0 []),(7,.i .i64)],lo:=[(0,[.sl 1 [],.sl 2 [],.sl 3 [],.i .i64]),(1,[.sl 4 [],.sl 5 [],.sl 6 [],.i .i64])],ro:=[(0,.int,true),(1,(.sl .int),true),(2,.guest,true),(3,.int,true),(4,(.sl .int),true),(5,.guest,true),(6,.int,true)] })]
theorem zHz (N:Nat)(a0:Bare)(a1:Int):evalFn (cQ zH4 zL zF zG) zFi N 12 55 [.agg (Ty.cells .bare a0),.one (.i .i64 a1)]=zpK N a0 a1:=by kernel_rfl
theorem zEr (a0:Bare)(a1:Int)(hb:zD big [.agg (Ty.cells .bare a0),.one (.i .i64 a1)])(hc:(zrn a0 a1)=true):∃N,zpK N a0 a1=some [.agg (Ty.cells .bare (zkG a0 a1)),.one (.b (zkH a0 a1))]:=by
 have hs:=zI.1 hc;have hk:(zcH a0.Guests a1).length<=big:=Nat.le_trans (zzI _ _ _) (zcP hs.2.1.1).1;refine ⟨NN,?_⟩;have hNN:∀{n:Nat},n<=big->n<NN:=fun h=>zb7 h;generalize NN=N at hNN ⊢;unfold zpK zkG zkH zoQ zjz;refine must (zbb hs) (must rfl (brN (fun h1=>?_) (fun h1=>must rfl (brN (fun h2=>?_) (fun h2=>must (zbb hs) ?_)))))
 ·simp only [show zbO a0=false from h1,cF]
 ·simp only [show zbO a0=true from h1,show hasB a1 8=false from by first|exact h2|exact (zCS a1).symm.trans h2,cT,cF]
 simp only [show zbO a0=true from h1,show hasB a1 8=true from by first|exact h2|exact (zCS a1).symm.trans h2,cT]
 refine (zbI (zhK (zf a0) a1) (fun i (t:(List Guest))=>(a1,(i:Int),(zf a0).Pending,0,(zhK (zf a0) a1),(zf a0).Memory,t,(zf a0).Outs,[],[],[],())) _ (fun _ k (t:List Guest) κ=>bif inb k (ln t) then (cond (inb k (ln t)) (κ (up t k (zhS (ix t k zo) a1))) none) else none) (fun (t:(List Guest))=>(cond (ieq (ln (zhK (zf a0) a1)) 0) (cond (zgu (zf a0).Pending a1) (some [(.agg (Ty.cells .bare (⟨(zf a0).Memory,t,(zf a0).Outs,(zek (zf a0).Pending a1)⟩:Bare))),(.one (.b true))]) none) (some [(.agg (Ty.cells .bare (⟨(zf a0).Memory,t,(zf a0).Outs,(zf a0).Pending⟩:Bare))),(.one (.b true))]))) (fun i hi t rec=>?_) (fun t rec=>?_) _ ((zf a0).Guests) (hNN hk)).trans ?_
 ·simp only [zbr hi,zbn hi,zbx hi,zbt hi hk,cT];rfl
 ·simp only [zbe,cF];rfl
 exact (zy1 a1 _ _ 0 _ zoR).trans zCr
theorem zzw:Holds Tryz.prog 55 zlN:=zn zyX zA zq zu (zC (by kernel_rfl)) fun avs rs hb h=>by
 unfold zlN at h;split at h
 ·obtain ⟨hc,rfl⟩:=zi h;exact (fin2 zEr zHz hc hb :)
 ·cases h
@[simp,reducible] def zqa (b:Bare)(n:Int):Bool:=pc (SmB b)
@[simp,reducible] def zjR (b:Bare)(n:Int):Bare:=zoQ b n
@[simp,reducible] def zjS (b:Bare)(n:Int):Bool:=zjz b n
def zlr:List AV->Option (Bool×List AV)
 | [.agg [.s (.sl .int) c,.s .guest d,.s .int e,.i .i64 f],.one (.i .i64 g)]=>some ((zqa (⟨c,d,e,f⟩:Bare) g),[.agg (Ty.cells .bare (zjR (⟨c,d,e,f⟩:Bare) g)),.one (.b (zjS (⟨c,d,e,f⟩:Bare) g))])
 | _=>none
def zpl (N:Nat)(a0:Bare)(a1:Int):Option Ans :=
 (cond (zS a0) (cond (zcp a0) (cond (cond (zbW a0) false true) (some [(.agg (Ty.cells .bare (zH a0))),(.one (.b false))]) (cond (zQ a1 0 7) (cond (cond (zX a1 0 7) false true) (some [(.agg (Ty.cells .bare (zH a0))),(.one (.b false))]) (cond (zqf a0 a1) (iter (σ:=(Int×(Int×(Int×(Int×(Int×((List Int)×((List (List Int))×((List Guest)×((List Int)×((List (List Int))×((List Guest)×((List Int)×Unit))))))))))))) N (fun r3 s4=>(cond (ilt s4.2.2.1 s4.2.1) (cond (inb s4.2.2.1 (ln s4.2.2.2.2.2.1)) (cond (inb (ix s4.2.2.2.2.2.1 s4.2.2.1 0) (ln s4.2.2.2.2.2.2.2.2.2.2.1)) (cond (zgp (ix s4.2.2.2.2.2.2.2.2.2.2.1 (ix s4.2.2.2.2.2.1 s4.2.2.1 0) zo).Pending s4.1) (cond (inb (ix s4.2.2.2.2.2.1 s4.2.2.1 0) (ln s4.2.2.2.2.2.2.2.2.2.2.1)) (r3 (s4.1,(s4.2.1,((zy .i64 s4.2.2.1 1),(s4.2.2.2.1,(s4.2.2.2.2.1,(s4.2.2.2.2.2.1,(s4.2.2.2.2.2.2.1,(s4.2.2.2.2.2.2.2.1,(s4.2.2.2.2.2.2.2.2.1,(s4.2.2.2.2.2.2.2.2.2.1,((up s4.2.2.2.2.2.2.2.2.2.2.1 (ix s4.2.2.2.2.2.1 s4.2.2.1 0) ({ (ix s4.2.2.2.2.2.2.2.2.2.2.1 (ix s4.2.2.2.2.2.1 s4.2.2.1 0) zo) with Pending:=(zdF (ix s4.2.2.2.2.2.2.2.2.2.2.1 (ix s4.2.2.2.2.2.1 s4.2.2.1 0) zo).Pending s4.1) }:Guest)),(s4.2.2.2.2.2.2.2.2.2.2.2.1,()))))))))))))) none) none) none) none) (cond (ieq (ln s4.2.2.2.2.2.1) 0) (cond (zgp s4.2.2.2.2.1 s4.1) (some [(.agg (Ty.cells .bare (⟨s4.2.2.2.2.2.2.2.2.2.1,s4.2.2.2.2.2.2.2.2.2.2.1,s4.2.2.2.2.2.2.2.2.2.2.2.1,(zdF s4.2.2.2.2.1 s4.1)⟩:Bare))),(.one (.b true))]) none) (some [(.agg (Ty.cells .bare (⟨s4.2.2.2.2.2.2.2.2.2.1,s4.2.2.2.2.2.2.2.2.2.2.1,s4.2.2.2.2.2.2.2.2.2.2.2.1,s4.2.2.2.2.1⟩:Bare))),(.one (.b true))])))) (a1,((ln (zeQ a0 a1)),(0,(0,((zH a0).Pending,((zeQ a0 a1),([],([],([],((zH a0).Memory,((zH a0).Guests,((zH a0).Outs,()))))))))))))) none)) none)) none) none)
def zE9:FuncId->Nat->Option Tmpl:=zB [(123,0,{ n:=59,tm:=[(1,.i .i64),(4,.lp 0 0),(6,.lp 1 0),(7,.sl 0 []),(24,.sl 0 []),(25,.i .i64),(26,.i .i64)],lo:=[(0,[.sl 1 [],.sl 2 [],.sl 3 [],.i .i64]),(1,[.sl 4 [],.sl 5 [],.sl 6 [],.i .i64])],ro:=[(0,.int,true),(1,(.sl .int),true),(2,.guest,true),(3,.int,true),(4,(.sl .int),true),(5,.guest,true),(6,.int,true)] })]
theorem zG9 (N:Nat)(a0:Bare)(a1:Int):evalFn (cQ zH4 zL zF zG) zE9 N 12 123 [.agg (Ty.cells .bare a0),.one (.i .i64 a1)]=zpl N a0 a1:=by kernel_rfl
theorem zD1 (a0:Bare)(a1:Int)(hb:zD big [.agg (Ty.cells .bare a0),.one (.i .i64 a1)])(hc:(zqa a0 a1)=true):∃N,zpl N a0 a1=some [.agg (Ty.cells .bare (zjR a0 a1)),.one (.b (zjS a0 a1))]:=by
 have hs:=zI.1 hc;have hk:(zcH a0.Guests a1).length<=big:=Nat.le_trans (zzI _ _ _) (zcP hs.2.1.1).1;refine ⟨NN,?_⟩;have hNN:∀{n:Nat},n<=big->n<NN:=fun h=>zb7 h;generalize NN=N at hNN ⊢;unfold zpl zjR zjS zoQ zjz;refine must (zbb hs) (must rfl (brN (fun h1=>?_) (fun h1=>must rfl (brN (fun h2=>?_) (fun h2=>must (zbb hs) ?_)))))
 ·simp only [show zbO a0=false from h1,cF]
 ·simp only [show zbO a0=true from h1,show hasB a1 8=false from by first|exact h2|exact (zCS a1).symm.trans h2,cT,cF]
 simp only [show zbO a0=true from h1,show hasB a1 8=true from by first|exact h2|exact (zCS a1).symm.trans h2,cT]
 refine (zbI (zeQ a0 a1) (fun i (t:(List Guest))=>(a1,(ln (zeQ a0 a1)),(i:Int),0,(zH a0).Pending,(zeQ a0 a1),[],[],[],(zH a0).Memory,t,(zH a0).Outs,())) _ (fun _ k (t:List Guest) κ=>bif inb k (ln t) then (cond (inb k (ln t)) (κ (up t k (zhS (ix t k zo) a1))) none) else none) (fun (t:(List Guest))=>(cond (ieq (ln (zeQ a0 a1)) 0) (cond (zgp (zH a0).Pending a1) (some [(.agg (Ty.cells .bare (⟨(zH a0).Memory,t,(zH a0).Outs,(zdF (zH a0).Pending a1)⟩:Bare))),(.one (.b true))]) none) (some [(.agg (Ty.cells .bare (⟨(zH a0).Memory,t,(zH a0).Outs,(zH a0).Pending⟩:Bare))),(.one (.b true))]))) (fun i hi t rec=>?_) (fun t rec=>?_) _ ((zH a0).Guests) (hNN hk)).trans ?_
 ·simp only [zbr hi,zbn hi,zbx hi,zbt hi hk,cT];rfl
 ·simp only [zbe,cF];rfl
 exact (zy1 a1 _ _ 0 _ zoR).trans zCr
theorem zy7:Holds Tryz.prog 123 zlr:=zn zyX zA zq zu (zC (by kernel_rfl)) fun avs rs hb h=>by
 unfold zlr at h;split at h
 ·obtain ⟨hc,rfl⟩:=zi h;exact (fin2 zD1 zG9 hc hb :)
 ·cases h
end
end Go.Proofs.YtldknngdnednbaaGreat.E
namespace Go.Proofs
open Go Go.Shelf
def Tryz.laysMul_ren : Go.Shelf.Ren := ⟨fun | 212 => 202 | 263 => 217 | 264 => 218 | n => n, fun | 46 => 153 | 51 => 173 | 146 => 174 | 53 => 176 | 148 => 177 | n => n, fun | n => n⟩
theorem Tryz.laysMul : Go.Proofs.Lays.n212 Tryz.prog Tryz.laysMul_ren := {
  mixed := by kernel_rfl
  f212 := Tryz.func202.trans (congrArg some (by kernel_rfl))
  f263 := Tryz.func217.trans (congrArg some (by kernel_rfl))
  f264 := Tryz.func218.trans (congrArg some (by kernel_rfl))
  t46 := Tryz.underlying153
  a46 := Tryz.isAgg153
  z46 := Tryz.sizeOf153
  v46 := Tryz.zeroValue153
  t51 := Tryz.underlying173
  a51 := Tryz.isAgg173
  z51 := Tryz.sizeOf173
  v51 := Tryz.zeroValue173
  t53 := Tryz.underlying176
  a53 := Tryz.isAgg176
  z53 := Tryz.sizeOf176
  v53 := Tryz.zeroValue176
  t146 := Tryz.underlying174
  a146 := Tryz.isAgg174
  z146 := Tryz.sizeOf174
  v146 := Tryz.zeroValue174
  t148 := Tryz.underlying177
  a148 := Tryz.isAgg177
  z148 := Tryz.sizeOf177
  v148 := Tryz.zeroValue177 }
end Go.Proofs
namespace Go.Proofs.YtldknngdnednbaaGreat.E
open Go
set_option linter.unusedVariables false
set_option maxRecDepth 100000
set_option linter.unusedSimpArgs false
set_option linter.unusedSectionVars false
noncomputable section
section
open Go Go.RowKit Go.Proofs
theorem zO8 (x y:Nat)(hx:x<18446744073709551616)(hy:y<18446744073709551616)(w:World) :
 Calls Tryz.prog 202 #[.int .u64 x,.int .u64 y] w fun e w'=>e = .returned (.tuple #[.int .u64 ((x*y / 18446744073709551616:Nat):Int),.int .u64 ((x*y % 18446744073709551616:Nat):Int)])/\w'=w :=
 Any.bits_Mul Tryz.laysMul x y hx hy w
theorem zB9 (y:Nat)(hy:y<1000)(w:World):Calls Tryz.prog 202 #[.int .u64 1,.int .u64 y] w fun e w'=>e = .returned (.tuple #[.int .u64 0,.int .u64 y])/\w'=w:=by
 have h:=zO8 1 y (by omega) (by omega) w
 rw [show 1*y / 18446744073709551616=0 by omega,show 1*y % 18446744073709551616=y by omega] at h
 exact h
theorem src_of {w:World}{g:Nat}{cur cs:List Value}{t:TypeId}(hg:w.heap[g]?=some (.cells cur.toArray t (0,0)))(h:∀(j:Nat) v,cs[j]?=some v->cur[j]?=some v)(j:Nat)(v:Value)(hv:cs[j]?=some v):w.cell? ((⟨g,0,none⟩:Addr).add j)=some v:=by
 have ha:(⟨g,0,none⟩:Addr).add j=⟨g,j,none⟩:=by unfold Addr.add;split<;>simp_all
 rw [ha];simp [World.cell?,hg,h j v hv]
theorem zNj {B:Nat}{w0 w:World}(h:Below B w0 w):Below B w0 w.drew:=h.trans ⟨rfl,rfl,rfl,Nat.le_refl _,fun _ _=>rfl⟩
theorem alloc_at (w:World)(o:Obj):(w.alloc o).heap[w.heap.size]?=some o:=by unfold World.alloc;exact Array.getElem?_push_size
section
variable {P:Program}
theorem zwd (w:World)(dT sT ty elem:TypeId)(g o dLen dCap:Nat)(a:Addr)(sLen sCap:Nat)(cur:Array Value)(t:TypeId)(cs:List Value)(i:TypeInfo)(hu:P.underlying dT=some (.slice elem))(hs:P.info? elem=some i)(hg:w.heap[g]?=some (.cells cur t (0,0)))(hn:cs.length=Nat.min sLen dLen*i.size)(hsrc:∀j v,cs[j]?=some v->w.cell? (a.add j)=some v)(hfit:o+cs.length<=cur.size)(h1:∀v∈cs,v.oneCell'=true) :
 (Builtin.copy_ #[dT,sT] ty #[.slice (some ⟨g,o,none⟩) dLen dCap,.slice (some a) sLen sCap]).run P w =
  .ok (goInt (Nat.min sLen dLen)) (w.setRow g (cur.toList.take o++cs++cur.toList.drop (o+cs.length)).toArray):=by
 have hl:=run_loadCells_list (P:=P) w a cs hsrc;have hst:=run_storeCells_at P g o t cs 0 cur w hg (by simpa using hfit) h1
 simp [Builtin.copy_,run_underlying hu,Builtin.lenOf,Builtin.firstCells,sizeOf,typeInfo,hs,<- hn,hl,hst]
theorem zK6 {w:World}{ops:Array Oper}{rest:List Oper}{o:Oper}{a:Act}{Q:Exit->Act->World->Prop}(hgd:o.guard=none)(d s:Operand)(dT sT:TypeId)(ho:o.op = .call { callee:=.builtin .copy,args:=#[d,s],argTypes:=#[dT,sT] })(elem:TypeId)(hu:P.underlying dT=some (.slice elem))(i:TypeInfo)(hsz:P.info? elem=some i)(g off dLen dCap:Nat)(ad:Addr)(sLen sCap:Nat)(hd:a.eval d = .slice (some ⟨g,off,none⟩) dLen dCap)(hs:a.eval s = .slice (some ad) sLen sCap)(cur:List Value)(t:TypeId)(hg:w.heap[g]?=some (.cells cur.toArray t (0,0)))(cs:List Value)(n:Nat)(hmin:Nat.min sLen dLen=n)(hn:cs.length=n*i.size)(hsrc:∀j v,cs[j]?=some v->w.cell? (ad.add j)=some v)(hfit:off+cs.length<=cur.length)(h1:∀v∈cs,v.oneCell'=true)(B:Nat)(w0:World)(hb:Below B w0 w)(hBg:B<=g)(h:∀w',Hid (w'.heap[g]?=some (.cells (splice cur off cs).toArray t (0,0)))->Below B w0 w'->w'.heap.size=w.heap.size->wpList P ops Q rest (a.put o.dst (goInt n)) w') :
 wpList P ops Q (o :: rest) a w:=by
 refine wpList_plain hgd fun K hK=>?_;subst hmin;have hrun:=zwd (P:=P) w dT sT o.type elem g off dLen dCap ad sLen sCap cur.toArray t cs i hu hsz hg hn hsrc (by simpa using hfit) h1
 unfold Oper.wp;simp [execOp,ho,resolve,invoke,builtin,hd,hs,hrun,Result.andThen];exact hK _ _ (by simpa using h _ (show _=_ by simpa [splice] using setRow_heap w g _ _ t _ hg) (below_setRow hb hBg _) (by simp [World.setRow]))
theorem zOu {ops:Array Oper}{o:Oper}{a:Act}{w:World}{K:Act->World->Prop}{Q:Exit->Act->World->Prop}{E:Prop}(hgd:o.guard=none)(d s:Operand)(dT sT:TypeId)(ho:o.op = .call { callee:=.builtin .copy,args:=#[d,s],argTypes:=#[dT,sT] })(elem:TypeId)(hu:P.underlying dT=some (.slice elem))(i:TypeInfo)(hsz:P.info? elem=some i)(g off dLen dCap:Nat)(ad:Addr)(sLen sCap:Nat)(hd:a.eval d = .slice (some ⟨g,off,none⟩) dLen dCap)(hs:a.eval s = .slice (some ad) sLen sCap)(cur:List Value)(t:TypeId)(hg:w.heap[g]?=some (.cells cur.toArray t (0,0)))(cs:List Value)(n:Nat)(hmin:Nat.min sLen dLen=n)(hn:cs.length=n*i.size)(hsrc:∀j v,cs[j]?=some v->w.cell? (ad.add j)=some v)(hfit:off+cs.length<=cur.length)(h1:∀v∈cs,v.oneCell'=true)(B:Nat)(w0:World)(hb:Below B w0 w)(hBg:B<=g)(h:∀w',Hid (w'.heap[g]?=some (.cells (splice cur off cs).toArray t (0,0)))->Below B w0 w'->w'.heap.size=w.heap.size->K (a.put o.dst (goInt n)) w') :
 if Region.wanted o (yielded ops a.tmps)=true then Oper.wp P o a w K Q else E:=by
 have hw:Region.wanted o (yielded ops a.tmps)=true:=by simp [Region.wanted,hgd]
 rw [if_pos hw];subst hmin;have hrun:=zwd (P:=P) w dT sT o.type elem g off dLen dCap ad sLen sCap cur.toArray t cs i hu hsz hg hn hsrc (by simpa using hfit) h1
 unfold Oper.wp;simp [execOp,ho,resolve,invoke,builtin,hd,hs,hrun,Result.andThen];exact h _ (show _=_ by simpa [splice] using setRow_heap w g _ _ t _ hg) (below_setRow hb hBg _) (by simp [World.setRow])
end
def zcD (a b:Value):Nat->List Value
 | 0=>[]
 | n+1=>a :: b :: zcD a b n
theorem zey (a b:Value):∀n,(zcD a b n).length=n*2
 | 0=>rfl
 | n+1=>by simp [zcD,zey a b n];omega
theorem zqu (a b:Value)(m:Nat):∀n,zcD a b (n+m)=zcD a b n++zcD a b m
 | 0=>by simp [zcD]
 | n+1=>by rw [show n+1+m=n+m+1 by omega];simp [zcD,zqu a b m n]
theorem zz6 {a b v:Value}:∀{n},v∈zcD a b n->v=a\/v=b
 | n+1,h=>by
  simp [zcD] at h;rcases h with h|h|h
  ·exact .inl h
  ·exact .inr h
  ·exact zz6 h
theorem zKA (a b:Value):∀{n j:Nat},j<n->(zcD a b n)[j*2]?=some a/\(zcD a b n)[j*2+1]?=some b
 | n+1,0,_=>⟨rfl,rfl⟩
 | n+1,j+1,h=>by
  have:=zKA a b (n:=n) (j:=j) (by omega)
  rw [show (j+1)*2=j*2+1+1 by omega]
  simpa [zcD] using this
def pat (a b c d:Value)(k m:Nat):List Value:=zcD a b k++zcD c d m
theorem zM7 (a b c d:Value)(k m:Nat):(pat a b c d k m).length=(k+m)*2:=by simp [pat,zey];omega
theorem zCo (a b c d:Value)(k m r:Nat)(hr:r<=m):splice (pat a b c d k m) (k*2) (zcD a b r)=pat a b c d (k+r) (m-r):=by
 unfold splice pat;have hm:m=r+(m-r):=by omega
 have e1:(zcD a b k++zcD c d m).take (k*2)=zcD a b k:=by
  rw [List.take_append_of_le_length (by simp [zey]),List.take_of_length_le (by simp [zey])]
 have e2:(zcD a b k++zcD c d m).drop (k*2+(zcD a b r).length)=zcD c d (m-r):=by
  rw [<- zey a b k,List.drop_append,List.drop_eq_nil_of_le (by simp [zey]),List.nil_append,Nat.add_sub_cancel_left]
  conv=>lhs;rw [hm,zqu]
  rw [List.drop_append,List.drop_eq_nil_of_le (by simp [zey])]
  simp [zey]
 rw [e1,e2,zqu,List.append_assoc]
theorem zMz {a b c d:Value}{m:Nat}(h:1<=m):splice (pat c d c d 0 m) 0 (zcD a b 1)=pat a b c d 1 (m-1):=by
 have:=zCo a b c d 0 m 1 h;simpa [pat,zcD] using this
theorem zR8 (a b c d:Value)(k m r:Nat)(hr:r<=k)(j:Nat)(v:Value)(h:(zcD a b r)[j]?=some v):(pat a b c d k m)[j]?=some v:=by
 have hj:j<(zcD a b r).length:=(List.getElem?_eq_some_iff.1 h).1;unfold pat;rw [show k=r+(k-r) by omega,zqu,List.append_assoc,List.getElem?_append_left hj,h]
theorem zQm (c d:Value)(n:Nat):(madeCells #[c,d] (n*2)).toList=zcD c d n:=by
 induction n with
 | zero=>simp [madeCells,zcD,Array.range_zero']
 | succ n ih =>
  rw [zqu c d 1 n,<- ih];unfold madeCells;rw [show (n+1)*2=n*2+1+1 by omega,Array.range_succ,Array.range_succ]
  simp [zcD]
theorem zFy:∃i:TypeInfo,Tryz.prog.info? 90=some i/\i.size=2/\i.bytes=16/\i.zero=some (.agg #[.int .i64 0,.int .i64 0]):=by
 have h:(Tryz.prog.info? 90).map (fun i=>(i.size,i.bytes))=some (2,16):=by kernel_rfl
 have h2:(Tryz.prog.info? 90).bind (fun i=>i.zero)=some (.agg #[.int .i64 0,.int .i64 0]):=by kernel_rfl
 cases hi:Tryz.prog.info? 90 with
 | none=>rw [hi] at h;cases h
 | some i =>
  rw [hi] at h h2;simp at h h2;exact ⟨i,rfl,h.1,h.2,h2⟩
theorem zNO (w:World)(l:Nat)(hl:l<=24):(Instr.makeSlice 74 (.int .i64 l) (.int .i64 l)).run Tryz.prog w = .ok (.slice (some ⟨w.heap.size,0,none⟩) l l) (w.alloc (.cells (pat (.int .i64 0) (.int .i64 0) (.int .i64 0) (.int .i64 0) 0 l).toArray 90)):=by
 obtain ⟨i,hi,hs,hb,hz⟩:=zFy;have:=run_make (P:=Tryz.prog) w 74 90 i _ Tryz.underlying74 hi hz .i64 .i64 l l (by omega) (by omega) (by rw [hb];omega) (by omega)
 rw [this,hs];simp only [Int.toNat_natCast];rw [show (Value.agg #[.int .i64 0,.int .i64 0]).cells = #[.int .i64 0,.int .i64 0] from by kernel_rfl]
 simp only [pat,zcD,List.nil_append,<- zQm,Array.toArray_toList]
theorem zMA (b off cap n:Nat)(v0 v1:Value)(w:World)(hn:1<=n)(hn2:n<=24)(h0:w.cell? ⟨b,off,none⟩=some v0)(h1:w.cell? ⟨b,off+1,none⟩=some v1)(hb:b<w.heap.size)(o0:v0.oneCell'=true)(o1:v1.oneCell'=true) :
 Calls Tryz.prog 150 #[.slice (some ⟨b,off,none⟩) 1 cap,.int .i64 n] w fun e w'=>∃g,e = .returned (.slice (some ⟨g,0,none⟩) n n)/\w.heap.size<=g/\w'.heap[g]?=some (.cells (zcD v0 v1 n).toArray 90 (0,0))/\Below w.heap.size w w':=by
 have hmk:=fun w=>zNO w n hn2;obtain ⟨inf,hinf,hsz,-,-⟩:=zFy;have hsrc:∀(x:Obj) (j:Nat) (v:Value),(zcD v0 v1 1)[j]?=some v->(w.alloc x).cell? ((⟨b,off,none⟩:Addr).add j)=some v:=by
  intro x j v hv;have hbel:Below w.heap.size w (w.alloc x):=(Below.refl _ _).alloc (Nat.le_refl _) _;have hj:j<2:=by simpa [zcD] using (List.getElem?_eq_some_iff.1 hv).1
  have ha:(⟨b,off,none⟩:Addr).add j=⟨b,off+j,none⟩:=by unfold Addr.add;split<;>simp_all
  rw [ha,hbel.cell (by exact hb)]
  match j,hj with
  | 0,_=>cases hv;exact h0
  | 1,_=>cases hv;exact h1
 go_enter Tryz.func150,Tryz.ntmps150
 go_wp2_with (go_at_fn 202;refine (zB9 n (by omega) _).mono ?_;rintro e w' ⟨rfl,hw⟩;rw [hw])
 ·refine (zB9 n (by omega) _).mono ?_
  rintro e w' ⟨rfl,hw⟩
  rw [hw]
  go_wp2_with (refine zK6 rfl (.tmp 31) (.tmp 32) 74 74 rfl 90 Tryz.underlying74 inf hinf w.heap.size 0 n n ⟨b,off,none⟩ 1 cap rfl rfl (pat (.int .i64 0) (.int .i64 0) (.int .i64 0) (.int .i64 0) 0 n) 90 (alloc_at _ _) (zcD v0 v1 1) 1 (by show min 1 n=1;omega) (by rw [hsz];rfl) (hsrc _) (by simp [zcD,zM7];omega) (by intro v hv;rcases zz6 hv with rfl|rfl<;>assumption) w.heap.size w ((Below.refl _ _).alloc (Nat.le_refl _) _) (Nat.le_refl _) ?_;intro w2 HG2 hB2 hs2)
  rw [zMz (by omega)] at HG2
  go_loopw [8] (fun i wr=>∃k:Nat,1<=k/\k<=n/\i = .int .i64 k/\wr.heap[w.heap.size]?=some (.cells (pat v0 v1 (.int .i64 0) (.int .i64 0) k (n-k)).toArray 90 (0,0))/\Below w.heap.size w wr) (fun i _=>n-(intOf i).toNat)
  case atStart=>exact ⟨1,Nat.le_refl _,hn,rfl,HG2.out,hB2⟩
  case round =>
   obtain ⟨k,hk1,hkn,rfl,HG,hB⟩:=hrel
   by_cases hlt:k<n
   ·obtain ⟨r,hr⟩:∃r,r=min k (n-k):=⟨_,rfl⟩;have hc1:(k:Int)<=(n:Int):=by omega
    have hnk:n≠k:=by omega
    have hwr:IntKind.i64.wrap ((k:Int)+(r:Int))=((k+r:Nat):Int):=by rw [IntKind.wrap_i64];omega
    go_wp2_with fail
    go_region_law (refine zOu rfl (.tmp 41) (.tmp 44) 74 74 rfl 90 Tryz.underlying74 inf hinf w.heap.size (k*2) (n-k) (n-k) ⟨w.heap.size,0,none⟩ k n (by simp [Act.eval,Act.put,hnk]) (by simp [Act.eval,Act.put]) (pat v0 v1 (.int .i64 0) (.int .i64 0) k (n-k)) 90 HG (zcD v0 v1 r) r hr.symm (by rw [hsz,zey]) (src_of HG (zR8 _ _ _ _ _ _ _ (by omega))) (by simp [zey,zM7];omega) (by intro v hv;rcases zz6 hv with rfl|rfl<;>assumption) w.heap.size w (zNj hB) (Nat.le_refl _) ?_;intro w2 HG2 hB2 hs2)
    go_simp
    go_roundw
    case rel =>
     refine ⟨_,_,_,_,_,_,_,_,_,_,_,_,_,_,⟨k+r,by omega,by omega,?_,?_,hB2⟩,rfl⟩
     ·rw [<- hr,hwr]
     ·rw [show n-(k+r)=n-k-r by omega,<- zCo _ _ _ _ _ _ _ (by omega)]
      exact HG2.out
    case measure =>
     show n-(intOf (.int .i64 (IntKind.i64.wrap ((k:Int)+((min k (n-k):Nat):Int))))).toNat<n-(intOf (.int .i64 k)).toNat
     rw [<- hr,hwr];simp only [intOf,Int.toNat_natCast];omega
   ·obtain rfl:k=n:=by omega
    go_wp2
    go_ret
    refine ⟨_,rfl,Nat.le_refl _,?_,hB⟩;rw [HG];simp [pat,zcD]
theorem zMy (w:World):Calls Tryz.prog 151 #[] w fun e w'=>e = .returned (.agg #[.int .i64 (-1),.int .i64 0])/\Below w.heap.size w w':=by
 go_enter Tryz.func151,Tryz.ntmps151
 go_wp2
 refine bodyPost_ret (results_cell_row (by rfl) _ _ w.heap.size 90 #[.int .i64 (-1),.int .i64 0] (0,0) _ rfl (alloc_at _ _) Tryz.underlying90 rfl (by kernel_rfl)) rfl ?_
 exact ⟨rfl,(Below.refl _ _).alloc (Nat.le_refl _) _⟩
theorem zIo (n:Nat)(w:World)(hn2:n<=24):Calls Tryz.prog 110 #[.int .i64 n,.int .i64 0,.int .i64 24] w fun e w'=>e = .returned (.int .i64 n)/\Below w.heap.size w w':=by
 go_enter Tryz.func110,Tryz.ntmps110
 go_wp2
 all_goals first
  | omega
  | (go_ret;exact ⟨by first|rfl|(congr 3;omega),Below.refl _ _⟩)
theorem zwb (w:World)(c:Array Value)(t:TypeId){i:Nat}{v:Value}(h:c[i]?=some v):(w.alloc (.cells c t)).cell? ⟨w.heap.size,i,none⟩=some v:=by
 rw [World.cell?_alloc_at (w:=w) c t _ _ rfl,h]
theorem zOv (n:Nat)(w:World)(hn:1<=n)(hn2:n<=24) :
 Calls Tryz.prog 112 #[.int .i64 n] w fun e w'=>∃g,e = .returned (.slice (some ⟨g,0,none⟩) n n)/\w.heap.size<=g/\w'.heap[g]?=some (.cells (zcD (.int .i64 (-1)) (.int .i64 0) n).toArray 90 (0,0))/\Below w.heap.size w w':=by
 go_enter Tryz.func112,Tryz.ntmps112
 go_wp2_with fail
 refine (zMy _).mono ?_
 rintro e w1 ⟨rfl,hB1⟩
 go_wp2_with fail
 refine (zIo n _ hn2).mono ?_
 rintro e w2 ⟨rfl,hB2⟩
 go_wp2_with fail
 have hs1:(w1.alloc (.cells #[.int .i64 (-1),.int .i64 0] 90)).heap.size=w1.heap.size+1:=by simp
 have z1:=hB1.size;have z2:=hB2.size;rw [hs1] at z2;refine (zMA w1.heap.size 0 1 n (.int .i64 (-1)) (.int .i64 0) w2 hn hn2 (by rw [hB2.cell (by show w1.heap.size<_;rw [hs1];omega)];exact zwb _ _ _ rfl) (by rw [hB2.cell (by show w1.heap.size<_;rw [hs1];omega)];exact zwb _ _ _ rfl) (by omega) rfl rfl).mono ?_
 rintro e w3 ⟨g,rfl,hg,hrow,hB3⟩
 go_wp2
 go_ret
 exact ⟨g,rfl,by omega,hrow,((hB1.alloc z1 _).trans (hB2.mono (by omega))).trans (hB3.mono (by omega))⟩
@[simp,reducible] def zj2 (n:Int):Bool:=ile 1 n&&ile n 24
@[simp,reducible] def zj1 (n:Int):List Slot:=List.replicate n.toNat ⟨-1,0⟩
def zlw:List AV->Option (Bool×List AV)
 | [.one (.i .i64 n)]=>some (zj2 n,[.one (.s .slot (zj1 n))])
 | _=>none
theorem zzc:Holds Tryz.prog 112 zlw:=by
 refine ⟨zC (by kernel_rfl),?_⟩
 intro w avs xs rs hrep hrun;unfold zlw at hrun;split at hrun
 ·rename_i n;simp only [Option.some.injEq,Prod.mk.injEq,zj2,Bool.and_eq_true,ile,decide_eq_true_eq] at hrun;obtain ⟨⟨hc1,hc2⟩,rfl⟩:=hrun;have hl:xs.length=1:=hrep.1
  match xs,hl with
  | [x0],_ =>
   have hR:Rep false w x0 (.i .i64 n) (fun b=>b<w.heap.size):=hrep.2 0 _ x0 rfl rfl;obtain rfl:=hR.int_inv;obtain ⟨m,rfl⟩:∃m:Nat,n=(m:Int):=⟨n.toNat,by omega⟩
   refine (zOv m w (by omega) (by omega)).mono ?_
   rintro r w' ⟨g,rfl,hg,hrow,hB⟩
   have hgw:g<w'.heap.size:=(Array.getElem?_eq_some_iff.1 hrow).1;have hlen:(zj1 (m:Int)).length=m:=by simp
   refine ⟨⟨hB.os,hB.tape,hB.output,hB.size,fun b hb=>hB.block b hb⟩,[_],fun _ x=>x=g,⟨rfl,fun i c x hc hx=>?_⟩,rfl,⟨fun i x _ h=>⟨by omega,by omega⟩,fun i j x hi hj _ _=>?_⟩⟩
   ·cases i with
    | zero =>
     cases hc;cases hx;have:=Rep.sl (o:=true) (w:=w') .slot (zj1 (m:Int)) g 0 m _ _ (0,0) (fun _ j=>if j=0 then .int .i64 (-1) else .int .i64 0) (fun _ _ _=>False) (fun x=>x=g) hrow (fun _=>rfl)
      (by rw [hlen];unfold big;omega) (by rw [hlen];exact Nat.le_refl _) (by simp [zey,Ty.width]) rfl (fun i j x _ _ h=>h.elim) (fun _ i j i' j' x _ _ _ _ h=>h.elim)
      (fun i j hi hj=>by
       rw [hlen] at hi;have hj2:j<2:=hj;have h2:=zKA (.int .i64 (-1)) (.int .i64 0) hi
       match j,hj2 with
       | 0,_=>simpa [show Ty.width .slot=2 from rfl] using h2.1
       | 1,_=>simpa [show Ty.width .slot=2 from rfl] using h2.2)
      (fun i x hx j c hcj=>by
       have hx2:x=⟨-1,0⟩:=by
        have:=List.mem_of_getElem? hx;simpa using (List.mem_replicate.1 this).2
       subst hx2
       match j,hcj with
       | 0,hcj=>cases hcj;exact .i _ _ _
       | 1,hcj=>cases hcj;exact .i _ _ _)
     rw [hlen] at this;exact this
    | succ i=>simp [zM,AV.cvs] at hc
   ·simp [zM,AV.cvs] at hi hj;omega
 ·cases hrun
end
def zwR:zbu:=[(47,zn2),(115,znA),(48,zkA),(116,zkm),(49,zje),(117,zi9),(50,zjg),(118,zjb),(51,zjf),(119,zja),(52,znZ),(120,znx),(54,zlM),(122,zlq),(56,znX),(124,znv),(57,zn0),(125,zny),(58,zlO),(126,zhD),(55,zlN),(123,zlr),(112,zlw)]++zH4
theorem zrJ:zbE zwR:=zl zBp (zl zAX (zl zyi (zl zx2 (zl zw7 (zl zw0 (zl zw9 (zl zw2 (zl zw8 (zl zw1 (zl zBm (zl zAU (zl zzv (zl zy6 (zl zBk (zl zAS (zl zBn (zl zAV (zl zzx (zl zp5 (zl zzw (zl zy7 (zl zzc zyX))))))))))))))))))))))
theorem zPu {n:Int}(h:(ieq n 4||ieq n 8)=true):n=4\/n=8:=by
 rcases Bool.or_eq_true _ _ ▸ h with h|h
 ·exact .inl (of_decide_eq_true h)
 ·exact .inr (of_decide_eq_true h)
@[simp,reducible] def zkN (n:Int):Bool:=ieq n 4||ieq n 8
@[simp,reducible] def zo1 (n:Int):List Slot:=List.replicate n.toNat ⟨-1,0⟩
def zlT:List AV->Option (Bool×List AV)
 | [.one (.i .i64 b)]=>some ((zkN b),[.one (.s .slot (zo1 b))])
 | _=>none
def zwG (N:Nat)(a0:Int):Option Ans :=
 (cond (zmz a0 0 24) (iter (σ:=(Int×((List Slot)×Unit))) N (fun r2 s3=>(cond (igt s3.1 0) (cond zhJ (cond (few (ln (ap s3.2.1 [zfY]))) (r2 ((wsub .i64 s3.1 1),((ap s3.2.1 [zfY]),()))) none) none) (some [(.one (.s .slot s3.2.1))]))) ((zmV a0 0 24),([],()))) none)
def zFk:FuncId->Nat->Option Tmpl:=zB [(77,0,{ n:=17,tm:=[(3,.sl 0 []),(4,.i .i64)],lo:=[],ro:=[(0,.slot,true)] })]
theorem zHG (N:Nat)(a0:Int):evalFn (cQ zwR zL zF zG) zFk N 12 77 [.one (.i .i64 a0)]=zwG N a0:=by kernel_rfl
theorem zEy (a0:Int)(hb:zD big [.one (.i .i64 a0)])(hc:(zkN a0)=true):∃N,zwG N a0=some [.one (.s .slot (zo1 a0))]:=by
 refine ⟨30,?_⟩;have h:a0=4\/a0=8:=zPu hc;rcases h with rfl|rfl<;>(change _=_;kernel_rfl)
theorem zzD:Holds Tryz.prog 77 zlT:=zn zrJ zA zq zu (zC (by kernel_rfl)) fun avs rs hb h=>by
 unfold zlT at h;split at h
 ·obtain ⟨hc,rfl⟩:=zi h;exact (fin1 zEy zHG hc hb :)
 ·cases h
@[simp,reducible] def zv1 (n:Int):Bool:=ieq n 8
@[simp,reducible] def zru (n:Int):List (List Int):=List.replicate n.toNat [0,0,0,0]
def zq7:List AV->Option (Bool×List AV)
 | [.one (.i .i64 b)]=>some ((zv1 b),[.one (.s (.sl .int) (zru b))])
 | _=>none
def zAh (N:Nat)(a0:Int):Option Ans :=
 (cond (zmz a0 0 24) (iter (σ:=(Int×((List (List Int))×Unit))) N (fun r2 s3=>(cond (igt s3.1 0) (cond (cond (few 4) (ieq 4 4) false) (cond (few (ln (ap s3.2.1 [(rp 4 0)]))) (r2 ((wsub .i64 s3.1 1),((ap s3.2.1 [(rp 4 0)]),()))) none) none) (some [(.one (.s (.sl .int) s3.2.1))]))) ((zmV a0 0 24),([],()))) none)
def zKY:FuncId->Nat->Option Tmpl:=zB [(40,0,{ n:=17,tm:=[(3,.sl 0 []),(4,.i .i64)],lo:=[],ro:=[(0,(.sl .int),true)] })]
theorem zMl (N:Nat)(a0:Int):evalFn (cQ zwR zL zF zG) zKY N 12 40 [.one (.i .i64 a0)]=zAh N a0:=by kernel_rfl
theorem zJr (a0:Int)(hb:zD big [.one (.i .i64 a0)])(hc:(zv1 a0)=true):∃N,zAh N a0=some [.one (.s (.sl .int) (zru a0))]:=by
 refine ⟨30,?_⟩;have h:a0=8:=of_decide_eq_true hc;subst h
 change _=_
 kernel_rfl
theorem zDG:Holds Tryz.prog 40 zq7:=zn zrJ zA zq zu (zC (by kernel_rfl)) fun avs rs hb h=>by
 unfold zq7 at h;split at h
 ·obtain ⟨hc,rfl⟩:=zi h;exact (fin1 zJr zMl hc hb :)
 ·cases h
@[simp,reducible] def zvO (n:Int):Bool:=ieq n 8
@[simp,reducible] def zqe (n:Int):List (List Int):=List.replicate n.toNat [0,0,0,0]
def zqD:List AV->Option (Bool×List AV)
 | [.one (.i .i64 b)]=>some ((zvO b),[.one (.s (.sl .int) (zqe b))])
 | _=>none
def zAf (N:Nat)(a0:Int):Option Ans :=
 (iter (σ:=(Int×(Int×((List (List Int))×Unit)))) N (fun r2 s3=>(cond (ztk s3.1 0 24) (cond (ilt s3.2.1 (zmM s3.1 0 24)) (cond (cond (few 4) (ieq 4 4) false) (cond (few (ln (ap s3.2.2.1 [(rp 4 0)]))) (r2 (s3.1,((zy .i64 s3.2.1 1),((ap s3.2.2.1 [(rp 4 0)]),())))) none) none) (some [(.one (.s (.sl .int) s3.2.2.1))])) none)) (a0,(0,([],()))))
def zKP:FuncId->Nat->Option Tmpl:=zB [(60,0,{ n:=17,tm:=[(0,.i .i64),(3,.sl 0 []),(4,.i .i64)],lo:=[],ro:=[(0,(.sl .int),true)] })]
theorem zLQ (N:Nat)(a0:Int):evalFn (cQ zwR zL zF zG) zKP N 12 60 [.one (.i .i64 a0)]=zAf N a0:=by kernel_rfl
theorem zIW (a0:Int)(hb:zD big [.one (.i .i64 a0)])(hc:(zvO a0)=true):∃N,zAf N a0=some [.one (.s (.sl .int) (zqe a0))]:=by
 refine ⟨30,?_⟩;have h:a0=8:=of_decide_eq_true hc;subst h
 change _=_
 kernel_rfl
theorem zDc:Holds Tryz.prog 60 zqD:=zn zrJ zA zq zu (zC (by kernel_rfl)) fun avs rs hb h=>by
 unfold zqD at h;split at h
 ·obtain ⟨hc,rfl⟩:=zi h;exact (fin1 zIW zLQ hc hb :)
 ·cases h
def zAv:zbu:=[(77,zlT),(40,zq7),(60,zqD)]++zwR
theorem zwS:zbE zAv:=zl zzD (zl zDG (zl zDc zrJ))
def zkR:List Slot:=List.replicate 4 ⟨-1,0⟩
def zcG (p:List Ins):Guest:=⟨p,0,0,zkR,zkR,⟨0,0,false⟩,0,⟨0,0,false,0⟩,false,[]⟩
@[simp,reducible] def zkJ (p:List Ins):Bool:=pc (p.length<=1048576)
@[simp,reducible] def zhI (p:List Ins):Guest:=zcG p
@[simp,reducible] def zjX (p:List Ins):Bool:=pc (p.length<=1048576)
@[simp,reducible] def zhm (p:List Ins):Guest:=zcG p
def zlQ:List AV->Option (Bool×List AV)
 | [.one (.s .ins b)]=>some ((zkJ b),[.agg (Ty.cells .guest (zhI b))])
 | _=>none
def zpO (N:Nat)(a0:List Ins):Option Ans :=
 (cond (few (ln (ap [] a0))) (cond (zkN 4) (cond (zkN 4) (some [(.agg (Ty.cells .guest (⟨(ap [] a0),0,0,(zo1 4),(zo1 4),⟨0,0,false⟩,0,⟨0,0,false,0⟩,false,[]⟩:Guest)))]) none) none) none)
theorem zHD (N:Nat)(a0:List Ins):evalFn (cQ zAv zL zF zG) (zB []) N 12 41 [.one (.s .ins a0)]=zpO N a0:=by kernel_rfl
theorem zEv (a0:List Ins)(hb:zD big [.one (.s .ins a0)])(hc:(zkJ a0)=true):∃N,zpO N a0=some [.agg (Ty.cells .guest (zhI a0))]:=by
 have hs:=zI.1 hc;refine ⟨0,?_⟩;unfold zpO;refine must (by first|assumption|(simp_all<;>omega)) (must rfl (must rfl ?_))
 first|rfl|(simp only [*,zhI,zcG,zkR,cT,cF]<;>rfl)|simp_all [Ty.cells,zhI,zcG,zkR]
theorem zzA:Holds Tryz.prog 41 zlQ:=zn zwS zA zq zu (zC (by kernel_rfl)) fun avs rs hb h=>by
 unfold zlQ at h;split at h
 ·obtain ⟨hc,rfl⟩:=zi h;exact (fin1 zEv zHD hc hb :)
 ·cases h
def zlt:List AV->Option (Bool×List AV)
 | [.one (.s .ins b)]=>some ((zjX b),[.agg (Ty.cells .guest (zhm b))])
 | _=>none
def zpp (N:Nat)(a0:List Ins):Option Ans :=
 (cond (zj6 a0) (cond (zj2 4) (cond (zj2 4) (some [(.agg (Ty.cells .guest (⟨(zhp a0),0,0,(zj1 4),(zj1 4),⟨0,0,false⟩,0,⟨0,0,false,0⟩,false,[]⟩:Guest)))]) none) none) none)
theorem zHd (N:Nat)(a0:List Ins):evalFn (cQ zAv zL zF zG) (zB []) N 12 61 [.one (.s .ins a0)]=zpp N a0:=by kernel_rfl
theorem zD5 (a0:List Ins)(hb:zD big [.one (.s .ins a0)])(hc:(zjX a0)=true):∃N,zpp N a0=some [.agg (Ty.cells .guest (zhm a0))]:=by
 have hs:=zI.1 hc;refine ⟨0,?_⟩;unfold zpp;refine must (by first|assumption|(simp_all<;>omega)) (must rfl (must rfl ?_))
 first|rfl|(simp only [*,zhm,zcG,zkR,cT,cF]<;>rfl)|simp_all [Ty.cells,zhm,zcG,zkR]
theorem zy9:Holds Tryz.prog 61 zlt:=zn zwS zA zq zu (zC (by kernel_rfl)) fun avs rs hb h=>by
 unfold zlt at h;split at h
 ·obtain ⟨hc,rfl⟩:=zi h;exact (fin1 zD5 zHd hc hb :)
 ·cases h
def zh0:zbu:=[(41,zlQ),(61,zlt)]++zAv
theorem zeP:zbE zh0:=zl zzA (zl zy9 zwS)
def zEG:List (List Int):=List.replicate 8 [0,0,0,0]
def zcL (ps:List (List Ins)):Bare:=⟨zEG,(ps.take 2).map zcG,[],0⟩
def zIi (ps:List (List Ins)):Prop:=ps.length<=1048576/\∀p∈ps,p.length<=1048576
theorem zzZ {α β ρ:Type}(f:α->β)(K:List β->Option ρ):∀(l:List α) (i:Nat) (acc:List β),acc.length+l.length<=2147483648 ->
 goL (fun _ x acc k=>bif few (ln (ap acc [f x])) then k (ap acc [f x]) else none) K l i acc=K (acc++l.map f)
 | [],i,acc,_=>by simp [goL]
 | x :: l,i,acc,hn=>by
  simp only [List.length_cons] at hn;have hf:few (ln (ap acc [f x]))=true:=zfi (by simp [ap];omega)
  simp only [goL,hf,cT];rw [zzZ f K l (i+1) (ap acc [f x]) (by simp [ap];omega)]
  simp [ap]
theorem zxl {α β ρ:Type}(m:Nat)(f:α->β)(K:List β->Option ρ):∀(l:List α) (i:Nat) (acc:List β),acc.length+l.length<=2147483648 ->
 goL (fun (i:Nat) x acc k=>bif ilt (i:Int) (m:Int) then (cond (few (ln (ap acc [f x]))) (k (ap acc [f x])) none) else K acc) K l i acc=K (acc++(l.take (m-i)).map f)
 | [],i,acc,_=>by simp [goL]
 | x :: l,i,acc,hn=>by
  simp only [List.length_cons] at hn;have hf:few (ln (ap acc [f x]))=true:=zfi (by simp [ap];omega)
  by_cases h:i<m
  ·have hi:ilt (i:Int) (m:Int)=true:=decide_eq_true (by omega)
   simp only [goL,hi,hf,cT];rw [zxl m f K l (i+1) (ap acc [f x]) (by simp [ap];omega)]
   rw [show m-i=m-(i+1)+1 by omega]
   simp [ap]
  ·have hi:ilt (i:Int) (m:Int)=false:=decide_eq_false (by omega)
   simp only [goL,hi,cF];rw [show m-i=0 by omega]
   simp
theorem zPw {α:Type}{l:List α}{n:Int}{x:α}(h:x∈tk l n):x∈l:=List.mem_of_mem_take (by exact h)
theorem zKN {α:Type}(l:List α)(m:Nat):tk l (zct (ln l) (m:Int))=l.take m/\inr 0 (zct (ln l) (m:Int)) (ln l)=true:=by
 unfold tk zct
 by_cases h:(m:Int)<ln l
 ·rw [if_pos h];simp only [ln] at h;exact ⟨by rw [Int.toNat_natCast],decide_eq_true (by simp only [ln];omega)⟩
 ·rw [if_neg h];simp only [ln] at h ⊢;refine ⟨by rw [Int.toNat_natCast,List.take_of_length_le (Nat.le_refl _),List.take_of_length_le (by omega)],decide_eq_true (by omega)⟩
@[simp,reducible] def zmy (ps:List (List Ins)):Bool:=pc (zIi ps)
@[simp,reducible] def zr6 (ps:List (List Ins)):Bare:=zcL ps
@[simp,reducible] def zme (ps:List (List Ins)):Bool:=pc (zIi ps)
@[simp,reducible] def zrT (ps:List (List Ins)):Bare:=zcL ps
def zn1:List AV->Option (Bool×List AV)
 | [.one (.s (.sl .ins) b)]=>some ((zmy b),[.agg (Ty.cells .bare (zr6 b))])
 | _=>none
def zsM (N:Nat)(a0:List (List Ins)):Option Ans :=
 (cond (zv1 8) (iter (σ:=(Int×(Int×(Int×((List (List Ins))×((List (List Int))×((List Guest)×((List Int)×((List (List Int))×((List Guest)×((List Int)×Unit))))))))))) N (fun r2 s3=>(cond (ilt s3.1 (ln s3.2.2.2.1)) (cond (ilt s3.1 2) (cond (inb s3.1 (ln s3.2.2.2.1)) (cond (zkJ (ix s3.2.2.2.1 s3.1 [])) (cond (few (ln (ap s3.2.2.2.2.2.2.2.2.1 [(zhI (ix s3.2.2.2.1 s3.1 []))]))) (r2 ((zy .i64 s3.1 1),(s3.2.1,(s3.2.2.1,(s3.2.2.2.1,(s3.2.2.2.2.1,(s3.2.2.2.2.2.1,(s3.2.2.2.2.2.2.1,(s3.2.2.2.2.2.2.2.1,((ap s3.2.2.2.2.2.2.2.2.1 [(zhI (ix s3.2.2.2.1 s3.1 []))]),(s3.2.2.2.2.2.2.2.2.2.1,()))))))))))) none) none) none) (some [(.agg (Ty.cells .bare (⟨s3.2.2.2.2.2.2.2.1,s3.2.2.2.2.2.2.2.2.1,s3.2.2.2.2.2.2.2.2.2.1,s3.2.2.1⟩:Bare)))])) (some [(.agg (Ty.cells .bare (⟨s3.2.2.2.2.2.2.2.1,s3.2.2.2.2.2.2.2.2.1,s3.2.2.2.2.2.2.2.2.2.1,s3.2.2.1⟩:Bare)))]))) (0,(0,(0,(a0,([],([],([],((zru 8),([],([],()))))))))))) none)
def zHW:FuncId->Nat->Option Tmpl:=zB [(21,0,{ n:=28,tm:=[(0,.sl 0 []),(2,.lp 0 0),(3,.lp 1 0),(4,.i .i64)],lo:=[(0,[.sl 1 [],.sl 2 [],.sl 3 [],.i .i64]),(1,[.sl 4 [],.sl 5 [],.sl 6 [],.i .i64])],ro:=[(0,(.sl .ins),false),(1,(.sl .int),true),(2,.guest,true),(3,.int,true),(4,(.sl .int),true),(5,.guest,true),(6,.int,true)] })]
theorem zKf (N:Nat)(a0:List (List Ins)):evalFn (cQ zh0 zL zF zG) zHW N 12 21 [.one (.s (.sl .ins) a0)]=zsM N a0:=by kernel_rfl
theorem zGM (a0:List (List Ins))(hb:zD big [.one (.s (.sl .ins) a0)])(hc:(zmy a0)=true):∃N,zsM N a0=some [.agg (Ty.cells .bare (zr6 a0))]:=by
 have hs:=zI.1 hc;have hl:=zcP hs.1;refine ⟨NN,?_⟩;have hNN:∀{n:Nat},n<=big->n<NN:=fun h=>zb7 h;generalize NN=N at hNN ⊢;unfold zsM;refine must rfl ?_;refine (zbI a0 (fun i (t:(List Guest))=>((i:Int),0,0,a0,[],[],[],(zru 8),t,[],())) _ (fun i (x:List Ins) (t:List Guest) κ=>bif ilt (i:Int) ((2:Nat):Int) then (cond (few (ln (ap t [zcG x]))) (κ (ap t [zcG x])) none) else some [AV.agg (Ty.cells .bare ⟨zEG,t,[],0⟩)]) (fun (t:(List Guest))=>(some [(.agg (Ty.cells .bare (⟨(zru 8),t,[],0⟩:Bare)))])) (fun i hi t rec=>?_) (fun t rec=>?_) _ ([]) (hNN hl.1)).trans ?_
 ·simp only [zbr hi,zbn hi,zbx hi,zbt hi hl.1,cT];have hx:zkJ a0[i]=true:=zbb (hs.2 _ (List.getElem_mem hi));simp only [hx,cT];rfl
 ·simp only [zbe,cF]
 exact zxl 2 zcG (fun t=>some [AV.agg (Ty.cells .bare ⟨zEG,t,[],0⟩)]) a0 0 [] (by simpa using hl.2)
theorem zBo:Holds Tryz.prog 21 zn1:=zn zeP zA zq zu (zC (by kernel_rfl)) fun avs rs hb h=>by
 unfold zn1 at h;split at h
 ·obtain ⟨hc,rfl⟩:=zi h;exact (fin1 zGM zKf hc hb :)
 ·cases h
def znz:List AV->Option (Bool×List AV)
 | [.one (.s (.sl .ins) b)]=>some ((zme b),[.agg (Ty.cells .bare (zrT b))])
 | _=>none
def zsj (N:Nat)(a0:List (List Ins)):Option Ans :=
 (cond (zvO 8) (cond (inr 0 (zct (ln a0) 2) (ln a0)) (iter (σ:=(Int×(Int×(Int×(Int×((List (List Ins))×((List (List Int))×((List Guest)×((List Int)×((List (List Int))×((List Guest)×((List Int)×Unit)))))))))))) N (fun r2 s3=>(cond (ilt s3.2.1 s3.1) (cond (inb s3.2.1 (ln s3.2.2.2.2.1)) (cond (zjX (ix s3.2.2.2.2.1 s3.2.1 [])) (cond (few (ln (ap s3.2.2.2.2.2.2.2.2.2.1 [(zhm (ix s3.2.2.2.2.1 s3.2.1 []))]))) (r2 (s3.1,((zy .i64 s3.2.1 1),(s3.2.2.1,(s3.2.2.2.1,(s3.2.2.2.2.1,(s3.2.2.2.2.2.1,(s3.2.2.2.2.2.2.1,(s3.2.2.2.2.2.2.2.1,(s3.2.2.2.2.2.2.2.2.1,((ap s3.2.2.2.2.2.2.2.2.2.1 [(zhm (ix s3.2.2.2.2.1 s3.2.1 []))]),(s3.2.2.2.2.2.2.2.2.2.2.1,())))))))))))) none) none) none) (some [(.agg (Ty.cells .bare (⟨s3.2.2.2.2.2.2.2.2.1,s3.2.2.2.2.2.2.2.2.2.1,s3.2.2.2.2.2.2.2.2.2.2.1,s3.2.2.2.1⟩:Bare)))]))) ((ln (tk a0 (zct (ln a0) 2))),(0,(0,(0,((tk a0 (zct (ln a0) 2)),([],([],([],((zqe 8),([],([],())))))))))))) none) none)
def zHM:FuncId->Nat->Option Tmpl:=zB [(25,0,{ n:=27,tm:=[(2,.lp 0 0),(3,.lp 1 0),(12,.sl 0 []),(13,.i .i64),(14,.i .i64)],lo:=[(0,[.sl 1 [],.sl 2 [],.sl 3 [],.i .i64]),(1,[.sl 4 [],.sl 5 [],.sl 6 [],.i .i64])],ro:=[(0,(.sl .ins),false),(1,(.sl .int),true),(2,.guest,true),(3,.int,true),(4,(.sl .int),true),(5,.guest,true),(6,.int,true)] })]
theorem zJM (N:Nat)(a0:List (List Ins)):evalFn (cQ zh0 zL zF zG) zHM N 12 25 [.one (.s (.sl .ins) a0)]=zsj N a0:=by kernel_rfl
theorem zGj (a0:List (List Ins))(hb:zD big [.one (.s (.sl .ins) a0)])(hc:(zme a0)=true):∃N,zsj N a0=some [.agg (Ty.cells .bare (zrT a0))]:=by
 have hs:=zI.1 hc;have hl:=zcP hs.1;have ht:=zKN a0 2;have hlen0:(tk a0 (zct (ln a0) 2)).length<=1048576:=by rw [show tk a0 (zct (ln a0) 2)=a0.take 2 from ht.1];exact Nat.le_trans (by simp;omega) hs.1
 have hlen:=(zcP hlen0).1;refine ⟨NN,?_⟩;have hNN:∀{n:Nat},n<=big->n<NN:=fun h=>zb7 h;generalize NN=N at hNN ⊢;unfold zsj;refine must rfl (must ht.2 ?_);refine (zbI (tk a0 (zct (ln a0) 2)) (fun i (t:(List Guest))=>((ln (tk a0 (zct (ln a0) 2))),(i:Int),0,0,(tk a0 (zct (ln a0) 2)),[],[],[],(zqe 8),t,[],())) _ (fun _ (x:List Ins) (t:List Guest) κ=>bif few (ln (ap t [zcG x])) then κ (ap t [zcG x]) else none) (fun (t:(List Guest))=>(some [(.agg (Ty.cells .bare (⟨(zqe 8),t,[],0⟩:Bare)))])) (fun i hi t rec=>?_) (fun t rec=>?_) _ ([]) (hNN hlen)).trans ?_
 ·simp only [zbr hi,zbn hi,zbx hi,zbt hi hlen,cT];have hx:zjX (tk a0 (zct (ln a0) 2))[i]=true:=zbb (hs.2 _ (zPw (List.getElem_mem hi)));simp only [hx,cT]
 ·simp only [zbe,cF]
 refine (zzZ zcG (fun t=>some [AV.agg (Ty.cells .bare ⟨zEG,t,[],0⟩)]) _ 0 [] (by simp only [List.length_nil];omega)).trans ?_
 rw [show tk a0 (zct (ln a0) 2)=a0.take 2 from ht.1]
 rfl
theorem zAW:Holds Tryz.prog 25 znz:=zn zeP zA zq zu (zC (by kernel_rfl)) fun avs rs hb h=>by
 unfold znz at h;split at h
 ·obtain ⟨hc,rfl⟩:=zi h;exact (fin1 zGj zJM hc hb :)
 ·cases h
@[simp,reducible] def zxt (a:GAct):Bool:=true
@[simp,reducible] def zuy (a:GAct):Bool:=win a.Kind 1 17
def ztE:List AV->Option (Bool×List AV)
 | [.agg [.i .i64 c,.i .i64 d,.i .i64 e,.i .i64 f,.i .i64 g,.i .i64 h]]=>some ((zxt (⟨c,d,e,f,g,h⟩:GAct)),[.one (.b (zuy (⟨c,d,e,f,g,h⟩:GAct)))])
 | _=>none
def zwx (N:Nat)(a0:GAct):Option Ans :=
 (cond (zN a0.Kind 1 17) (some [(.one (.b (zT a0.Kind 1 17)))]) none)
theorem zN5 (N:Nat)(a0:GAct):evalFn (cQ zh0 zL zF zG) (zB []) N 12 43 [.agg (Ty.cells .act a0)]=zwx N a0:=by kernel_rfl
theorem zLy (a0:GAct)(hb:zD big [.agg (Ty.cells .act a0)])(hc:(zxt a0)=true):∃N,zwx N a0=some [.one (.b (zuy a0))]:=by
 refine ⟨0,?_⟩;unfold zwx;refine must rfl ?_
 first|rfl|(simp only [*,zuy,cT,cF]<;>rfl)|simp_all [Ty.cells,zuy]
theorem zF3:Holds Tryz.prog 43 ztE:=zn zeP zA zq zu (zC (by kernel_rfl)) fun avs rs hb h=>by
 unfold ztE at h;split at h
 ·obtain ⟨hc,rfl⟩:=zi h;exact (fin1 zLy zN5 hc hb :)
 ·cases h
@[simp,reducible] def ztV (k:Int):Bool:=true
@[simp,reducible] def zmY (k:Int):Bool:=win k 13 17
def zn6:List AV->Option (Bool×List AV)
 | [.one (.i .i64 c)]=>some ((ztV c),[.one (.b (zmY c))])
 | _=>none
def zsS (N:Nat)(a0:Int):Option Ans :=
 (cond (zN a0 13 17) (some [(.one (.b (zT a0 13 17)))]) none)
theorem zKl (N:Nat)(a0:Int):evalFn (cQ zh0 zL zF zG) (zB []) N 12 44 [.one (.i .i64 a0)]=zsS N a0:=by kernel_rfl
theorem zGS (a0:Int)(hb:zD big [.one (.i .i64 a0)])(hc:(ztV a0)=true):∃N,zsS N a0=some [.one (.b (zmY a0))]:=by
 refine ⟨0,?_⟩;unfold zsS;refine must rfl ?_
 first|rfl|(simp only [*,zmY,cT,cF]<;>rfl)|simp_all [Ty.cells,zmY]
theorem zBt:Holds Tryz.prog 44 zn6:=zn zeP zA zq zu (zC (by kernel_rfl)) fun avs rs hb h=>by
 unfold zn6 at h;split at h
 ·obtain ⟨hc,rfl⟩:=zi h;exact (fin1 zGS zKl hc hb :)
 ·cases h
@[simp,reducible] def zxu (a:GAct):Bool:=true
@[simp,reducible] def zl1 (a:GAct):Ctl:=⟨a.X,a.Y,ieq a.Z 1⟩
def ztF:List AV->Option (Bool×List AV)
 | [.agg [.i .i64 b,.i .i64 c,.i .i64 d,.i .i64 e,.i .i64 f,.i .i64 g]]=>some ((zxu (⟨b,c,d,e,f,g⟩:GAct)),[.agg (zeb (zl1 (⟨b,c,d,e,f,g⟩:GAct)))])
 | _=>none
def zwy (N:Nat)(a0:GAct):Option Ans :=
 (some [(.agg [(.i .i64 a0.X),(.i .i64 a0.Y),(.b (ieq a0.Z 1))])])
theorem zN6 (N:Nat)(a0:GAct):evalFn (cQ zh0 zL zF zG) (zB []) N 12 53 [.agg (Ty.cells .act a0)]=zwy N a0:=by kernel_rfl
theorem zLz (a0:GAct)(hb:zD big [.agg (Ty.cells .act a0)])(hc:(zxu a0)=true):∃N,zwy N a0=some [.agg (zeb (zl1 a0))]:=by
 refine ⟨0,?_⟩;unfold zwy
 first|rfl|(simp only [*,zl1,cT,cF]<;>rfl)|simp_all [Ty.cells,zl1]
theorem zF4:Holds Tryz.prog 53 ztF:=zn zeP zA zq zu (zC (by kernel_rfl)) fun avs rs hb h=>by
 unfold ztF at h;split at h
 ·obtain ⟨hc,rfl⟩:=zi h;exact (fin1 zLz zN6 hc hb :)
 ·cases h
@[simp,reducible] def zrS (a:GAct):Bool:=true
@[simp,reducible] def zo8 (a:GAct):Bool:=win a.Kind 1 17
def ztq:List AV->Option (Bool×List AV)
 | [.agg [.i .i64 c,.i .i64 d,.i .i64 e,.i .i64 f,.i .i64 g,.i .i64 h]]=>some ((zrS (⟨c,d,e,f,g,h⟩:GAct)),[.one (.b (zo8 (⟨c,d,e,f,g,h⟩:GAct)))])
 | _=>none
def zwj (N:Nat)(a0:GAct):Option Ans :=
 (cond (zQ a0.Kind 1 17) (some [(.one (.b (zX a0.Kind 1 17)))]) none)
theorem zNR (N:Nat)(a0:GAct):evalFn (cQ zh0 zL zF zG) (zB []) N 12 63 [.agg (Ty.cells .act a0)]=zwj N a0:=by kernel_rfl
theorem zLk (a0:GAct)(hb:zD big [.agg (Ty.cells .act a0)])(hc:(zrS a0)=true):∃N,zwj N a0=some [.one (.b (zo8 a0))]:=by
 refine ⟨0,?_⟩;unfold zwj;refine must rfl ?_
 first|rfl|(simp only [*,zo8,cT,cF]<;>rfl)|simp_all [Ty.cells,zo8]
theorem zFP:Holds Tryz.prog 63 ztq:=zn zeP zA zq zu (zC (by kernel_rfl)) fun avs rs hb h=>by
 unfold ztq at h;split at h
 ·obtain ⟨hc,rfl⟩:=zi h;exact (fin1 zLk zNR hc hb :)
 ·cases h
@[simp,reducible] def zmg (k:Int):Bool:=true
@[simp,reducible] def zjs (k:Int):Bool:=win k 13 17
def znE:List AV->Option (Bool×List AV)
 | [.one (.i .i64 c)]=>some ((zmg c),[.one (.b (zjs c))])
 | _=>none
def zsp (N:Nat)(a0:Int):Option Ans :=
 (cond (zQ a0 13 17) (some [(.one (.b (zX a0 13 17)))]) none)
theorem zJS (N:Nat)(a0:Int):evalFn (cQ zh0 zL zF zG) (zB []) N 12 64 [.one (.i .i64 a0)]=zsp N a0:=by kernel_rfl
theorem zGp (a0:Int)(hb:zD big [.one (.i .i64 a0)])(hc:(zmg a0)=true):∃N,zsp N a0=some [.one (.b (zjs a0))]:=by
 refine ⟨0,?_⟩;unfold zsp;refine must rfl ?_
 first|rfl|(simp only [*,zjs,cT,cF]<;>rfl)|simp_all [Ty.cells,zjs]
theorem zA1:Holds Tryz.prog 64 znE:=zn zeP zA zq zu (zC (by kernel_rfl)) fun avs rs hb h=>by
 unfold znE at h;split at h
 ·obtain ⟨hc,rfl⟩:=zi h;exact (fin1 zGp zJS hc hb :)
 ·cases h
@[simp,reducible] def zxa (a:GAct):Bool:=true
@[simp,reducible] def zle (a:GAct):Ctl:=⟨a.X,a.Y,ieq a.Z 1⟩
def ztr:List AV->Option (Bool×List AV)
 | [.agg [.i .i64 b,.i .i64 c,.i .i64 d,.i .i64 e,.i .i64 f,.i .i64 g]]=>some ((zxa (⟨b,c,d,e,f,g⟩:GAct)),[.agg (zeb (zle (⟨b,c,d,e,f,g⟩:GAct)))])
 | _=>none
def zwk (N:Nat)(a0:GAct):Option Ans :=
 (some [(.agg [(.i .i64 a0.X),(.i .i64 a0.Y),(.b (ieq a0.Z 1))])])
theorem zNS (N:Nat)(a0:GAct):evalFn (cQ zh0 zL zF zG) (zB []) N 12 121 [.agg (Ty.cells .act a0)]=zwk N a0:=by kernel_rfl
theorem zLl (a0:GAct)(hb:zD big [.agg (Ty.cells .act a0)])(hc:(zxa a0)=true):∃N,zwk N a0=some [.agg (zeb (zle a0))]:=by
 refine ⟨0,?_⟩;unfold zwk
 first|rfl|(simp only [*,zle,cT,cF]<;>rfl)|simp_all [Ty.cells,zle]
theorem zFQ:Holds Tryz.prog 121 ztr:=zn zeP zA zq zu (zC (by kernel_rfl)) fun avs rs hb h=>by
 unfold ztr at h;split at h
 ·obtain ⟨hc,rfl⟩:=zi h;exact (fin1 zLl zNS hc hb :)
 ·cases h
def zOG:zbu:=[(21,zn1),(25,znz),(43,ztE),(63,ztq),(44,zn6),(64,znE),(53,ztF),(121,ztr)]++zh0
theorem zOH:zbE zOG:=zl zBo (zl zAW (zl zF3 (zl zFP (zl zBt (zl zA1 (zl zF4 (zl zFQ zeP)))))))
section
open Go Go.RowKit
theorem zCt {P:Program}{fn:Func}{p q:Tmp}{ty tq:TypeId}(h:fn.results = #[.cell p ty,.cell q tq])(tmps:Array Value)(w:World) :
 (results fn tmps).run P w =
  ((asAddr (tmps.getD p undef)).run P w).andThen fun a w₁=>((loadVar ty a).run P w₁).andThen fun v w₂=>((asAddr (tmps.getD q undef)).run P w₂).andThen fun a2 w₃=>((loadVar tq a2).run P w₃).andThen fun v2 w₄=>.ok (.tuple #[v,v2]) w₄:=by
 simp only [results,h];simp [Sem.run_bind,Result.andThen]
theorem zRF (w:World)(p1 p2 p3:Option Addr)(n1 n2 n3 q1 q2 q3:Nat)(pe:Int)(am ag ax ay az:Int)(N:Int)(ok:Bool)(hread:∀w1,Below w.heap.size w w1->Calls Tryz.prog 126 #[.agg #[.slice p1 n1 q1,.slice p2 n2 q2,.slice p3 n3 q3,.int .i64 pe],.int .i64 ag,.int .i64 ax] w1 fun e w2=>e = .returned (.tuple #[.int .i64 N,.bool ok])/\Below w1.heap.size w1 w2) :
 Calls Tryz.prog 66 #[.agg #[.slice p1 n1 q1,.slice p2 n2 q2,.slice p3 n3 q3,.int .i64 pe],.agg #[.int .i64 12,.int .i64 am,.int .i64 ag,.int .i64 ax,.int .i64 ay,.int .i64 az]] w fun e w' =>
  e = .returned (.tuple #[.agg #[.slice p1 n1 q1,.slice p2 n2 q2,.slice p3 n3 q3,.int .i64 pe],.agg #[.bool ok,.int .i64 N]])/\Below w.heap.size w w':=by
 go_enter Tryz.func66,Tryz.ntmps66
 go_wp2_with fail
 refine (hread _ (((((Below.refl _ _).alloc (by simp) _).alloc (by simp) _).alloc (by simp;omega) _ |>.alloc (by simp;omega) _).alloc (by simp;omega) _)).mono ?_
 rintro e w2 ⟨rfl,hB⟩
 have hBs:=hB.size;simp only [World.size_alloc] at hBs;have c0:w2.cell? ⟨w.heap.size+1+1+1+1,0,none⟩=some (.slice p1 n1 q1):=(hB.cell (by simp)).trans (by go_simp)
 have c1:w2.cell? ⟨w.heap.size+1+1+1+1,1,none⟩=some (.slice p2 n2 q2):=(hB.cell (by simp)).trans (by go_simp)
 have c2:w2.cell? ⟨w.heap.size+1+1+1+1,2,none⟩=some (.slice p3 n3 q3):=(hB.cell (by simp)).trans (by go_simp)
 have c3:w2.cell? ⟨w.heap.size+1+1+1+1,3,none⟩=some (.int .i64 pe):=(hB.cell (by simp)).trans (by go_simp)
 have d0:w2.cell? ⟨w.heap.size+1+1,0,none⟩=some (.slice none 0 0):=(hB.cell (by simp)).trans (by go_simp)
 have f0:w2.frozen? ⟨w.heap.size+1+1,0,none⟩=false:=(hB.frozen (by simp)).trans (by go_simp)
 have d1:w2.cell? ⟨w.heap.size+1+1,1,none⟩=some (.slice none 0 0):=(hB.cell (by simp)).trans (by go_simp)
 have f1:w2.frozen? ⟨w.heap.size+1+1,1,none⟩=false:=(hB.frozen (by simp)).trans (by go_simp)
 have d2:w2.cell? ⟨w.heap.size+1+1,2,none⟩=some (.slice none 0 0):=(hB.cell (by simp)).trans (by go_simp)
 have f2:w2.frozen? ⟨w.heap.size+1+1,2,none⟩=false:=(hB.frozen (by simp)).trans (by go_simp)
 have d3:w2.cell? ⟨w.heap.size+1+1,3,none⟩=some (.int .i64 0):=(hB.cell (by simp)).trans (by go_simp)
 have f3:w2.frozen? ⟨w.heap.size+1+1,3,none⟩=false:=(hB.frozen (by simp)).trans (by go_simp)
 have e0:w2.cell? ⟨w.heap.size+1+1+1,0,none⟩=some (.bool false):=(hB.cell (by simp)).trans (by go_simp)
 have g0:w2.frozen? ⟨w.heap.size+1+1+1,0,none⟩=false:=(hB.frozen (by simp)).trans (by go_simp)
 have e1:w2.cell? ⟨w.heap.size+1+1+1,1,none⟩=some (.int .i64 0):=(hB.cell (by simp)).trans (by go_simp)
 have g1:w2.frozen? ⟨w.heap.size+1+1+1,1,none⟩=false:=(hB.frozen (by simp)).trans (by go_simp)
 go_wp2
 refine bodyPost_ret (v:=.tuple #[.agg #[.slice p1 n1 q1,.slice p2 n2 q2,.slice p3 n3 q3,.int .i64 pe],.agg #[.bool ok,.int .i64 N]]) ?_ rfl ?_
 ·rw [zCt (by rfl)]
  go_simp
  trace_state
 ·refine ⟨rfl,?_⟩;have hB0:Below w.heap.size w w2:=(((((Below.refl _ _).alloc (by simp) _).alloc (by simp) _).alloc (by simp;omega) _ |>.alloc (by simp;omega) _).alloc (by simp;omega) _).trans (hB.mono (by simp;omega))
  exact (((((hB0.setCell (by simp;omega) _).setCell (by simp;omega) _).setCell (by simp;omega) _).setCell (by simp;omega) _).setCell (by simp;omega) _).setCell (by simp;omega) _
end
def zwT:zbu:=[(42,zhG),(62,zgI)]++zOG
theorem zrK:zbE zwT:=zl zp8 (zl zol zOH)
def zgB (b:Bare)(a:GAct):Bare:=bif ieq a.Kind 1 then zen b a.G else (cond (ieq a.Kind 2) (chg b a.G (ztY a.X ⟨a.Y,a.Z⟩) (zok (gAt b a.G) a.X ⟨a.Y,a.Z⟩)) (cond (ieq a.Kind 3) (chg b a.G (hasB a.X 4) (zf3 (gAt b a.G) a.X)) (cond (ieq a.Kind 4) (chg b a.G (zs7 (gAt b a.G) a.X) (zpW (gAt b a.G) a.X)) (cond (ieq a.Kind 5) (chg b a.G (ztp (gAt b a.G)) (zqv (gAt b a.G))) (cond (ieq a.Kind 6) (chg b a.G (zdV (gAt b a.G).Pending a.X) (zhS (gAt b a.G) a.X)) (cond (ieq a.Kind 7) (chg b a.G (zgC ⟨a.X,a.Y,ieq a.Z 1⟩) (zyT (gAt b a.G) ⟨a.X,a.Y,ieq a.Z 1⟩)) (cond (ieq a.Kind 8) (zkk b a.X a.Y a.Z) (cond (ieq a.Kind 9) (zoQ b a.X) (cond (ieq a.Kind 10) (zpV b) (cond (ieq a.Kind 11) (zpZ b a.G a.X a.Y) (b)))))))))))
def zrI (b:Bare)(a:GAct):Told:=bif ieq a.Kind 1 then ⟨zfg b a.G,0⟩ else (cond (ieq a.Kind 2) ⟨zbY b a.G (ztY a.X ⟨a.Y,a.Z⟩),0⟩ (cond (ieq a.Kind 3) ⟨zbY b a.G (hasB a.X 4),0⟩ (cond (ieq a.Kind 4) ⟨zbY b a.G (zs7 (gAt b a.G) a.X),0⟩ (cond (ieq a.Kind 5) ⟨zbY b a.G (ztp (gAt b a.G)),0⟩ (cond (ieq a.Kind 6) ⟨zbY b a.G (zdV (gAt b a.G).Pending a.X),0⟩ (cond (ieq a.Kind 7) ⟨zbY b a.G (zgC ⟨a.X,a.Y,ieq a.Z 1⟩),0⟩ (cond (ieq a.Kind 8) ⟨zii b a.X a.Y a.Z,0⟩ (cond (ieq a.Kind 9) ⟨zjz b a.X,0⟩ (cond (ieq a.Kind 10) ⟨zvs b,zyP b⟩ (cond (ieq a.Kind 11) ⟨zmb b a.G a.X a.Y,0⟩ (⟨zdq b a.G a.X 1,zfV b a.G a.X⟩)))))))))))
theorem zQC {b:Bare}{p c v:Int}(h:SmB b):SmB (zkk b p c v):=by
 unfold zkk;cases zii b p c v
 ·exact h
 ·exact ⟨zAa h.1,h.2⟩
theorem zSj {b:Bare}{g a v:Int}(h:SmB b):SmB (zpZ b g a v):=by
 unfold zpZ;cases zmb b g a v
 ·exact h
 ·exact ⟨zAa h.1,h.2⟩
theorem zSi {b:Bare}(h:SmB b):SmB (zpV b):=by
 unfold zpV;cases zbO b
 ·exact h
 ·exact h
theorem zQD {b:Bare}{n:Int}(h:SmB b):SmB (zoQ b n):=by
 unfold zoQ;cases zjz b n
 ·exact h
 ·unfold zCq;cases ieq (ln (zcH b.Guests n)) 0
  ·exact ⟨h.1,(zxz _ zoR h.2.1).1,h.2.2⟩
  ·exact h
theorem zz9 {b:Bare}{a:GAct}(h:SmB b):SmB (zgB b a):=by
 have hg:=zeX a.G h;unfold zgB;cases ieq a.Kind 1
 ·cases ieq a.Kind 2
  ·cases ieq a.Kind 3
   ·cases ieq a.Kind 4
    ·cases ieq a.Kind 5
     ·cases ieq a.Kind 6
      ·cases ieq a.Kind 7
       ·cases ieq a.Kind 8
        ·cases ieq a.Kind 9
         ·cases ieq a.Kind 10
          ·cases ieq a.Kind 11
           ·exact h
           ·exact zSj h
          ·exact zSi h
         ·exact zQD h
        ·exact zQC h
       ·exact zpe h hg
      ·exact zpe h hg
     ·exact zpe h (zQG hg)
    ·exact zpe h (zQF _ hg)
   ·exact zpe h (zCD _ hg)
  ·exact zpe h (zKH _ _ hg)
 ·exact zQE h
theorem zSS {k:Int}(h:1<=k/\k<=11)(h1:ieq k 1=false)(h2:ieq k 2=false)(h3:ieq k 3=false)(h4:ieq k 4=false)(h5:ieq k 5=false)(h6:ieq k 6=false)(h7:ieq k 7=false)(h8:ieq k 8=false)(h9:ieq k 9=false)(h10:ieq k 10=false)(h11:ieq k 11=false):False:=by
 have:=of_decide_eq_false h1;have:=of_decide_eq_false h2;have:=of_decide_eq_false h3;have:=of_decide_eq_false h4;have:=of_decide_eq_false h5;have:=of_decide_eq_false h6;have:=of_decide_eq_false h7;have:=of_decide_eq_false h8;have:=of_decide_eq_false h9;have:=of_decide_eq_false h10;have:=of_decide_eq_false h11;omega
@[simp,reducible] def zmj (b:Bare)(a:GAct):Bool:=pc (SmB b/\1<=a.Kind/\a.Kind<=11)
@[simp,reducible] def zec (b:Bare)(a:GAct):Bare:=zgB b a
@[simp,reducible] def zed (b:Bare)(a:GAct):Told:=zrI b a
def znL:List AV->Option (Bool×List AV)
 | [.agg [.s (.sl .int) b,.s .guest c,.s .int d,.i .i64 e],.agg [.i .i64 f,.i .i64 g,.i .i64 h,.i .i64 j,.i .i64 k,.i .i64 l]]=>some ((zmj (⟨b,c,d,e⟩:Bare) (⟨f,g,h,j,k,l⟩:GAct)),[.agg (Ty.cells .bare (zec (⟨b,c,d,e⟩:Bare) (⟨f,g,h,j,k,l⟩:GAct))),.agg (Ty.cells .told (zed (⟨b,c,d,e⟩:Bare) (⟨f,g,h,j,k,l⟩:GAct)))])
 | _=>none
def zsw (N:Nat)(a0:Bare)(a1:GAct):Option Ans :=
 (cond (ieq a1.Kind 1) (cond (zqb a0 a1.G) (some [(.agg (Ty.cells .bare (zgV a0 a1.G))),(.agg [(.b (zgW a0 a1.G)),(.i .i64 0)])]) none) (cond (ieq a1.Kind 2) (cond (ztj a0 a1.G a1.X (⟨a1.Y,a1.Z⟩:Slot)) (some [(.agg (Ty.cells .bare (zib a0 a1.G a1.X (⟨a1.Y,a1.Z⟩:Slot)))),(.agg [(.b (zic a0 a1.G a1.X (⟨a1.Y,a1.Z⟩:Slot))),(.i .i64 0)])]) none) (cond (ieq a1.Kind 3) (cond (zno a0 a1.G a1.X) (some [(.agg (Ty.cells .bare (zf4 a0 a1.G a1.X))),(.agg [(.b (zf5 a0 a1.G a1.X)),(.i .i64 0)])]) none) (cond (ieq a1.Kind 4) (cond (zla a0 a1.G a1.X) (some [(.agg (Ty.cells .bare (zfl a0 a1.G a1.X))),(.agg [(.b (zfm a0 a1.G a1.X)),(.i .i64 0)])]) none) (cond (ieq a1.Kind 5) (cond (zlc a0 a1.G) (some [(.agg (Ty.cells .bare (zfp a0 a1.G))),(.agg [(.b (zfq a0 a1.G)),(.i .i64 0)])]) none) (cond (ieq a1.Kind 6) (cond (zlb a0 a1.G a1.X) (some [(.agg (Ty.cells .bare (zfn a0 a1.G a1.X))),(.agg [(.b (zfo a0 a1.G a1.X)),(.i .i64 0)])]) none) (cond (ieq a1.Kind 7) (cond (zxa a1) (cond (zth a0 a1.G (zle a1)) (some [(.agg (Ty.cells .bare (zh7 a0 a1.G (zle a1)))),(.agg [(.b (zh8 a0 a1.G (zle a1))),(.i .i64 0)])]) none) none) (cond (ieq a1.Kind 8) (cond (zp9 a0 a1.X a1.Y a1.Z) (some [(.agg (Ty.cells .bare (zgS a0 a1.X a1.Y a1.Z))),(.agg [(.b (zgT a0 a1.X a1.Y a1.Z)),(.i .i64 0)])]) none) (cond (ieq a1.Kind 9) (cond (zqa a0 a1.X) (some [(.agg (Ty.cells .bare (zjR a0 a1.X))),(.agg [(.b (zjS a0 a1.X)),(.i .i64 0)])]) none) (cond (ieq a1.Kind 10) (cond (ztf a0) (some [(.agg (Ty.cells .bare (zh2 a0))),(.agg [(.b (zh4 a0)),(.i .i64 (zh3 a0))])]) none) (cond (ieq a1.Kind 11) (cond (zti a0 a1.G a1.X a1.Y) (some [(.agg (Ty.cells .bare (zh9 a0 a1.G a1.X a1.Y))),(.agg [(.b (zia a0 a1.G a1.X a1.Y)),(.i .i64 0)])]) none) (cond (ieq a1.Kind 12) (cond (zgU a0 a1.G a1.X) none none) none))))))))))))
theorem zJZ (N:Nat)(a0:Bare)(a1:GAct):evalFn (cQ zwT zL zF zG) (zB []) N 12 66 [.agg (Ty.cells .bare a0),.agg (Ty.cells .act a1)]=zsw N a0 a1:=by kernel_rfl
theorem zGw (a0:Bare)(a1:GAct)(hb:zD big [.agg (Ty.cells .bare a0),.agg (Ty.cells .act a1)])(hc:(zmj a0 a1)=true):∃N,zsw N a0 a1=some [.agg (Ty.cells .bare (zec a0 a1)),.agg (Ty.cells .told (zed a0 a1))]:=by
 have hs:=(zI.1 hc).1;have hk:=@zSS a1.Kind (zI.1 hc).2
 refine ⟨0,?_⟩;unfold zsw;refine br (fun _=>must (by first|assumption|(simp_all<;>omega)) ?_) (fun _=>br (fun _=>must (by first|assumption|(simp_all<;>omega)) ?_) (fun _=>br (fun _=>must (by first|assumption|(simp_all<;>omega)) ?_) (fun _=>br (fun _=>must (by first|assumption|(simp_all<;>omega)) ?_) (fun _=>br (fun _=>must (by first|assumption|(simp_all<;>omega)) ?_) (fun _=>br (fun _=>must (by first|assumption|(simp_all<;>omega)) ?_) (fun _=>br (fun _=>must rfl (must (by first|assumption|(simp_all<;>omega)) ?_)) (fun _=>br (fun _=>must (by first|assumption|(simp_all<;>omega)) ?_) (fun _=>br (fun _=>must (by first|assumption|(simp_all<;>omega)) ?_) (fun _=>br (fun _=>must (by first|assumption|(simp_all<;>omega)) ?_) (fun _=>br (fun _=>must (by first|assumption|(simp_all<;>omega)) ?_) (fun _=>must (by first|assumption|(simp_all<;>omega)) (must (by first|assumption|(simp_all<;>omega)) (by exfalso;first|assumption|(simp_all<;>omega))))))))))))))
 all_goals first|rfl|(simp only [*,zec,zed,zgB,zrI,cT,cF]<;>rfl)|simp_all [Ty.cells,zec,zed,zgB,zrI]
theorem zA8:Holds Tryz.prog 66 znL:=zn zrK zA zq zu (zC (by kernel_rfl)) fun avs rs hb h=>by
 unfold znL at h;split at h
 ·obtain ⟨hc,rfl⟩:=zi h;exact (fin2 zGw zJZ hc hb :)
 ·cases h
def zdf (l:List Bare)(a:GAct):List Bare:=bif win a.Kind 1 17 then (cond (win a.Kind 13 17) l (cond (hasB a.M (ln l)) (up l a.M (zgB (ix l a.M zJ) a)) l)) else l
def zcM (l:List Bare)(a:GAct):Told:=bif win a.Kind 1 17 then (cond (win a.Kind 13 17) ⟨false,0⟩ (cond (hasB a.M (ln l)) (zrI (ix l a.M zJ) a) (cond (ieq a.Kind 10) ⟨false,-1⟩ ⟨false,0⟩))) else ⟨false,0⟩
@[simp,reducible] def zei (l:List Bare)(a:GAct):Bool:=pc (zgz l)
@[simp,reducible] def ze8 (l:List Bare)(a:GAct):List Bare:=zdf l a
@[simp,reducible] def zdd (l:List Bare)(a:GAct):Told:=zcM l a
def znY:List AV->Option (Bool×List AV)
 | [.one (.s .bare b),.agg [.i .i64 c,.i .i64 d,.i .i64 e,.i .i64 f,.i .i64 g,.i .i64 h]]=>some ((zei b (⟨c,d,e,f,g,h⟩:GAct)),[.one (.s .bare (ze8 b (⟨c,d,e,f,g,h⟩:GAct))),.agg (Ty.cells .told (zdd b (⟨c,d,e,f,g,h⟩:GAct)))])
 | _=>none
def zsJ (N:Nat)(a0:List Bare)(a1:GAct):Option Ans :=
 (cond (zrx a0) (cond (zxt a1) (cond (cond (zuy a1) false true) (some [(.one (.s .bare (zK a0))),(.agg [(.b false),(.i .i64 0)])]) (cond (ztV a1.Kind) (cond (zmY a1.Kind) (some [(.one (.s .bare (zK a0))),(.agg [(.b false),(.i .i64 0)])]) (cond (zN a1.M 0 (wsub .i64 (ln (zK a0)) 1)) (cond (cond (zT a1.M 0 (wsub .i64 (ln (zK a0)) 1)) false true) (cond (ieq a1.Kind 10) (some [(.one (.s .bare (zK a0))),(.agg [(.b false),(.i .i64 (-1))])]) (some [(.one (.s .bare (zK a0))),(.agg [(.b false),(.i .i64 0)])])) (cond (inb a1.M (ln (zK a0))) (cond (ieq a1.Kind 1) (cond (zrp (ix (zK a0) a1.M zJ) a1.G) (cond (inb a1.M (ln (zK a0))) (share (up (zK a0) a1.M (zhc (ix (zK a0) a1.M zJ) a1.G)) (fun x3=>(some [(.one (.s .bare x3)),(.agg [(.b (zhd (ix (zK a0) a1.M zJ) a1.G)),(.i .i64 0)])]))) none) none) (cond (ieq a1.Kind 2) (cond (ztS (ix (zK a0) a1.M zJ) a1.G a1.X (⟨a1.Y,a1.Z⟩:Slot)) (cond (inb a1.M (ln (zK a0))) (share (up (zK a0) a1.M (zis (ix (zK a0) a1.M zJ) a1.G a1.X (⟨a1.Y,a1.Z⟩:Slot))) (fun x3=>(some [(.one (.s .bare x3)),(.agg [(.b (zit (ix (zK a0) a1.M zJ) a1.G a1.X (⟨a1.Y,a1.Z⟩:Slot))),(.i .i64 0)])]))) none) none) (cond (ieq a1.Kind 3) (cond (zoh (ix (zK a0) a1.M zJ) a1.G a1.X) (cond (inb a1.M (ln (zK a0))) (share (up (zK a0) a1.M (zgg (ix (zK a0) a1.M zJ) a1.G a1.X)) (fun x3=>(some [(.one (.s .bare x3)),(.agg [(.b (zgh (ix (zK a0) a1.M zJ) a1.G a1.X)),(.i .i64 0)])]))) none) none) (cond (ieq a1.Kind 4) (cond (zlX (ix (zK a0) a1.M zJ) a1.G a1.X) (cond (inb a1.M (ln (zK a0))) (share (up (zK a0) a1.M (zfy (ix (zK a0) a1.M zJ) a1.G a1.X)) (fun x3=>(some [(.one (.s .bare x3)),(.agg [(.b (zfz (ix (zK a0) a1.M zJ) a1.G a1.X)),(.i .i64 0)])]))) none) none) (cond (ieq a1.Kind 5) (cond (zlZ (ix (zK a0) a1.M zJ) a1.G) (cond (inb a1.M (ln (zK a0))) (share (up (zK a0) a1.M (zfC (ix (zK a0) a1.M zJ) a1.G)) (fun x3=>(some [(.one (.s .bare x3)),(.agg [(.b (zfD (ix (zK a0) a1.M zJ) a1.G)),(.i .i64 0)])]))) none) none) (cond (ieq a1.Kind 6) (cond (zlY (ix (zK a0) a1.M zJ) a1.G a1.X) (cond (inb a1.M (ln (zK a0))) (share (up (zK a0) a1.M (zfA (ix (zK a0) a1.M zJ) a1.G a1.X)) (fun x3=>(some [(.one (.s .bare x3)),(.agg [(.b (zfB (ix (zK a0) a1.M zJ) a1.G a1.X)),(.i .i64 0)])]))) none) none) (cond (ieq a1.Kind 7) (cond (zxu a1) (cond (ztQ (ix (zK a0) a1.M zJ) a1.G (zl1 a1)) (cond (inb a1.M (ln (zK a0))) (share (up (zK a0) a1.M (zin (ix (zK a0) a1.M zJ) a1.G (zl1 a1))) (fun x3=>(some [(.one (.s .bare x3)),(.agg [(.b (zio (ix (zK a0) a1.M zJ) a1.G (zl1 a1))),(.i .i64 0)])]))) none) none) none) (cond (ieq a1.Kind 8) (cond (zrm (ix (zK a0) a1.M zJ) a1.X a1.Y a1.Z) (cond (inb a1.M (ln (zK a0))) (share (up (zK a0) a1.M (zg8 (ix (zK a0) a1.M zJ) a1.X a1.Y a1.Z)) (fun x3=>(some [(.one (.s .bare x3)),(.agg [(.b (zg9 (ix (zK a0) a1.M zJ) a1.X a1.Y a1.Z)),(.i .i64 0)])]))) none) none) (cond (ieq a1.Kind 9) (cond (zrn (ix (zK a0) a1.M zJ) a1.X) (cond (inb a1.M (ln (zK a0))) (share (up (zK a0) a1.M (zkG (ix (zK a0) a1.M zJ) a1.X)) (fun x3=>(some [(.one (.s .bare x3)),(.agg [(.b (zkH (ix (zK a0) a1.M zJ) a1.X)),(.i .i64 0)])]))) none) none) (cond (ieq a1.Kind 10) (cond (ztP (ix (zK a0) a1.M zJ)) (cond (inb a1.M (ln (zK a0))) (share (up (zK a0) a1.M (zik (ix (zK a0) a1.M zJ))) (fun x3=>(some [(.one (.s .bare x3)),(.agg [(.b (zim (ix (zK a0) a1.M zJ))),(.i .i64 (zil (ix (zK a0) a1.M zJ)))])]))) none) none) (cond (ieq a1.Kind 11) (cond (ztR (ix (zK a0) a1.M zJ) a1.G a1.X a1.Y) (cond (inb a1.M (ln (zK a0))) (share (up (zK a0) a1.M (ziq (ix (zK a0) a1.M zJ) a1.G a1.X a1.Y)) (fun x3=>(some [(.one (.s .bare x3)),(.agg [(.b (zir (ix (zK a0) a1.M zJ) a1.G a1.X a1.Y)),(.i .i64 0)])]))) none) none) (cond (zro (ix (zK a0) a1.M zJ) a1.G a1.X) (cond (inb a1.M (ln (zK a0))) (cond (cond (cond (cond (ieq a1.M a1.M) true false) (cond (ieq a1.M a1.M) true false) false) (cond (ieq a1.M a1.M) true false) false) (share (up (zK a0) a1.M (ix (zK a0) a1.M zJ)) (fun x3=>(some [(.one (.s .bare x3)),(.agg [(.b (zhb (ix (zK a0) a1.M zJ) a1.G a1.X)),(.i .i64 (zha (ix (zK a0) a1.M zJ) a1.G a1.X))])]))) none) none) none)))))))))))) none)) none)) none)) none) none)
theorem zKc (N:Nat)(a0:List Bare)(a1:GAct):evalFn (cQ zwT zL zF zG) (zB []) N 12 22 [.one (.s .bare a0),.agg (Ty.cells .act a1)]=zsJ N a0 a1:=by kernel_rfl
theorem zGJ (a0:List Bare)(a1:GAct)(hb:zD big [.one (.s .bare a0),.agg (Ty.cells .act a1)])(hc:(zei a0 a1)=true):∃N,zsJ N a0 a1=some [.one (.s .bare (ze8 a0 a1)),.agg (Ty.cells .told (zdd a0 a1))]:=by
 have hs:=zI.1 hc;have hx:hasB a1.M (ln a0)=true->SmB (ix a0 a1.M zJ):=fun h=>zCB hs h _;have hl:a0.length<=1048576:=hs.1
 refine ⟨0,?_⟩;unfold zsJ;refine must (by first|assumption|(simp_all<;>omega)) (must rfl (brN (fun _=>?_) (fun _=>must rfl (br (fun _=>?_) (fun _=>must rfl (brN (fun _=>br (fun _=>?_) (fun _=>?_)) (fun _=>must (by first|assumption|(simp_all<;>omega)) (br (fun _=>must (by first|assumption|(simp_all<;>omega)) (must (by first|assumption|(simp_all<;>omega)) (shr ?_))) (fun _=>br (fun _=>must (by first|assumption|(simp_all<;>omega)) (must (by first|assumption|(simp_all<;>omega)) (shr ?_))) (fun _=>br (fun _=>must (by first|assumption|(simp_all<;>omega)) (must (by first|assumption|(simp_all<;>omega)) (shr ?_))) (fun _=>br (fun _=>must (by first|assumption|(simp_all<;>omega)) (must (by first|assumption|(simp_all<;>omega)) (shr ?_))) (fun _=>br (fun _=>must (by first|assumption|(simp_all<;>omega)) (must (by first|assumption|(simp_all<;>omega)) (shr ?_))) (fun _=>br (fun _=>must (by first|assumption|(simp_all<;>omega)) (must (by first|assumption|(simp_all<;>omega)) (shr ?_))) (fun _=>br (fun _=>must rfl (must (by first|assumption|(simp_all<;>omega)) (must (by first|assumption|(simp_all<;>omega)) (shr ?_)))) (fun _=>br (fun _=>must (by first|assumption|(simp_all<;>omega)) (must (by first|assumption|(simp_all<;>omega)) (shr ?_))) (fun _=>br (fun _=>must (by first|assumption|(simp_all<;>omega)) (must (by first|assumption|(simp_all<;>omega)) (shr ?_))) (fun _=>br (fun _=>must (by first|assumption|(simp_all<;>omega)) (must (by first|assumption|(simp_all<;>omega)) (shr ?_))) (fun _=>br (fun _=>must (by first|assumption|(simp_all<;>omega)) (must (by first|assumption|(simp_all<;>omega)) (shr ?_))) (fun _=>must (by first|assumption|(simp_all<;>omega)) (must (by first|assumption|(simp_all<;>omega)) (must (by first|assumption|(simp_all<;>omega)) (shr ?_))))))))))))))))))))))
 all_goals first|rfl|(simp only [*,ze8,zdd,zdf,zcM,zgB,zrI,cT,cF]<;>rfl)|simp_all [Ty.cells,ze8,zdd,zdf,zcM,zgB,zrI]
theorem zBl:Holds Tryz.prog 22 znY:=zn zrK zA zq zu (zC (by kernel_rfl)) fun avs rs hb h=>by
 unfold znY at h;split at h
 ·obtain ⟨hc,rfl⟩:=zi h;exact (fin2 zGJ zKc hc hb :)
 ·cases h
def zIv:zbu:=[(66,znL),(22,znY)]++zwT
theorem zFr:zbE zIv:=zl zA8 (zl zBl zrK)
theorem zTo {k:Int}(h:ieq k 12=false)(h1:win k 1 17=true)(h2:win k 13 17=false):1<=k/\k<=11:=by
 have e:=of_decide_eq_false h;have a:=zf0.1 h1;have b:¬ (13<=k/\k<=17):=fun hh=>by rw [zf0.2 hh] at h2;cases h2
 omega
@[simp,reducible] def zjN (l:List Bare)(a:GAct):Bool:=pc (zgz l/\ieq a.Kind 12=false)
@[simp,reducible] def zjL (l:List Bare)(a:GAct):List Bare:=zdf l a
@[simp,reducible] def zjM (l:List Bare)(a:GAct):Told:=zcM l a
def zuw:List AV->Option (Bool×List AV)
 | [.one (.s .bare b),.agg [.i .i64 c,.i .i64 d,.i .i64 e,.i .i64 f,.i .i64 g,.i .i64 h]]=>some ((zjN b (⟨c,d,e,f,g,h⟩:GAct)),[.one (.s .bare (zjL b (⟨c,d,e,f,g,h⟩:GAct))),.agg (Ty.cells .told (zjM b (⟨c,d,e,f,g,h⟩:GAct)))])
 | _=>none
def zpf (N:Nat)(a0:List Bare)(a1:GAct):Option Ans :=
 (cond (ziE a0) (cond (zrS a1) (cond (cond (zo8 a1) false true) (some [(.one (.s .bare (zbT a0))),(.agg [(.b false),(.i .i64 0)])]) (cond (zmg a1.Kind) (cond (zjs a1.Kind) (some [(.one (.s .bare (zbT a0))),(.agg [(.b false),(.i .i64 0)])]) (cond (zcF a1.M (ln a0)) (cond (cond (zda a1.M (ln a0)) false true) (cond (ieq a1.Kind 10) (some [(.one (.s .bare (zbT a0))),(.agg [(.b false),(.i .i64 (-1))])]) (cond (zcF a1.M (ln a0)) (cond (cond (zda a1.M (ln a0)) false true) (some [(.one (.s .bare (zbT a0))),(.agg [(.b false),(.i .i64 0)])]) (cond (inb a1.M (ln a0)) (cond (zmj (ix a0 a1.M zJ) a1) (cond (zS (zec (ix a0 a1.M zJ) a1)) (cond (inb a1.M (ln (zbT a0))) (share (up (zbT a0) a1.M (zH (zec (ix a0 a1.M zJ) a1))) (fun x3=>(some [(.one (.s .bare x3)),(.agg [(.b (zed (ix a0 a1.M zJ) a1).Ok),(.i .i64 (zed (ix a0 a1.M zJ) a1).N)])]))) none) none) none) none)) none)) (cond (zcF a1.M (ln a0)) (cond (cond (zda a1.M (ln a0)) false true) (some [(.one (.s .bare (zbT a0))),(.agg [(.b false),(.i .i64 0)])]) (cond (inb a1.M (ln a0)) (cond (zmj (ix a0 a1.M zJ) a1) (cond (zS (zec (ix a0 a1.M zJ) a1)) (cond (inb a1.M (ln (zbT a0))) (share (up (zbT a0) a1.M (zH (zec (ix a0 a1.M zJ) a1))) (fun x3=>(some [(.one (.s .bare x3)),(.agg [(.b (zed (ix a0 a1.M zJ) a1).Ok),(.i .i64 (zed (ix a0 a1.M zJ) a1).N)])]))) none) none) none) none)) none)) none)) none)) none) none)
theorem zG3 (N:Nat)(a0:List Bare)(a1:GAct):evalFn (cQ zIv zL zF zG) (zB []) N 12 27 [.one (.s .bare a0),.agg (Ty.cells .act a1)]=zpf N a0 a1:=by kernel_rfl
theorem zDV (a0:List Bare)(a1:GAct)(hb:zD big [.one (.s .bare a0),.agg (Ty.cells .act a1)])(hc:(zjN a0 a1)=true):∃N,zpf N a0 a1=some [.one (.s .bare (zjL a0 a1)),.agg (Ty.cells .told (zjM a0 a1))]:=by
 have hs:=(zI.1 hc).1;have hx:hasB a1.M (ln a0)=true->SmB (ix a0 a1.M zJ):=fun h=>zCB hs h _;have hy:hasB a1.M (ln a0)=true->SmB (zgB (ix a0 a1.M zJ) a1):=fun h=>zz9 (hx h);have hl:a0.length<=1048576:=hs.1;have hk:=zTo (zI.1 hc).2
 refine ⟨0,?_⟩;unfold zpf;refine must (by first|assumption|(simp_all<;>omega)) (must rfl (brN (fun _=>?_) (fun _=>must rfl (br (fun _=>?_) (fun _=>must rfl (brN (fun _=>br (fun _=>?_) (fun _=>must rfl (brN (fun _=>?_) (fun _=>must (by first|assumption|(simp_all<;>omega)) (must (by first|assumption|(simp_all<;>omega)) (must (by first|assumption|(simp_all<;>omega)) (must (by first|assumption|(simp_all<;>omega)) (shr ?_)))))))) (fun _=>must rfl (brN (fun _=>?_) (fun _=>must (by first|assumption|(simp_all<;>omega)) (must (by first|assumption|(simp_all<;>omega)) (must (by first|assumption|(simp_all<;>omega)) (must (by first|assumption|(simp_all<;>omega)) (shr ?_)))))))))))))
 all_goals first|rfl|(simp only [*,zjL,zjM,zdf,zcM,cT,cF]<;>rfl)|simp_all [Ty.cells,zjL,zjM,zdf,zcM]
theorem zp4:Holds Tryz.prog 27 zuw:=zn zFr zA zq zu (zC (by kernel_rfl)) fun avs rs hb h=>by
 unfold zuw at h;split at h
 ·obtain ⟨hc,rfl⟩:=zi h;exact (fin2 zDV zG3 hc hb :)
 ·cases h
theorem zSw {b:Bare}{a:GAct}(h:a.Kind=12):zgB b a=b:=by
 unfold zgB;rw [h];rfl
theorem zRz {b:Bare}{a:GAct}(h:a.Kind=12):zrI b a=⟨zdq b a.G a.X 1,zfV b a.G a.X⟩:=by
 unfold zrI;rw [h];rfl
@[simp,reducible] def zt5 (b:Bare)(a:GAct):Bool:=pc (SmB b/\a.Kind=12)
def zrC:List AV->Option (Bool×List AV)
 | [.agg [.s (.sl .int) m,.s .guest g,.s .int o,.i .i64 p],.agg [.i .i64 k,.i .i64 q,.i .i64 u,.i .i64 x,.i .i64 y,.i .i64 z]]=>some (zt5 ⟨m,g,o,p⟩ ⟨k,q,u,x,y,z⟩,[.agg [.b (zdq ⟨m,g,o,p⟩ u x 1),.i .i64 (zfV ⟨m,g,o,p⟩ u x)]])
 | _=>none
theorem zKB {w:World}{v:Value}{t:Ty}{l:List t.den}{S:zZ}(h:Rep false w v (.s t l) S):∃p n q,v = .slice p n q:=by
 obtain ⟨⟨a,cap,hv,_⟩,_⟩:=h.len;exact ⟨a,_,cap,hv⟩
theorem zC4:zAj Tryz.prog 66 zrC:=by
 refine ⟨zC (by kernel_rfl),?_⟩
 intro w avs xs rs hrep hrun;unfold zrC at hrun;split at hrun
 ·rename_i m g o p k q u x y z;obtain ⟨hc,rfl⟩:=zi hrun;obtain ⟨hsm,hk⟩:=zI.1 hc;simp only at hk;subst hk;have hl:xs.length=10:=hrep.1
  match xs,hl with
  | [v0,v1,v2,v3,w0,w1,w2,w3,w4,w5],_ =>
   have r0:Rep false w v0 (.s (.sl .int) m) (fun b=>b<w.heap.size):=hrep.2 0 _ v0 rfl rfl;have r1:Rep false w v1 (.s .guest g) (fun b=>b<w.heap.size):=hrep.2 1 _ v1 rfl rfl;have r2:Rep false w v2 (.s .int o) (fun b=>b<w.heap.size):=hrep.2 2 _ v2 rfl rfl;have r3:Rep false w v3 (.i .i64 p) (fun b=>b<w.heap.size):=hrep.2 3 _ v3 rfl rfl;have s0:Rep false w w0 (.i .i64 12) (fun b=>b<w.heap.size):=hrep.2 4 _ w0 rfl rfl;have s1:Rep false w w1 (.i .i64 q) (fun b=>b<w.heap.size):=hrep.2 5 _ w1 rfl rfl;have s2:Rep false w w2 (.i .i64 u) (fun b=>b<w.heap.size):=hrep.2 6 _ w2 rfl rfl;have s3:Rep false w w3 (.i .i64 x) (fun b=>b<w.heap.size):=hrep.2 7 _ w3 rfl rfl;have s4:Rep false w w4 (.i .i64 y) (fun b=>b<w.heap.size):=hrep.2 8 _ w4 rfl rfl;have s5:Rep false w w5 (.i .i64 z) (fun b=>b<w.heap.size):=hrep.2 9 _ w5 rfl rfl;obtain ⟨p1,n1,q1,rfl⟩:=zKB r0;obtain ⟨p2,n2,q2,rfl⟩:=zKB r1;obtain ⟨p3,n3,q3,rfl⟩:=zKB r2;obtain rfl:=r3.int_inv;obtain rfl:=s0.int_inv;obtain rfl:=s1.int_inv;obtain rfl:=s2.int_inv;obtain rfl:=s3.int_inv;obtain rfl:=s4.int_inv;obtain rfl:=s5.int_inv;refine (zRF w p1 p2 p3 n1 n2 n3 q1 q2 q3 p q u x y z (zfV ⟨m,g,o,p⟩ u x) (zdq ⟨m,g,o,p⟩ u x 1) ?_).mono ?_
   ·intro w1 hB;have hkeep:∀b,b<w.heap.size->w1.heap[b]?=w.heap[b]?:=fun b hb=>hB.block b hb;have hall:zcJ false w1 (zM [.agg (Ty.cells .bare ⟨m,g,o,p⟩),.one (.i .i64 u),.one (.i .i64 x)]) [.slice p1 n1 q1,.slice p2 n2 q2,.slice p3 n3 q3,.int .i64 p,.int .i64 u,.int .i64 x] (fun _ b=>b<w1.heap.size):=by
     refine ⟨rfl,fun i c v hi hv=>?_⟩
     match i,hi,hv with
     | 0,hi,hv=>cases hi;cases hv;exact (r0.frame hkeep).weak (fun b hb=>Nat.lt_of_lt_of_le hb hB.size)
     | 1,hi,hv=>cases hi;cases hv;exact (r1.frame hkeep).weak (fun b hb=>Nat.lt_of_lt_of_le hb hB.size)
     | 2,hi,hv=>cases hi;cases hv;exact (r2.frame hkeep).weak (fun b hb=>Nat.lt_of_lt_of_le hb hB.size)
     | 3,hi,hv=>cases hi;cases hv;exact .i _ _ _
     | 4,hi,hv=>cases hi;cases hv;exact .i _ _ _
     | 5,hi,hv=>cases hi;cases hv;exact .i _ _ _
     | i+6,hi,hv=>cases hv
    have hrun2:zhD [.agg (Ty.cells .bare ⟨m,g,o,p⟩),.one (.i .i64 u),.one (.i .i64 x)]=some (true,[.one (.i .i64 (zfV ⟨m,g,o,p⟩ u x)),.one (.b (zdq ⟨m,g,o,p⟩ u x 1))]):=by
     show some (zgU ⟨m,g,o,p⟩ u x,_)=_
     rw [show zgU ⟨m,g,o,p⟩ u x=true from zbb hsm]
    refine (zp5.2 w1 _ _ _ hall hrun2).mono ?_;intro e w2 he;cases e with
    | panicked chain=>exact he.elim
    | outgrown=>exact he.elim
    | returned v =>
     obtain ⟨hg,ys,K,hys,rfl,hfr⟩:=he;have hl2:ys.length=2:=hys.1
     match ys,hl2 with
     | [y0,y1],_ =>
      have e0:Rep true w2 y0 (.i .i64 (zfV ⟨m,g,o,p⟩ u x)) (K 0):=hys.2 0 _ y0 rfl rfl;have e1:Rep true w2 y1 (.b (zdq ⟨m,g,o,p⟩ u x 1)) (K 1):=hys.2 1 _ y1 rfl rfl;obtain rfl:=e0.int_inv;obtain rfl:=e1.bool_inv;exact ⟨rfl,⟨hg.os,hg.tape,hg.output,hg.size,hg.keep⟩⟩
   ·rintro r w' ⟨rfl,hB⟩
    refine ⟨⟨hB.os,hB.tape,hB.output,hB.size,fun b hb=>hB.block b hb⟩,[.bool (zdq ⟨m,g,o,p⟩ u x 1),.int .i64 (zfV ⟨m,g,o,p⟩ u x)],⟨rfl,fun i c v hi hv=>?_⟩,rfl⟩
    match i,hi,hv with
    | 0,hi,hv=>cases hi;cases hv;exact .b _ _
    | 1,hi,hv=>cases hi;cases hv;exact .i _ _ _
    | i+2,hi,hv=>cases hv
 ·cases hrun
def zS7:zIj:=[(66,([],none,zrC))]++zG
theorem zSo:∀f own inp run,zx zS7 f=some (own,inp,run)->zgJ Tryz.prog f own inp run:=zQL zu (by
 intro x hx;simp only [List.mem_cons,List.not_mem_nil,or_false] at hx;subst hx;exact zC4)
@[simp,reducible] def zjQ (l:List Bare)(a:GAct):Bool:=pc (zgz l/\a.Kind=12)
@[simp,reducible] def zjO (l:List Bare)(a:GAct):List Bare:=zdf l a
@[simp,reducible] def zjP (l:List Bare)(a:GAct):Told:=zcM l a
def zux:List AV->Option (Bool×List AV)
 | [.one (.s .bare b),.agg [.i .i64 c,.i .i64 d,.i .i64 e,.i .i64 f,.i .i64 g,.i .i64 h]]=>some ((zjQ b (⟨c,d,e,f,g,h⟩:GAct)),[.one (.s .bare (zjO b (⟨c,d,e,f,g,h⟩:GAct))),.agg (Ty.cells .told (zjP b (⟨c,d,e,f,g,h⟩:GAct)))])
 | _=>none
def zpg (N:Nat)(a0:List Bare)(a1:GAct):Option Ans :=
 (cond (ziE a0) (cond (zrS a1) (cond (cond (zo8 a1) false true) (some [(.one (.s .bare (zbT a0))),(.agg [(.b false),(.i .i64 0)])]) (cond (zmg a1.Kind) (cond (zjs a1.Kind) (some [(.one (.s .bare (zbT a0))),(.agg [(.b false),(.i .i64 0)])]) (cond (zcF a1.M (ln a0)) (cond (cond (zda a1.M (ln a0)) false true) (cond (ieq a1.Kind 10) (some [(.one (.s .bare (zbT a0))),(.agg [(.b false),(.i .i64 (-1))])]) (cond (zcF a1.M (ln a0)) (cond (cond (zda a1.M (ln a0)) false true) (some [(.one (.s .bare (zbT a0))),(.agg [(.b false),(.i .i64 0)])]) (cond (inb a1.M (ln a0)) (cond (zt5 (ix a0 a1.M zJ) a1) (cond (zS (ix a0 a1.M zJ)) (cond (inb a1.M (ln (zbT a0))) (share (up (zbT a0) a1.M (zH (ix a0 a1.M zJ))) (fun x3=>(some [(.one (.s .bare x3)),(.agg [(.b (zdq (ix a0 a1.M zJ) a1.G a1.X 1)),(.i .i64 (zfV (ix a0 a1.M zJ) a1.G a1.X))])]))) none) none) none) none)) none)) (cond (zcF a1.M (ln a0)) (cond (cond (zda a1.M (ln a0)) false true) (some [(.one (.s .bare (zbT a0))),(.agg [(.b false),(.i .i64 0)])]) (cond (inb a1.M (ln a0)) (cond (zt5 (ix a0 a1.M zJ) a1) (cond (zS (ix a0 a1.M zJ)) (cond (inb a1.M (ln (zbT a0))) (share (up (zbT a0) a1.M (zH (ix a0 a1.M zJ))) (fun x3=>(some [(.one (.s .bare x3)),(.agg [(.b (zdq (ix a0 a1.M zJ) a1.G a1.X 1)),(.i .i64 (zfV (ix a0 a1.M zJ) a1.G a1.X))])]))) none) none) none) none)) none)) none)) none)) none) none)
theorem zG4 (N:Nat)(a0:List Bare)(a1:GAct):evalFn (cQ zwT zL zF zS7) (zB []) N 12 27 [.one (.s .bare a0),.agg (Ty.cells .act a1)]=zpg N a0 a1:=by kernel_rfl
theorem zDW (a0:List Bare)(a1:GAct)(hb:zD big [.one (.s .bare a0),.agg (Ty.cells .act a1)])(hc:(zjQ a0 a1)=true):∃N,zpg N a0 a1=some [.one (.s .bare (zjO a0 a1)),.agg (Ty.cells .told (zjP a0 a1))]:=by
 have hs:=(zI.1 hc).1;have hx:hasB a1.M (ln a0)=true->SmB (ix a0 a1.M zJ):=fun h=>zCB hs h _;have hy:hasB a1.M (ln a0)=true->SmB (zgB (ix a0 a1.M zJ) a1):=fun h=>zz9 (hx h);have hl:a0.length<=1048576:=hs.1;have hk:a1.Kind=12:=(zI.1 hc).2;have hz:=zSw (b:=ix a0 a1.M zJ) hk;have hz2:=zRz (b:=ix a0 a1.M zJ) hk
 refine ⟨0,?_⟩;unfold zpg;refine must (by first|assumption|(simp_all<;>omega)) (must rfl (brN (fun _=>?_) (fun _=>must rfl (br (fun _=>?_) (fun _=>must rfl (brN (fun _=>br (fun _=>?_) (fun _=>must rfl (brN (fun _=>?_) (fun _=>must (by first|assumption|(simp_all<;>omega)) (must (by first|assumption|(simp_all<;>omega)) (must (by first|assumption|(simp_all<;>omega)) (must (by first|assumption|(simp_all<;>omega)) (shr ?_)))))))) (fun _=>must rfl (brN (fun _=>?_) (fun _=>must (by first|assumption|(simp_all<;>omega)) (must (by first|assumption|(simp_all<;>omega)) (must (by first|assumption|(simp_all<;>omega)) (must (by first|assumption|(simp_all<;>omega)) (shr ?_)))))))))))))
 all_goals first|rfl|(simp only [*,zjO,zjP,zdf,zcM,cT,cF]<;>rfl)|simp_all [Ty.cells,zjO,zjP,zdf,zcM]
theorem zy2:Holds Tryz.prog 27 zux:=zn zrK zA zq zSo (zC (by kernel_rfl)) fun avs rs hb h=>by
 unfold zux at h;split at h
 ·obtain ⟨hc,rfl⟩:=zi h;exact (fin2 zDW zG4 hc hb :)
 ·cases h
@[simp,reducible] def zh6 (l:List Bare)(a:GAct):Bool:=pc (zgz l)
@[simp,reducible] def ztg (l:List Bare)(a:GAct):List Bare:=zdf l a
@[simp,reducible] def zh5 (l:List Bare)(a:GAct):Told:=zcM l a
def znw:List AV->Option (Bool×List AV)
 | [.one (.s .bare b),.agg [.i .i64 c,.i .i64 d,.i .i64 e,.i .i64 f,.i .i64 g,.i .i64 h]]=>some ((zh6 b (⟨c,d,e,f,g,h⟩:GAct)),[.one (.s .bare (ztg b (⟨c,d,e,f,g,h⟩:GAct))),.agg (Ty.cells .told (zh5 b (⟨c,d,e,f,g,h⟩:GAct)))])
 | _=>none
theorem zAT:Holds Tryz.prog 27 znw:=by
 refine ⟨zp4.1,?_⟩;intro w avs xs rs hrep hrun;unfold znw at hrun;split at hrun
 ·rename_i a0 a1_0 a1_1 a1_2 a1_3 a1_4 a1_5;obtain ⟨hc,rfl⟩:=zi hrun;have hs:=zI.1 hc;cases h12:ieq a1_0 12
  ·refine zp4.2 w _ xs _ hrep ?_
   show some (zjN a0 ⟨a1_0,a1_1,a1_2,a1_3,a1_4,a1_5⟩,_)=_
   rw [show zjN a0 ⟨a1_0,a1_1,a1_2,a1_3,a1_4,a1_5⟩=true from zbb ⟨hs,h12⟩]
  ·refine zy2.2 w _ xs _ hrep ?_
   show some (zjQ a0 ⟨a1_0,a1_1,a1_2,a1_3,a1_4,a1_5⟩,_)=_
   rw [show zjQ a0 ⟨a1_0,a1_1,a1_2,a1_3,a1_4,a1_5⟩=true from zbb ⟨hs,of_decide_eq_true h12⟩]
 ·cases hrun
theorem zFK {l:List Bare}{a:GAct}(h:zgz l):zgz (zdf l a):=by
 unfold zdf;cases win a.Kind 1 17
 ·exact h
 ·cases win a.Kind 13 17
  ·cases hm:hasB a.M (ln l)
   ·exact h
   ·exact zNb h (zz9 (zCB h hm _))
  ·exact h
def zIw:zbu:=[(27,znw)]++zIv
theorem zFs:zbE zIw:=zl zAT zFr
def zhC:List GAct->List Bare×List Told->List Bare×List Told
 | [],u=>u
 | a :: l,u=>zhC l (zdf u.1 a,ap u.2 [zcM u.1 a])
def zeT (ps:List (List (List Ins)))(l:List GAct):List Bare×List Told:=zhC (l.take 80) ((ps.take 3).map zcL,[])
def zgs (u:List Bare×List Told):Option Ans:=some [AV.one (.s .bare u.1),AV.one (.s .told u.2)]
def zIh (ps:List (List (List Ins))):Prop:=ps.length<=1048576/\∀p∈ps,zIi p
theorem zSk {ps:List (List Ins)}(h:zIi ps):SmB (zcL ps):=by
 refine ⟨show SmM zEG from ⟨by decide,by decide⟩,⟨?_,?_⟩,by simp [zcL]⟩
 ·simp only [zcL,List.length_map,List.length_take];omega
 ·intro x hx;simp only [zcL,List.mem_map] at hx;obtain ⟨p,hp,rfl⟩:=hx;exact ⟨h.2 p (List.mem_of_mem_take hp),show zkR.length<=1048576 by decide,show zkR.length<=1048576 by decide,by simp [zcG]⟩
theorem zKF {ps:List (List (List Ins))}(h:zIh ps):zgz ((ps.take 3).map zcL):=by
 refine ⟨?_,?_⟩
 ·simp only [List.length_map,List.length_take];omega
 ·intro b hb;obtain ⟨p,hp,rfl⟩:=List.mem_map.1 hb;exact zSk (h.2 p (List.mem_of_mem_take hp))
theorem zII {α τ ρ:Type}{b:Nat->α->τ->(τ->Option ρ)->Option ρ}{K K':τ->Option ρ}{l:List α}{i:Nat}{t:τ}(h:∀t,K t=K' t):goL b K l i t=goL b K' l i t:=by rw [funext h]
theorem zB4 {c:List Bare->GAct->Bool}(hc:∀l a,zgz l->c l a=true)(m:Nat):∀(l:List GAct) (i:Nat) (u:List Bare×List Told),zgz u.1->u.2.length+l.length<=2147483648 ->
 goL (fun (j:Nat) y (u:List Bare×List Told) κ=>bif ilt (j:Int) (m:Int) then (cond (c u.1 y) (cond (few (ln (ap u.2 [zcM u.1 y]))) (κ (zdf u.1 y,ap u.2 [zcM u.1 y])) none) none) else zgs u) zgs l i u=zgs (zhC (l.take (m-i)) u)
 | [],i,u,_,_=>by simp [goL,zhC]
 | a :: l,i,u,hs,hn=>by
  simp only [List.length_cons] at hn;have hf:few (ln (ap u.2 [zcM u.1 a]))=true:=zfi (by simp [ap];omega)
  by_cases h:i<m
  ·have hi:ilt (i:Int) (m:Int)=true:=decide_eq_true (by omega)
   simp only [goL,hi,hf,hc _ _ hs,cT];rw [zB4 hc m l (i+1) _ (zFK hs) (by simp [ap];omega)]
   rw [show m-i=m-(i+1)+1 by omega]
   rfl
  ·have hi:ilt (i:Int) (m:Int)=false:=decide_eq_false (by omega)
   simp only [goL,hi,cF];rw [show m-i=0 by omega]
   rfl
theorem zFA {c:List Bare->GAct->Bool}(hc:∀l a,zgz l->c l a=true):∀(l:List GAct) (i:Nat) (u:List Bare×List Told),zgz u.1->u.2.length+l.length<=2147483648 ->
 goL (fun (_:Nat) y (u:List Bare×List Told) κ=>bif c u.1 y then (cond (few (ln (ap u.2 [zcM u.1 y]))) (κ (zdf u.1 y,ap u.2 [zcM u.1 y])) none) else none) zgs l i u=zgs (zhC l u)
 | [],i,u,_,_=>by simp [goL,zhC]
 | a :: l,i,u,hs,hn=>by
  simp only [List.length_cons] at hn;have hf:few (ln (ap u.2 [zcM u.1 a]))=true:=zfi (by simp [ap];omega)
  simp only [goL,hf,hc _ _ hs,cT];rw [zFA hc l (i+1) _ (zFK hs) (by simp [ap];omega)]
  rfl
@[simp,reducible] def zkF (ps:List (List (List Ins)))(l:List GAct):Bool:=pc (zIh ps/\l.length<=1048576)
@[simp,reducible] def zdj (ps:List (List (List Ins)))(l:List GAct):List Bare:=(zeT ps l).1
@[simp,reducible] def zdk (ps:List (List (List Ins)))(l:List GAct):List Told:=(zeT ps l).2
@[simp,reducible] def zgR (ps:List (List (List Ins)))(l:List GAct):Bool:=pc (zIh ps/\l.length<=1048576)
@[simp,reducible] def zcc (ps:List (List (List Ins)))(l:List GAct):List Bare:=(zeT ps l).1
@[simp,reducible] def zcx (ps:List (List (List Ins)))(l:List GAct):List Told:=(zeT ps l).2
def zJG (l:List GAct)(t:List Bare):Option Ans:=goL (fun (j:Nat) y (u:List Bare×List Told) κ=>bif ilt (j:Int) ((80:Nat):Int) then (cond (zei u.1 y) (cond (few (ln (ap u.2 [zcM u.1 y]))) (κ (zdf u.1 y,ap u.2 [zcM u.1 y])) none) none) else zgs u) zgs l 0 (t,[])
def zlL:List AV->Option (Bool×List AV)
 | [.one (.s (.sl (.sl .ins)) b),.one (.s .act c)]=>some ((zkF b c),[.one (.s .bare (zdj b c)),.one (.s .told (zdk b c))])
 | _=>none
def zpI (N:Nat)(a0:List (List (List Ins)))(a1:List GAct):Option Ans :=
 (iter (σ:=(Int×((List (List (List Ins)))×((List GAct)×((List Bare)×Unit))))) N (fun r3 s4=>(cond (ilt s4.1 (ln s4.2.1)) (cond (ilt s4.1 3) (cond (inb s4.1 (ln s4.2.1)) (cond (zmy (ix s4.2.1 s4.1 [])) (cond (few (ln (ap s4.2.2.2.1 [(zr6 (ix s4.2.1 s4.1 []))]))) (r3 ((zy .i64 s4.1 1),(s4.2.1,(s4.2.2.1,((ap s4.2.2.2.1 [(zr6 (ix s4.2.1 s4.1 []))]),()))))) none) none) none) (iter (σ:=(Int×((List GAct)×((List Bare)×((List Told)×Unit))))) N (fun r5 s6=>(cond (ilt s6.1 (ln s6.2.1)) (cond (ilt s6.1 80) (cond (inb s6.1 (ln s6.2.1)) (cond (zei s6.2.2.1 (ix s6.2.1 s6.1 zcs)) (cond (few (ln (ap s6.2.2.2.1 [(zdd s6.2.2.1 (ix s6.2.1 s6.1 zcs))]))) (r5 ((zy .i64 s6.1 1),(s6.2.1,((ze8 s6.2.2.1 (ix s6.2.1 s6.1 zcs)),((ap s6.2.2.2.1 [(zdd s6.2.2.1 (ix s6.2.1 s6.1 zcs))]),()))))) none) none) none) (some [(.one (.s .bare s6.2.2.1)),(.one (.s .told s6.2.2.2.1))])) (some [(.one (.s .bare s6.2.2.1)),(.one (.s .told s6.2.2.2.1))]))) (0,(s4.2.2.1,(s4.2.2.2.1,([],())))))) (iter (σ:=(Int×((List GAct)×((List Bare)×((List Told)×Unit))))) N (fun r5 s6=>(cond (ilt s6.1 (ln s6.2.1)) (cond (ilt s6.1 80) (cond (inb s6.1 (ln s6.2.1)) (cond (zei s6.2.2.1 (ix s6.2.1 s6.1 zcs)) (cond (few (ln (ap s6.2.2.2.1 [(zdd s6.2.2.1 (ix s6.2.1 s6.1 zcs))]))) (r5 ((zy .i64 s6.1 1),(s6.2.1,((ze8 s6.2.2.1 (ix s6.2.1 s6.1 zcs)),((ap s6.2.2.2.1 [(zdd s6.2.2.1 (ix s6.2.1 s6.1 zcs))]),()))))) none) none) none) (some [(.one (.s .bare s6.2.2.1)),(.one (.s .told s6.2.2.2.1))])) (some [(.one (.s .bare s6.2.2.1)),(.one (.s .told s6.2.2.2.1))]))) (0,(s4.2.2.1,(s4.2.2.2.1,([],()))))))) (0,(a0,(a1,([],())))))
def zFh:FuncId->Nat->Option Tmpl:=zB [(6,0,{ n:=57,tm:=[(0,.sl 0 []),(1,.sl 1 []),(6,.sl 2 []),(7,.i .i64)],lo:=[],ro:=[(0,(.sl (.sl .ins)),false),(1,.act,false),(2,.bare,true)] }),(6,2,{ n:=57,tm:=[(1,.sl 0 []),(6,.sl 1 []),(8,.sl 2 []),(9,.i .i64)],lo:=[],ro:=[(0,.act,false),(1,.bare,true),(2,.told,true)] })]
theorem zHx (N:Nat)(a0:List (List (List Ins)))(a1:List GAct):evalFn (cQ zIw zL zF zG) zFh N 12 6 [.one (.s (.sl (.sl .ins)) a0),.one (.s .act a1)]=zpI N a0 a1:=by kernel_rfl
theorem zEp (a0:List (List (List Ins)))(a1:List GAct)(hb:zD big [.one (.s (.sl (.sl .ins)) a0),.one (.s .act a1)])(hc:(zkF a0 a1)=true):∃N,zpI N a0 a1=some [.one (.s .bare (zdj a0 a1)),.one (.s .told (zdk a0 a1))]:=by
 obtain ⟨hs,hl1⟩:=zI.1 hc;have hl:=zcP hs.1;have hl2:=zcP hl1;refine ⟨NN,?_⟩;have hNN:∀{n:Nat},n<=big->n<NN:=fun h=>zb7 h;generalize NN=N at hNN ⊢;unfold zpI;refine (zbI a0 (fun i (t:(List Bare))=>((i:Int),a0,a1,t,())) _ (fun i (x:List (List Ins)) (t:List Bare) κ=>bif ilt (i:Int) ((3:Nat):Int) then (cond (few (ln (ap t [zcL x]))) (κ (ap t [zcL x])) none) else zJG a1 t) (fun (t:(List Bare))=>(iter (σ:=(Int×((List GAct)×((List Bare)×((List Told)×Unit))))) N (fun r5 s6=>(cond (ilt s6.1 (ln s6.2.1)) (cond (ilt s6.1 80) (cond (inb s6.1 (ln s6.2.1)) (cond (zei s6.2.2.1 (ix s6.2.1 s6.1 zcs)) (cond (few (ln (ap s6.2.2.2.1 [(zdd s6.2.2.1 (ix s6.2.1 s6.1 zcs))]))) (r5 ((zy .i64 s6.1 1),(s6.2.1,((ze8 s6.2.2.1 (ix s6.2.1 s6.1 zcs)),((ap s6.2.2.2.1 [(zdd s6.2.2.1 (ix s6.2.1 s6.1 zcs))]),()))))) none) none) none) (some [(.one (.s .bare s6.2.2.1)),(.one (.s .told s6.2.2.2.1))])) (some [(.one (.s .bare s6.2.2.1)),(.one (.s .told s6.2.2.2.1))]))) (0,(a1,(t,([],())))))) (fun i hi t rec=>?_) (fun t rec=>?_) _ ([]) (hNN hl.1)).trans ?_
 ·simp only [zbr hi,zbn hi,zbx hi,zbt hi hl.1,cT];have hx:zmy a0[i]=true:=zbb (hs.2 _ (List.getElem_mem hi));cases h3:ilt (i:Int) 3
  ·simp only [cF,show ilt (i:Int) ((3:Nat):Int)=false from h3]
   refine (zbI a1 (fun j (u:(List Bare)×(List Told))=>((j:Int),a1,u.1,u.2,())) _ (fun j y (u:List Bare×List Told) κ₁=>bif ilt (j:Int) ((80:Nat):Int) then (cond (zei u.1 y) (cond (few (ln (ap u.2 [zcM u.1 y]))) (κ₁ (zdf u.1 y,ap u.2 [zcM u.1 y])) none) none) else zgs u) (fun (u:(List Bare)×(List Told))=>(some [(.one (.s .bare u.1)),(.one (.s .told u.2))])) (fun j hj u rec1=>?_) (fun u rec1=>?_) _ (t,[]) (hNN hl2.1)).trans ?_
   ·simp only [zbr hj,zbn hj,zbx hj,zbt hj hl2.1,cT];rfl
   ·simp only [zbe,cF]
   rfl
  ·simp only [hx,cT,show ilt (i:Int) ((3:Nat):Int)=true from h3]
 ·simp only [zbe,cF]
 refine (zII (K':=zJG a1) ?_).trans ?_;intro t;refine (zbI a1 (fun j (u:(List Bare)×(List Told))=>((j:Int),a1,u.1,u.2,())) _ (fun j y (u:List Bare×List Told) κ₁=>bif ilt (j:Int) ((80:Nat):Int) then (cond (zei u.1 y) (cond (few (ln (ap u.2 [zcM u.1 y]))) (κ₁ (zdf u.1 y,ap u.2 [zcM u.1 y])) none) none) else zgs u) (fun (u:(List Bare)×(List Told))=>(some [(.one (.s .bare u.1)),(.one (.s .told u.2))])) (fun j hj u rec1=>?_) (fun u rec1=>?_) _ (t,[]) (hNN hl2.1)).trans ?_
 ·simp only [zbr hj,zbn hj,zbx hj,zbt hj hl2.1,cT];rfl
 ·simp only [zbe,cF]
 rfl;refine (zxl 3 zcL (zJG a1) a0 0 [] (by simpa using hl.2)).trans ?_
 exact zB4 (fun l a h=>zbb h) 80 a1 0 _ (zKF hs) (by simpa using hl2.2)
theorem zzu:Holds Tryz.prog 6 zlL:=zn zFs zA zq zu (zC (by kernel_rfl)) fun avs rs hb h=>by
 unfold zlL at h;split at h
 ·obtain ⟨hc,rfl⟩:=zi h;exact (fin2 zEp zHx hc hb :)
 ·cases h
def zO2 (l:List GAct)(t:List Bare):Option Ans:=goL (fun (_:Nat) y (u:List Bare×List Told) κ=>bif zh6 u.1 y then (cond (few (ln (ap u.2 [zcM u.1 y]))) (κ (zdf u.1 y,ap u.2 [zcM u.1 y])) none) else none) zgs (tk l (zct (ln l) 80)) 0 (t,[])
def zlp:List AV->Option (Bool×List AV)
 | [.one (.s (.sl (.sl .ins)) b),.one (.s .act c)]=>some ((zgR b c),[.one (.s .bare (zcc b c)),.one (.s .told (zcx b c))])
 | _=>none
def zpj (N:Nat)(a0:List (List (List Ins)))(a1:List GAct):Option Ans :=
 (cond (inr 0 (zct (ln a0) 3) (ln a0)) (iter (σ:=(Int×(Int×((List GAct)×((List Bare)×((List Told)×((List (List (List Ins)))×Unit))))))) N (fun r3 s4=>(cond (ilt s4.2.1 s4.1) (cond (inb s4.2.1 (ln s4.2.2.2.2.2.1)) (cond (zme (ix s4.2.2.2.2.2.1 s4.2.1 [])) (cond (few (ln (ap s4.2.2.2.1 [(zrT (ix s4.2.2.2.2.2.1 s4.2.1 []))]))) (r3 (s4.1,((zy .i64 s4.2.1 1),(s4.2.2.1,((ap s4.2.2.2.1 [(zrT (ix s4.2.2.2.2.2.1 s4.2.1 []))]),(s4.2.2.2.2.1,(s4.2.2.2.2.2.1,()))))))) none) none) none) (cond (inr 0 (zct (ln s4.2.2.1) 80) (ln s4.2.2.1)) (iter (σ:=(Int×(Int×((List Bare)×((List Told)×((List GAct)×Unit)))))) N (fun r5 s6=>(cond (ilt s6.2.1 s6.1) (cond (inb s6.2.1 (ln s6.2.2.2.2.1)) (cond (zh6 s6.2.2.1 (ix s6.2.2.2.2.1 s6.2.1 zcs)) (cond (few (ln (ap s6.2.2.2.1 [(zh5 s6.2.2.1 (ix s6.2.2.2.2.1 s6.2.1 zcs))]))) (r5 (s6.1,((zy .i64 s6.2.1 1),((ztg s6.2.2.1 (ix s6.2.2.2.2.1 s6.2.1 zcs)),((ap s6.2.2.2.1 [(zh5 s6.2.2.1 (ix s6.2.2.2.2.1 s6.2.1 zcs))]),(s6.2.2.2.2.1,())))))) none) none) none) (some [(.one (.s .bare s6.2.2.1)),(.one (.s .told s6.2.2.2.1))]))) ((ln (tk s4.2.2.1 (zct (ln s4.2.2.1) 80))),(0,(s4.2.2.2.1,(s4.2.2.2.2.1,((tk s4.2.2.1 (zct (ln s4.2.2.1) 80)),())))))) none))) ((ln (tk a0 (zct (ln a0) 3))),(0,(a1,([],([],((tk a0 (zct (ln a0) 3)),()))))))) none)
def zE8:FuncId->Nat->Option Tmpl:=zB [(9,0,{ n:=53,tm:=[(1,.sl 0 []),(6,.sl 1 []),(7,.sl 2 []),(20,.sl 3 []),(21,.i .i64),(22,.i .i64)],lo:=[],ro:=[(0,.act,false),(1,.bare,true),(2,.told,true),(3,(.sl (.sl .ins)),false)] }),(9,2,{ n:=53,tm:=[(6,.sl 0 []),(7,.sl 1 []),(33,.sl 2 []),(34,.i .i64),(35,.i .i64)],lo:=[],ro:=[(0,.bare,true),(1,.told,true),(2,.act,false)] })]
theorem zG7 (N:Nat)(a0:List (List (List Ins)))(a1:List GAct):evalFn (cQ zIw zL zF zG) zE8 N 12 9 [.one (.s (.sl (.sl .ins)) a0),.one (.s .act a1)]=zpj N a0 a1:=by kernel_rfl
theorem zDZ (a0:List (List (List Ins)))(a1:List GAct)(hb:zD big [.one (.s (.sl (.sl .ins)) a0),.one (.s .act a1)])(hc:(zgR a0 a1)=true):∃N,zpj N a0 a1=some [.one (.s .bare (zcc a0 a1)),.one (.s .told (zcx a0 a1))]:=by
 obtain ⟨hs,hl1⟩:=zI.1 hc;have ht:=zKN a0 3;have ht2:=zKN a1 80;have e1:tk a0 (zct (ln a0) 3)=a0.take 3:=ht.1;have e2:tk a1 (zct (ln a1) 80)=a1.take 80:=ht2.1;have h01:(tk a0 (zct (ln a0) 3)).length<=1048576:=by rw [e1];exact Nat.le_trans (by simp;omega) hs.1
 have h02:(tk a1 (zct (ln a1) 80)).length<=1048576:=by rw [e2];exact Nat.le_trans (by simp;omega) hl1
 have hl:=zcP h01;have hl2:=zcP h02;refine ⟨NN,?_⟩;have hNN:∀{n:Nat},n<=big->n<NN:=fun h=>zb7 h;generalize NN=N at hNN ⊢;unfold zpj;refine must ht.2 ?_;refine (zbI (tk a0 (zct (ln a0) 3)) (fun i (t:(List Bare))=>((ln (tk a0 (zct (ln a0) 3))),(i:Int),a1,t,[],(tk a0 (zct (ln a0) 3)),())) _ (fun _ (x:List (List Ins)) (t:List Bare) κ=>bif few (ln (ap t [zcL x])) then κ (ap t [zcL x]) else none) (fun (t:(List Bare))=>(cond (inr 0 (zct (ln a1) 80) (ln a1)) (iter (σ:=(Int×(Int×((List Bare)×((List Told)×((List GAct)×Unit)))))) N (fun r5 s6=>(cond (ilt s6.2.1 s6.1) (cond (inb s6.2.1 (ln s6.2.2.2.2.1)) (cond (zh6 s6.2.2.1 (ix s6.2.2.2.2.1 s6.2.1 zcs)) (cond (few (ln (ap s6.2.2.2.1 [(zh5 s6.2.2.1 (ix s6.2.2.2.2.1 s6.2.1 zcs))]))) (r5 (s6.1,((zy .i64 s6.2.1 1),((ztg s6.2.2.1 (ix s6.2.2.2.2.1 s6.2.1 zcs)),((ap s6.2.2.2.1 [(zh5 s6.2.2.1 (ix s6.2.2.2.2.1 s6.2.1 zcs))]),(s6.2.2.2.2.1,())))))) none) none) none) (some [(.one (.s .bare s6.2.2.1)),(.one (.s .told s6.2.2.2.1))]))) ((ln (tk a1 (zct (ln a1) 80))),(0,(t,([],((tk a1 (zct (ln a1) 80)),())))))) none)) (fun i hi t rec=>?_) (fun t rec=>?_) _ ([]) (hNN hl.1)).trans ?_
 ·simp only [zbr hi,zbn hi,zbx hi,zbt hi hl.1,cT];have hx:zme (tk a0 (zct (ln a0) 3))[i]=true:=zbb (hs.2 _ (zPw (List.getElem_mem hi)));simp only [hx,cT]
 ·simp only [zbe,cF]
 refine (zII (K':=zO2 a1) ?_).trans ?_;intro t;simp only [show inr 0 (zct (ln a1) 80) (ln a1)=true from ht2.2,cT]
 refine (zbI (tk a1 (zct (ln a1) 80)) (fun j (u:(List Bare)×(List Told))=>((ln (tk a1 (zct (ln a1) 80))),(j:Int),u.1,u.2,(tk a1 (zct (ln a1) 80)),())) _ (fun _ y (u:List Bare×List Told) κ₁=>bif zh6 u.1 y then (cond (few (ln (ap u.2 [zcM u.1 y]))) (κ₁ (zdf u.1 y,ap u.2 [zcM u.1 y])) none) else none) (fun (u:(List Bare)×(List Told))=>(some [(.one (.s .bare u.1)),(.one (.s .told u.2))])) (fun j hj u rec1=>?_) (fun u rec1=>?_) _ (t,[]) (hNN hl2.1)).trans ?_
 ·simp only [zbr hj,zbn hj,zbx hj,zbt hj hl2.1,cT]
 ·simp only [zbe,cF]
 rfl;refine (zzZ zcL (zO2 a1) _ 0 [] (by simpa using hl.2)).trans ?_
 rw [e1];refine (zFA (fun l a h=>zbb h) _ 0 _ (zKF hs) (by simpa using hl2.2)).trans ?_
 rw [e2];rfl
theorem zy5:Holds Tryz.prog 9 zlp:=zn zFs zA zq zu (zC (by kernel_rfl)) fun avs rs hb h=>by
 unfold zlp at h;split at h
 ·obtain ⟨hc,rfl⟩:=zi h;exact (fin2 zDZ zG7 hc hb :)
 ·cases h
theorem zBF:SzP (fun x=>∀c∈Ty.cells (.sl .ins) x,CVB sm c) zd4:=by
 intro x n h0 h1;obtain ⟨a,b⟩:=zNK x n h0 h1;exact ⟨a,fun h c hc=>by rw [List.mem_singleton.1 hc];exact b h⟩
def zmq (_:List (List Ins))(n:Int):Bool:=pc (0<=n/\n<=1048576)
def zdT (l:List (List Ins))(n:Int):Int:=zv6 zd4 l n
def znU:List AV->Option (Bool×List AV)
 | [.one (.s (.sl .ins) b),.one (.i .i64 c)]=>some ((zmq b c),[.one (.i .i64 (zdT b c))])
 | _=>none
def zsF (N:Nat)(a0:List (List Ins))(a1:Int):Option Ans :=
 (cond (ilt (wsub .i64 a1 (ln a0)) 0) (some [(.one (.i .i64 (-1)))]) (iter (σ:=(Int×(Int×((List (List Ins))×Unit)))) N (fun r3 s4=>(cond (ilt s4.2.1 (ln s4.2.2.1)) (cond (inb s4.2.1 (ln s4.2.2.1)) (cond (zoK (ix s4.2.2.1 s4.2.1 []) s4.1) (cond (ilt (zd4 (ix s4.2.2.1 s4.2.1 []) s4.1) 0) (some [(.one (.i .i64 (-1)))]) (r3 ((zd4 (ix s4.2.2.1 s4.2.1 []) s4.1),((zy .i64 s4.2.1 1),(s4.2.2.1,()))))) none) none) (some [(.one (.i .i64 s4.1))]))) ((wsub .i64 a1 (ln a0)),(0,(a0,())))))
def zHU:FuncId->Nat->Option Tmpl:=zB [(20,0,{ n:=27,tm:=[(0,.sl 0 []),(1,.i .i64),(5,.i .i64)],lo:=[],ro:=[(0,(.sl .ins),false)] })]
theorem zJ8 (N:Nat)(a0:List (List Ins))(a1:Int):evalFn (cQ zNt zL zF zG) zHU N 12 20 [.one (.s (.sl .ins) a0),.one (.i .i64 a1)]=zsF N a0 a1:=by kernel_rfl
theorem zLj (l:List (List Ins)):∀n,0<=n->n<=1048576->zdT l n<=n/\(0<=zdT l n->CVB sm (.s (.sl .ins) l)):=fun n h0 h1=>by
 obtain ⟨a,b⟩:=zKL (S:=fun x=>∀c∈Ty.cells (.sl .ins) x,CVB sm c) (f:=zd4) zBF l n h0 h1;exact ⟨a,fun h=>.s (.sl .ins) l (b h).1 (b h).2⟩
theorem zGF (a0:List (List Ins))(a1:Int)(hb:zD big [.one (.s (.sl .ins) a0),.one (.i .i64 a1)])(hc:(zmq a0 a1)=true):∃N,zsF N a0 a1=some [.one (.i .i64 (zdT a0 a1))]:=by
 obtain ⟨h0,h1⟩:=zI.1 hc;have hl:=((zbw hb).1 _ (List.mem_singleton.2 rfl)).len;refine ⟨a0.length+1,?_⟩;simp only [zsF,zCG hl h0 h1,zdT,zv6,thn,zzJ]
 by_cases h:a1-a0.length<0
 ·simp [h]
 ·simp only [h,decide_false,cF,if_false];exact zNe a0 _ zoK zd4 zBF (fun x n h0 h1=>zbb ⟨h0,h1⟩) hl _ (by omega) (by omega) (Nat.lt_succ_self _)
theorem zBh:Holds Tryz.prog 20 znU:=zn zIz zA zq zu (zC (by kernel_rfl)) fun avs rs hb h=>by
 unfold znU at h;split at h
 ·obtain ⟨hc,rfl⟩:=zi h;exact (fin2 zGF zJ8 hc hb :)
 ·cases h
def zNu:zbu:=[(20,znU)]++zNt
theorem zIA:zbE zNu:=zl zBh zIz
theorem zyw:SzP (fun x=>∀c∈Ty.cells (.sl (.sl .ins)) x,CVB sm c) zdT:=by
 intro x n h0 h1;obtain ⟨a,b⟩:=zLj x n h0 h1;exact ⟨a,fun h c hc=>by rw [List.mem_singleton.1 hc];exact b h⟩
def zqo (_:List (List (List Ins)))(n:Int):Bool:=pc (0<=n/\n<=1048576)
def zcU (l:List (List (List Ins)))(n:Int):Int:=zv6 zdT l n
def zlH:List AV->Option (Bool×List AV)
 | [.one (.s (.sl (.sl .ins)) b),.one (.i .i64 c)]=>some ((zqo b c),[.one (.i .i64 (zcU b c))])
 | _=>none
def zpE (N:Nat)(a0:List (List (List Ins)))(a1:Int):Option Ans :=
 (cond (ilt (wsub .i64 a1 (ln a0)) 0) (some [(.one (.i .i64 (-1)))]) (iter (σ:=(Int×(Int×((List (List (List Ins)))×Unit)))) N (fun r3 s4=>(cond (ilt s4.2.1 (ln s4.2.2.1)) (cond (inb s4.2.1 (ln s4.2.2.1)) (cond (zmq (ix s4.2.2.1 s4.2.1 []) s4.1) (cond (ilt (zdT (ix s4.2.2.1 s4.2.1 []) s4.1) 0) (some [(.one (.i .i64 (-1)))]) (r3 ((zdT (ix s4.2.2.1 s4.2.1 []) s4.1),((zy .i64 s4.2.1 1),(s4.2.2.1,()))))) none) none) (some [(.one (.i .i64 s4.1))]))) ((wsub .i64 a1 (ln a0)),(0,(a0,())))))
def zFf:FuncId->Nat->Option Tmpl:=zB [(4,0,{ n:=27,tm:=[(0,.sl 0 []),(1,.i .i64),(5,.i .i64)],lo:=[],ro:=[(0,(.sl (.sl .ins)),false)] })]
theorem zHt (N:Nat)(a0:List (List (List Ins)))(a1:Int):evalFn (cQ zNu zL zF zG) zFf N 12 4 [.one (.s (.sl (.sl .ins)) a0),.one (.i .i64 a1)]=zpE N a0 a1:=by kernel_rfl
theorem zIO (l:List (List (List Ins))):∀n,0<=n->n<=1048576->zcU l n<=n/\(0<=zcU l n->CVB sm (.s (.sl (.sl .ins)) l)):=fun n h0 h1=>by
 obtain ⟨a,b⟩:=zKL (S:=fun x=>∀c∈Ty.cells (.sl (.sl .ins)) x,CVB sm c) (f:=zdT) zyw l n h0 h1;exact ⟨a,fun h=>.s (.sl (.sl .ins)) l (b h).1 (b h).2⟩
theorem zEl (a0:List (List (List Ins)))(a1:Int)(hb:zD big [.one (.s (.sl (.sl .ins)) a0),.one (.i .i64 a1)])(hc:(zqo a0 a1)=true):∃N,zpE N a0 a1=some [.one (.i .i64 (zcU a0 a1))]:=by
 obtain ⟨h0,h1⟩:=zI.1 hc;have hl:=((zbw hb).1 _ (List.mem_singleton.2 rfl)).len;refine ⟨a0.length+1,?_⟩;simp only [zpE,zCG hl h0 h1,zcU,zv6,thn,zzJ]
 by_cases h:a1-a0.length<0
 ·simp [h]
 ·simp only [h,decide_false,cF,if_false];exact zNe a0 _ zmq zdT zyw (fun x n h0 h1=>zbb ⟨h0,h1⟩) hl _ (by omega) (by omega) (Nat.lt_succ_self _)
theorem zzq:Holds Tryz.prog 4 zlH:=zn zIA zA zq zu (zC (by kernel_rfl)) fun avs rs hb h=>by
 unfold zlH at h;split at h
 ·obtain ⟨hc,rfl⟩:=zi h;exact (fin2 zEl zHt hc hb :)
 ·cases h
def zNv:zbu:=[(4,zlH)]++zNu
theorem zIB:zbE zNv:=zl zzq zIA
def zmr (l:List (List Ins)):Bool:=pc (CVB sm (.s (.sl .ins) l))
def zr0 (l:List (List Ins)):List (List Ins):=l
def znV:List AV->Option (Bool×List AV)
 | [.one (.s (.sl .ins) b)]=>some ((zmr b),[.one (.s (.sl .ins) (zr0 b))])
 | _=>none
def zsG (N:Nat)(a0:List (List Ins)):Option Ans :=
 (cond (cond (few (ln a0)) (ieq (ln a0) (ln a0)) false) (iter (σ:=(Int×((List (List Ins))×((List (List Ins))×Unit)))) N (fun r2 s3=>(cond (ilt s3.1 (ln s3.2.1)) (cond (inb s3.1 (ln s3.2.1)) (cond (zoL (ix s3.2.1 s3.1 [])) (cond (inb s3.1 (ln s3.2.2.1)) (share (up s3.2.2.1 s3.1 (zvS (ix s3.2.1 s3.1 []))) (fun x4=>(r2 ((zy .i64 s3.1 1),(s3.2.1,(x4,())))))) none) none) none) (some [(.one (.s (.sl .ins) s3.2.2.1))]))) (0,(a0,((rp (ln a0) []),())))) none)
def zHV:FuncId->Nat->Option Tmpl:=zB [(23,0,{ n:=23,tm:=[(0,.sl 0 []),(3,.sl 1 []),(4,.i .i64)],lo:=[],ro:=[(0,(.sl .ins),false),(1,(.sl .ins),true)] })]
theorem zJ9 (N:Nat)(a0:List (List Ins)):evalFn (cQ zNv zL zF zG) zHV N 12 23 [.one (.s (.sl .ins) a0)]=zsG N a0:=by kernel_rfl
theorem zGG (a0:List (List Ins))(hb:zD big [.one (.s (.sl .ins) a0)])(hc:(zmr a0)=true):∃N,zsG N a0=some [.one (.s (.sl .ins) (zr0 a0))]:=by
 have hs:=zI.1 hc;have hl:=zcP hs.len;refine ⟨a0.length+1,?_⟩;unfold zsG;rw [zfi hl.2,zqh];exact zx0 a0 _ zoL zvS (fun l=>some [AV.one (.s (.sl .ins) l)]) hl.1 (fun x hx=>⟨by first|rfl|exact zbb (hs.inv.2 x hx)|exact zbb (hs.inv.2 x hx _ (List.mem_singleton.2 rfl)),rfl⟩) (Nat.lt_succ_self _)
theorem zBi:Holds Tryz.prog 23 znV:=zn zIB zA zq zu (zC (by kernel_rfl)) fun avs rs hb h=>by
 unfold znV at h;split at h
 ·obtain ⟨hc,rfl⟩:=zi h;exact (fin1 zGG zJ9 hc hb :)
 ·cases h
def zNw:zbu:=[(23,znV)]++zNv
theorem zIC:zbE zNw:=zl zBi zIB
def zeu (l:List (List (List Ins))):Bool:=pc (CVB sm (.s (.sl (.sl .ins)) l))
def zU (l:List (List (List Ins))):List (List (List Ins)):=l
def zlI:List AV->Option (Bool×List AV)
 | [.one (.s (.sl (.sl .ins)) b)]=>some ((zeu b),[.one (.s (.sl (.sl .ins)) (zU b))])
 | _=>none
def zpF (N:Nat)(a0:List (List (List Ins))):Option Ans :=
 (cond (cond (few (ln a0)) (ieq (ln a0) (ln a0)) false) (iter (σ:=(Int×((List (List (List Ins)))×((List (List (List Ins)))×Unit)))) N (fun r2 s3=>(cond (ilt s3.1 (ln s3.2.1)) (cond (inb s3.1 (ln s3.2.1)) (cond (zmr (ix s3.2.1 s3.1 [])) (cond (inb s3.1 (ln s3.2.2.1)) (share (up s3.2.2.1 s3.1 (zr0 (ix s3.2.1 s3.1 []))) (fun x4=>(r2 ((zy .i64 s3.1 1),(s3.2.1,(x4,())))))) none) none) none) (some [(.one (.s (.sl (.sl .ins)) s3.2.2.1))]))) (0,(a0,((rp (ln a0) []),())))) none)
def zFg:FuncId->Nat->Option Tmpl:=zB [(7,0,{ n:=23,tm:=[(0,.sl 0 []),(3,.sl 1 []),(4,.i .i64)],lo:=[],ro:=[(0,(.sl (.sl .ins)),false),(1,(.sl (.sl .ins)),true)] })]
theorem zHu (N:Nat)(a0:List (List (List Ins))):evalFn (cQ zNw zL zF zG) zFg N 12 7 [.one (.s (.sl (.sl .ins)) a0)]=zpF N a0:=by kernel_rfl
theorem zEm (a0:List (List (List Ins)))(hb:zD big [.one (.s (.sl (.sl .ins)) a0)])(hc:(zeu a0)=true):∃N,zpF N a0=some [.one (.s (.sl (.sl .ins)) (zU a0))]:=by
 have hs:=zI.1 hc;have hl:=zcP hs.len;refine ⟨a0.length+1,?_⟩;unfold zpF;rw [zfi hl.2,zqh];exact zx0 a0 _ zmr zr0 (fun l=>some [AV.one (.s (.sl (.sl .ins)) l)]) hl.1 (fun x hx=>⟨by first|rfl|exact zbb (hs.inv.2 x hx)|exact zbb (hs.inv.2 x hx _ (List.mem_singleton.2 rfl)),rfl⟩) (Nat.lt_succ_self _)
theorem zzr:Holds Tryz.prog 7 zlI:=zn zIC zA zq zu (zC (by kernel_rfl)) fun avs rs hb h=>by
 unfold zlI at h;split at h
 ·obtain ⟨hc,rfl⟩:=zi h;exact (fin1 zEm zHu hc hb :)
 ·cases h
def zAx:zbu:=[(7,zlI)]++zNw
theorem zvC:zbE zAx:=zl zzr zIC
def zoF (x y:Bare):Bool:=pc (x=y)
def zqj (_ _:Bare):Bool:=true
def zqS:List AV->Option (Bool×List AV)
 | [.agg [.s (.sl .int) c,.s .guest d,.s .int e,.i .i64 f],.agg [.s (.sl .int) g,.s .guest h,.s .int j,.i .i64 k]]=>some ((zoF (⟨c,d,e,f⟩:Bare) (⟨g,h,j,k⟩:Bare)),[.one (.b (zqj (⟨c,d,e,f⟩:Bare) (⟨g,h,j,k⟩:Bare)))])
 | _=>none
def zu0 (N:Nat)(a0 a1:Bare):Option Ans :=
 (cond (zmp a0.Memory a1.Memory) (cond (cond (zmS a0.Memory a1.Memory) false true) (some [(.one (.b false))]) (cond (zj9 a0.Guests a1.Guests) (cond (cond (zj8 a0.Guests a1.Guests) false true) (some [(.one (.b false))]) (cond (zeS a0.Outs a1.Outs) (cond (cond (zfS a0.Outs a1.Outs) false true) (some [(.one (.b false))]) (cond (ine a0.Pending a1.Pending) (some [(.one (.b false))]) (some [(.one (.b true))]))) none)) none)) none)
theorem zL5 (N:Nat)(a0 a1:Bare):evalFn (cQ zAx zL zF zG) (zB []) N 12 28 [.agg (Ty.cells .bare a0),.agg (Ty.cells .bare a1)]=zu0 N a0 a1:=by kernel_rfl
theorem zJb (a0 a1:Bare)(hb:zD big [.agg (Ty.cells .bare a0),.agg (Ty.cells .bare a1)])(hc:(zoF a0 a1)=true):∃N,zu0 N a0 a1=some [.one (.b (zqj a0 a1))]:=by
 have:=zI.1 hc;subst this;refine ⟨0,?_⟩;simp only [zu0,zmp,zj9,zeS,zmS,zj8,zfS,zhV,zbF,zb5,cT,cF,Bool.not_true,zqj]
theorem zDr:Holds Tryz.prog 28 zqS:=zn zvC zA zq zu (zC (by kernel_rfl)) fun avs rs hb h=>by
 unfold zqS at h;split at h
 ·obtain ⟨hc,rfl⟩:=zi h;exact (fin2 zJb zL5 hc hb :)
 ·cases h
def zoI (x y:Told):Bool:=pc (x=y)
def zqm (_ _:Told):Bool:=true
def zqX:List AV->Option (Bool×List AV)
 | [.agg [.b c,.i .i64 d],.agg [.b e,.i .i64 f]]=>some ((zoI (⟨c,d⟩:Told) (⟨e,f⟩:Told)),[.one (.b (zqm (⟨c,d⟩:Told) (⟨e,f⟩:Told)))])
 | _=>none
def zu6 (N:Nat)(a0:Told)(a1:Told):Option Ans :=
 (cond (cond (zeo a0.Ok a1.Ok) false true) (some [(.one (.b false))]) (cond (ine a0.N a1.N) (some [(.one (.b false))]) (some [(.one (.b true))])))
theorem zMa (N:Nat)(a0:Told)(a1:Told):evalFn (cQ zAx zL zF zG) (zB []) N 12 29 [.agg (Ty.cells .told a0),.agg (Ty.cells .told a1)]=zu6 N a0 a1:=by kernel_rfl
theorem zJg (a0:Told)(a1:Told)(hb:zD big [.agg (Ty.cells .told a0),.agg (Ty.cells .told a1)])(hc:(zoI a0 a1)=true):∃N,zu6 N a0 a1=some [.one (.b (zqm a0 a1))]:=by
 have:=zI.1 hc;subst this;refine ⟨0,?_⟩;simp only [zu6, zhV,zbF,zb5,cT,cF,Bool.not_true,zqm]
theorem zDw:Holds Tryz.prog 29 zqX:=zn zvC zA zq zu (zC (by kernel_rfl)) fun avs rs hb h=>by
 unfold zqX at h;split at h
 ·obtain ⟨hc,rfl⟩:=zi h;exact (fin2 zJg zMa hc hb :)
 ·cases h
def zmo (x y:List (List Ins)):Bool:=pc (x=y)
def zmR (_ _:List (List Ins)):Bool:=true
def znQ:List AV->Option (Bool×List AV)
 | [.one (.s (.sl .ins) c),.one (.s (.sl .ins) d)]=>some ((zmo c d),[.one (.b (zmR c d))])
 | _=>none
def zsB (N:Nat)(a0:List (List Ins))(a1:List (List Ins)):Option Ans :=
 (cond (ine (ln a0) (ln a1)) (some [(.one (.b false))]) (iter (σ:=(Int×((List (List Ins))×((List (List Ins))×Unit)))) N (fun r3 s4=>(cond (ilt s4.1 (ln s4.2.1)) (cond (inb s4.1 (ln s4.2.1)) (cond (inb s4.1 (ln s4.2.2.1)) (cond (zhs (ix s4.2.1 s4.1 []) (ix s4.2.2.1 s4.1 [])) (cond (cond (zi0 (ix s4.2.1 s4.1 []) (ix s4.2.2.1 s4.1 [])) false true) (some [(.one (.b false))]) (r3 ((zy .i64 s4.1 1),(s4.2.1,(s4.2.2.1,()))))) none) none) none) (some [(.one (.b true))]))) (0,(a0,(a1,())))))
def zHQ:FuncId->Nat->Option Tmpl:=zB [(30,0,{ n:=27,tm:=[(0,.sl 0 []),(1,.sl 1 []),(5,.i .i64)],lo:=[],ro:=[(0,(.sl .ins),false),(1,(.sl .ins),false)] })]
theorem zJ4 (N:Nat)(a0:List (List Ins))(a1:List (List Ins)):evalFn (cQ zAx zL zF zG) zHQ N 12 30 [.one (.s (.sl .ins) a0),.one (.s (.sl .ins) a1)]=zsB N a0 a1:=by kernel_rfl
theorem zGB (a0:List (List Ins))(a1:List (List Ins))(hb:zD big [.one (.s (.sl .ins) a0),.one (.s (.sl .ins) a1)])(hc:(zmo a0 a1)=true):∃N,zsB N a0 a1=some [.one (.b (zmR a0 a1))]:=by
 have:=zI.1 hc;subst this;have hl:=((zbw hb).1 _ (List.mem_singleton.2 rfl)).len;refine ⟨a0.length+1,?_⟩;unfold zsB;rw [zbF];refine zgo a0 (Ty.dflt (.sl .ins)) _ _ hl (fun i hi rec=>?_) (fun rec=>?_) (Nat.lt_succ_self _)
 ·simp only [zbr hi,zbn hi,zbx hi,zhs,zi0,zhV,zbF,zb5,cT,cF,Bool.not_true]
 ·simp only [zbe,cF,zmR]
theorem zBd:Holds Tryz.prog 30 znQ:=zn zvC zA zq zu (zC (by kernel_rfl)) fun avs rs hb h=>by
 unfold znQ at h;split at h
 ·obtain ⟨hc,rfl⟩:=zi h;exact (fin2 zGB zJ4 hc hb :)
 ·cases h
def zAy:zbu:=[(28,zqS),(29,zqX),(30,znQ)]++zAx
theorem zvD:zbE zAy:=zl zDr (zl zDw (zl zBd zvC))
def zgq (x y:List Bare):Bool:=pc (x=y)
def zg3 (_ _:List Bare):Bool:=true
def znO:List AV->Option (Bool×List AV)
 | [.one (.s .bare c),.one (.s .bare d)]=>some ((zgq c d),[.one (.b (zg3 c d))])
 | _=>none
def zsz (N:Nat)(a0 a1:List Bare):Option Ans :=
 (cond (ine (ln a0) (ln a1)) (some [(.one (.b false))]) (iter (σ:=(Int×((List Bare)×((List Bare)×Unit)))) N (fun r3 s4=>(cond (ilt s4.1 (ln s4.2.1)) (cond (inb s4.1 (ln s4.2.1)) (cond (inb s4.1 (ln s4.2.2.1)) (cond (zoF (ix s4.2.1 s4.1 zJ) (ix s4.2.2.1 s4.1 zJ)) (cond (cond (zqj (ix s4.2.1 s4.1 zJ) (ix s4.2.2.1 s4.1 zJ)) false true) (some [(.one (.b false))]) (r3 ((zy .i64 s4.1 1),(s4.2.1,(s4.2.2.1,()))))) none) none) none) (some [(.one (.b true))]))) (0,(a0,(a1,())))))
def zHP:FuncId->Nat->Option Tmpl:=zB [(10,0,{ n:=27,tm:=[(0,.sl 0 []),(1,.sl 1 []),(5,.i .i64)],lo:=[],ro:=[(0,.bare,false),(1,.bare,false)] })]
theorem zJ2 (N:Nat)(a0 a1:List Bare):evalFn (cQ zAy zL zF zG) zHP N 12 10 [.one (.s .bare a0),.one (.s .bare a1)]=zsz N a0 a1:=by kernel_rfl
theorem zGz (a0 a1:List Bare)(hb:zD big [.one (.s .bare a0),.one (.s .bare a1)])(hc:(zgq a0 a1)=true):∃N,zsz N a0 a1=some [.one (.b (zg3 a0 a1))]:=by
 have:=zI.1 hc;subst this;have hl:=((zbw hb).1 _ (List.mem_singleton.2 rfl)).len;refine ⟨a0.length+1,?_⟩;unfold zsz;rw [zbF];refine zgo a0 zJ _ _ hl (fun i hi rec=>?_) (fun rec=>?_) (Nat.lt_succ_self _)
 ·simp only [zbr hi,zbn hi,zbx hi,zoF,zqj,zhV,zbF,zb5,cT,cF,Bool.not_true]
 ·simp only [zbe,cF,zg3]
theorem zBb:Holds Tryz.prog 10 znO:=zn zvD zA zq zu (zC (by kernel_rfl)) fun avs rs hb h=>by
 unfold znO at h;split at h
 ·obtain ⟨hc,rfl⟩:=zi h;exact (fin2 zGz zJ2 hc hb :)
 ·cases h
def zgr (x y:List Told):Bool:=pc (x=y)
def zg4 (_ _:List Told):Bool:=true
def znT:List AV->Option (Bool×List AV)
 | [.one (.s .told c),.one (.s .told d)]=>some ((zgr c d),[.one (.b (zg4 c d))])
 | _=>none
def zsE (N:Nat)(a0 a1:List Told):Option Ans :=
 (cond (ine (ln a0) (ln a1)) (some [(.one (.b false))]) (iter (σ:=(Int×((List Told)×((List Told)×Unit)))) N (fun r3 s4=>(cond (ilt s4.1 (ln s4.2.1)) (cond (inb s4.1 (ln s4.2.1)) (cond (inb s4.1 (ln s4.2.2.1)) (cond (zoI (ix s4.2.1 s4.1 zkT) (ix s4.2.2.1 s4.1 zkT)) (cond (cond (zqm (ix s4.2.1 s4.1 zkT) (ix s4.2.2.1 s4.1 zkT)) false true) (some [(.one (.b false))]) (r3 ((zy .i64 s4.1 1),(s4.2.1,(s4.2.2.1,()))))) none) none) none) (some [(.one (.b true))]))) (0,(a0,(a1,())))))
def zHT:FuncId->Nat->Option Tmpl:=zB [(11,0,{ n:=27,tm:=[(0,.sl 0 []),(1,.sl 1 []),(5,.i .i64)],lo:=[],ro:=[(0,.told,false),(1,.told,false)] })]
theorem zJ7 (N:Nat)(a0 a1:List Told):evalFn (cQ zAy zL zF zG) zHT N 12 11 [.one (.s .told a0),.one (.s .told a1)]=zsE N a0 a1:=by kernel_rfl
theorem zGE (a0 a1:List Told)(hb:zD big [.one (.s .told a0),.one (.s .told a1)])(hc:(zgr a0 a1)=true):∃N,zsE N a0 a1=some [.one (.b (zg4 a0 a1))]:=by
 have:=zI.1 hc;subst this;have hl:=((zbw hb).1 _ (List.mem_singleton.2 rfl)).len;refine ⟨a0.length+1,?_⟩;unfold zsE;rw [zbF];refine zgo a0 zkT _ _ hl (fun i hi rec=>?_) (fun rec=>?_) (Nat.lt_succ_self _)
 ·simp only [zbr hi,zbn hi,zbx hi,zoI,zqm,zhV,zbF,zb5,cT,cF,Bool.not_true]
 ·simp only [zbe,cF,zg4]
theorem zBg:Holds Tryz.prog 11 znT:=zn zvD zA zq zu (zC (by kernel_rfl)) fun avs rs hb h=>by
 unfold znT at h;split at h
 ·obtain ⟨hc,rfl⟩:=zi h;exact (fin2 zGE zJ7 hc hb :)
 ·cases h
def zkb (x y:List (List (List Ins))):Bool:=pc (x=y)
def zka (_ _:List (List (List Ins))):Bool:=true
def zlE:List AV->Option (Bool×List AV)
 | [.one (.s (.sl (.sl .ins)) c),.one (.s (.sl (.sl .ins)) d)]=>some ((zkb c d),[.one (.b (zka c d))])
 | _=>none
def zpy (N:Nat)(a0:List (List (List Ins)))(a1:List (List (List Ins))):Option Ans :=
 (cond (ine (ln a0) (ln a1)) (some [(.one (.b false))]) (iter (σ:=(Int×((List (List (List Ins)))×((List (List (List Ins)))×Unit)))) N (fun r3 s4=>(cond (ilt s4.1 (ln s4.2.1)) (cond (inb s4.1 (ln s4.2.1)) (cond (inb s4.1 (ln s4.2.2.1)) (cond (zmo (ix s4.2.1 s4.1 []) (ix s4.2.2.1 s4.1 [])) (cond (cond (zmR (ix s4.2.1 s4.1 []) (ix s4.2.2.1 s4.1 [])) false true) (some [(.one (.b false))]) (r3 ((zy .i64 s4.1 1),(s4.2.1,(s4.2.2.1,()))))) none) none) none) (some [(.one (.b true))]))) (0,(a0,(a1,())))))
def zFc:FuncId->Nat->Option Tmpl:=zB [(12,0,{ n:=27,tm:=[(0,.sl 0 []),(1,.sl 1 []),(5,.i .i64)],lo:=[],ro:=[(0,(.sl (.sl .ins)),false),(1,(.sl (.sl .ins)),false)] })]
theorem zHn (N:Nat)(a0:List (List (List Ins)))(a1:List (List (List Ins))):evalFn (cQ zAy zL zF zG) zFc N 12 12 [.one (.s (.sl (.sl .ins)) a0),.one (.s (.sl (.sl .ins)) a1)]=zpy N a0 a1:=by kernel_rfl
theorem zEf (a0:List (List (List Ins)))(a1:List (List (List Ins)))(hb:zD big [.one (.s (.sl (.sl .ins)) a0),.one (.s (.sl (.sl .ins)) a1)])(hc:(zkb a0 a1)=true):∃N,zpy N a0 a1=some [.one (.b (zka a0 a1))]:=by
 have:=zI.1 hc;subst this;have hl:=((zbw hb).1 _ (List.mem_singleton.2 rfl)).len;refine ⟨a0.length+1,?_⟩;unfold zpy;rw [zbF];refine zgo a0 (Ty.dflt (.sl (.sl .ins))) _ _ hl (fun i hi rec=>?_) (fun rec=>?_) (Nat.lt_succ_self _)
 ·simp only [zbr hi,zbn hi,zbx hi,zmo,zmR,zhV,zbF,zb5,cT,cF,Bool.not_true]
 ·simp only [zbe,cF,zka]
theorem zzk:Holds Tryz.prog 12 zlE:=zn zvD zA zq zu (zC (by kernel_rfl)) fun avs rs hb h=>by
 unfold zlE at h;split at h
 ·obtain ⟨hc,rfl⟩:=zi h;exact (fin2 zEf zHn hc hb :)
 ·cases h
def zRj:zbu:=[(10,znO),(11,znT),(12,zlE)]++zAy
theorem zQa:zbE zRj:=zl zBb (zl zBg (zl zzk zvD))
def gW (x:Guest):Int:=mcL zi3 x.Prog+mcL zgG x.Written+mcL zgG x.Live+((max x.Seen.length 40:Nat):Int)+11
def bW (b:Bare):Int:=mcL zoM b.Memory+mcL gW b.Guests+((max b.Outs.length 40:Nat):Int)+1
theorem zOV (x:Guest)(n:Int):gW (saw x n)<=gW x:=by
 unfold saw;cases h:ilt (ln x.Seen) 40
 ·exact Int.le_refl _
 ·have h:=of_decide_eq_true h;simp only [ln] at h;simp only [cT,gW,zOC,List.length_singleton];omega
theorem zk9 (x:Guest):gW (zbB x)=gW x:=by simp [gW]
theorem zM0 (x:Guest):gW (held x)=gW x:=by unfold held;rw [zk9];rfl
theorem zOU (x:Guest)(v:Int):gW (loaded x v)<=gW x:=by
 unfold loaded;rw [zk9];exact zOV { x with A:=v } v
theorem zSQ (x:Guest):gW (interrupted x)<=gW x:=by
 unfold interrupted;cases zeB x
 ·exact Int.le_refl _
 ·exact zOV { x with Pending:=zdZ x.Pending } _
theorem zNH (x:Guest):gW (plainly x)<=gW x:=by
 have hm:gW (zbB x)<=gW x:=by rw [zk9];exact Int.le_refl _
 unfold plainly;cases ine (zbS x) 2
 ·cases win x.A 0 99
  ·exact hm
  ·cases win (zcA x.Prog x.Pc).X 0 99
   ·exact hm
   ·cases ieq (zcA x.Prog x.Pc).Op 1
    ·cases ieq (zcA x.Prog x.Pc).Op 2
     ·cases ieq (zcA x.Prog x.Pc).Op 8
      ·exact hm
      ·cases ieq x.A 0<;>exact hm
     ·exact hm
    ·exact hm
 ·exact Int.le_refl _
theorem zIH (x:Guest)(t w:Int):gW (zff x t w)<=gW x:=by
 unfold zff;cases ieq w 6
 ·cases (ieq w 5&&zc8 t 1)
  ·cases (ieq w 7&&zc8 t 2)
   ·cases ieq w 7
    ·simp [zk9]
    ·simp [zM0]
   ·exact Int.le_refl _
  ·exact Int.le_refl _
 ·exact Int.le_refl _
theorem zk6 {b:Bare}{g:Int}{x:Guest}(h:hasB g (ln b.Guests)=true)(hx:gW x<=gW (gAt b g)):bW (zc7 b g x)<=bW b:=by
 have:=zpa zo h (m:=gW) (x:=x) (by simpa [gAt,h] using hx)
 simp only [zc7,bW];omega
theorem zz2 (m:List (List Int))(p c v:Int):mcL zoM (zdC m p c v)<=mcL zoM m:=by
 unfold zdC;cases h:zfv m p c
 ·exact Int.le_refl _
 ·cases win v 0 99
  ·exact Int.le_refl _
  ·refine zpa [] ((zoO m p c).1 h).1 ?_;simp only [zoM,zxR,zrB];exact Int.le_refl _
theorem zPh (b:Bare)(n:Int):bW (zd8 b n)<=bW b:=by
 unfold zd8;cases h:ilt (ln b.Outs) 40
 ·exact Int.le_refl _
 ·have h:=of_decide_eq_true h;simp only [ln] at h;simp only [cT,bW,zOC,List.length_singleton];omega
theorem zRE (b:Bare)(g:Int):bW (zen b g)<=bW b:=by
 unfold zen;cases hc:zfg b g
 ·exact Int.le_refl _
 ·have hh:hasB g (ln b.Guests)=true:=by
   unfold zfg at hc;cases h:hasB g (ln b.Guests)
   ·rw [h] at hc;cases hc
   ·rfl
  simp only [cT,stepped];cases ieq (zbS (gAt b g)) 1
  ·cases ieq (zbS (gAt b g)) 2
   ·have hmem:∀w,bW (zgw b g (gAt b g) w)<=bW b:=by
     intro w;unfold zgw;cases zhh (gAt b g).Live (zc6 (address (gAt b g))) (zd7 w)
     ·exact zk6 hh (Int.le_refl _)
     ·cases w
      ·exact zk6 hh (zOU _ _)
      ·have h1:=zz2 b.Memory (zgl (gAt b g).Live (zc6 (address (gAt b g))) (zd7 true)) (zdr (address (gAt b g))) (gAt b g).A;have h2:=zpa zo hh (m:=gW) (x:=zbB (gAt b g)) (by rw [zk9];simp [gAt,hh])
       simp only [cT,zc7,bW];omega
    cases ieq (zbS (gAt b g)) 3
    ·cases ieq (zbS (gAt b g)) 4
     ·simp only [cF,zjD];cases (cond (ziT (gAt b g).Ctl.Traps (zbS (gAt b g))) (ieq (zbS (gAt b g)) 5) false)
      ·exact zk6 hh (zIH _ _ _)
      ·have e:gAt (zd8 b (zcA (gAt b g).Prog (gAt b g).Pc).X) g=gAt b g:=by simp [gAt]
       refine Int.le_trans (zk6 (by simpa using hh) ?_) (zPh b _)
       show _<=gW (gAt (zd8 b (zcA (gAt b g).Prog (gAt b g).Pc).X) g)
       rw [e];exact zIH _ _ _
     ·exact hmem true
    ·exact hmem false
   ·exact zk6 hh (zNH _)
  ·exact zk6 hh (zSQ _)
theorem zTl (x:Guest):zfu x<=gW x:=by
 simp only [gW,zfu,zxR];omega
theorem zTh (b:Bare):zhy b<=bW b:=by
 have h2:=zz0 zTl b.Guests;simp only [bW,zhy,zxR];omega
section
variable {α:Type} {f:α->Int->α} {nx:α->Int->Int} {m:α->Int}
structure ResN2 (f:α->Int->α) (nx:α->Int->Int) (m:α->Int) (l:List α) (k:Int):Prop where
 c:0<=k/\k+mcL m l<=mkB
 hc:mkL f nx (mkL f nx l k) k=mkL f nx l k/\0<=k/\k+mcL m (mkL f nx l k)<=mkB
 e:enL nx (mkL f nx l k) k=enL nx l k
 nn:0<=enL nx l k
 v:enL nx l k=k+mcL m l
theorem zIa (h:Mk f nx m)(l:List α)(k:Int)(hk:0<=k)(hl:k+mcL m l<=1000000000000):ResN2 f nx m l k:=by
 have hB:mkB=4611686018427387904:=rfl;have hn:=zcz h.nn l;refine ⟨⟨hk,by omega⟩,⟨zoP h l k,hk,by rw [zfe h];omega⟩,by rw [zb6 h.nx,zb6 h.nx,zfe h],by rw [zb6 h.nx];omega,zb6 h.nx l k⟩
end
theorem zCA (t:List Slot)(p:Int)(s:Slot):mcL zgG (zd6 t p s)<=mcL zgG t:=by
 unfold zd6;cases h:hasB p (ln t)
 ·exact Int.le_refl _
 ·exact zpa zdl h (Int.le_refl 2)
theorem zR1 (x:Guest)(p:Int)(s:Slot):gW (zok x p s)<=gW x:=by
 have:=zCA x.Written p s;simp only [gW,zok];omega
theorem zOT (x:Guest)(p:Int):gW (zf3 x p)<=gW x:=by
 have:=zCA x.Live p (ziA x.Written p);simp only [gW,zf3];omega
theorem zRZ (x:Guest)(v:Int):gW (zpW x v)<=gW x:=by
 unfold zpW;rw [zk9];cases ieq x.Exit.Kind 2<;>exact Int.le_refl _
theorem zR0 (x:Guest):gW (zqv x)<=gW x:=by
 unfold zqv;cases ieq x.Exit.Kind 1
 ·simp only [cF];rw [zM0];exact Int.le_refl _
 ·exact Int.le_refl _
theorem zt7 {b:Bare}{g:Int}{c:Bool}{x:Guest}(hx:gW x<=gW (gAt b g)):bW (chg b g c x)<=bW b:=by
 unfold chg;cases h:zby b g
 ·exact Int.le_refl _
 ·cases c
  ·exact Int.le_refl _
  ·exact zk6 (zcj.1 h).2 hx
theorem zRC (b:Bare)(p c v:Int):bW (zkk b p c v)<=bW b:=by
 unfold zkk;cases zii b p c v
 ·exact Int.le_refl _
 ·have:=zz2 b.Memory p c v;simp only [cT,bW];omega
theorem zSy (b:Bare)(g a v:Int):bW (zpZ b g a v)<=bW b:=by
 unfold zpZ;cases zmb b g a v
 ·exact Int.le_refl _
 ·have:=zz2 b.Memory (zos b g a 2) (zdr a) v;simp only [cT,bW];omega
theorem zSx (b:Bare):bW (zpV b)<=bW b:=by
 unfold zpV;cases zbO b<;>exact Int.le_refl _
theorem zFG (n:Int):∀(ks:List Int) (l:List Guest),(∀k∈ks,hasB k (ln l)=true)->mcL gW (zjy n ks l)<=mcL gW l
 | [],l,_=>Int.le_refl _
 | k :: ks,l,h=>by
  have h1:mcL gW (zvU n l k)<=mcL gW l:=zpa zo (h k (by simp)) (Int.le_refl _)
  have h2:=zFG n ks (zvU n l k) (fun j hj=>by rw [ln,zr4];exact h j (by simp [hj]))
  exact Int.le_trans h2 h1
theorem zRD (b:Bare)(n:Int):bW (zoQ b n)<=bW b:=by
 unfold zoQ;cases zjz b n
 ·exact Int.le_refl _
 ·unfold zCq;cases ieq (ln (zcH b.Guests n)) 0
  ·have:=zFG n (zcH b.Guests n) b.Guests zoR;simp only [cT,cF,bW];omega
  ·exact Int.le_refl _
theorem zRB (b:Bare)(a:GAct):bW (zgB b a)<=bW b:=by
 unfold zgB;cases ieq a.Kind 1
 ·cases ieq a.Kind 2
  ·cases ieq a.Kind 3
   ·cases ieq a.Kind 4
    ·cases ieq a.Kind 5
     ·cases ieq a.Kind 6
      ·cases ieq a.Kind 7
       ·cases ieq a.Kind 8
        ·cases ieq a.Kind 9
         ·cases ieq a.Kind 10
          ·cases ieq a.Kind 11
           ·exact Int.le_refl _
           ·exact zSy _ _ _ _
          ·exact zSx _
         ·exact zRD _ _
        ·exact zRC _ _ _ _
       ·exact zt7 (Int.le_refl _)
      ·exact zt7 (Int.le_refl _)
     ·exact zt7 (zR0 _)
    ·exact zt7 (zRZ _ _)
   ·exact zt7 (zOT _ _)
  ·exact zt7 (zR1 _ _ _)
 ·exact zRE _ _
theorem zRA (l:List Bare)(a:GAct):mcL bW (zdf l a)<=mcL bW l:=by
 unfold zdf;cases win a.Kind 1 17
 ·exact Int.le_refl _
 ·cases win a.Kind 13 17
  ·cases hm:hasB a.M (ln l)
   ·exact Int.le_refl _
   ·exact zpa zJ hm (zRB _ _)
  ·exact Int.le_refl _
theorem zRp:∀(l:List GAct) (u:List Bare×List Told),mcL bW (zhC l u).1<=mcL bW u.1/\(zhC l u).2.length=u.2.length+l.length
 | [],u=>⟨Int.le_refl _,rfl⟩
 | a :: l,u=>by
  obtain ⟨h1,h2⟩:=zRp l (zdf u.1 a,ap u.2 [zcM u.1 a]);refine ⟨Int.le_trans h1 (zRA _ _),?_⟩;rw [zhC,h2];simp [ap];omega
theorem zEE {α:Type}{m:α->Int}{c:Int}:∀(l:List α),(∀x∈l,m x<=c)->mcL m l<=c*l.length
 | [],_=>by simp [mcL]
 | x :: l,h=>by
  have h1:=h x (by simp)
  have h2:=zEE l (fun y hy=>h y (by simp [hy]))
  simp only [mcL,List.length_cons];rw [show c*((l.length+1:Nat):Int)=c*(l.length:Int)+c by rw [Int.natCast_add,Int.mul_add];omega]
  omega
theorem zIm {c:Int}{n k:Nat}(hc:0<=c)(h:n<=k):c*(n:Int)<=c*(k:Int):=Int.mul_le_mul_of_nonneg_left (by omega) hc
theorem zTt {ps:List (List Ins)}(h:zIi ps):bW (zcL ps)<=100000000:=by
 have h1:mcL gW ((ps.take 2).map zcG)<=40000000*(((ps.take 2).map zcG).length:Int):=zEE _ (fun x hx=>by
  obtain ⟨p,hp,rfl⟩:=List.mem_map.1 hx;have hl:=h.2 p (List.mem_of_mem_take hp);have hm:mcL zi3 p<=15*p.length:=zxm (fun _=>by unfold zi3;decide) p
  have e1:mcL zgG zkR=8:=rfl;simp only [gW,zcG,e1];simp;omega)
 have h2:40000000*(((ps.take 2).map zcG).length:Int)<=40000000*((2:Nat):Int):=zIm (by decide) (by simp;omega)
 have e2:mcL zoM zEG=32:=rfl;simp only [bW,zcL,e2,List.length_nil];omega
theorem zSU {ps:List (List (List Ins))}(h:zIh ps)(l:List GAct):mcL zhy (zeT ps l).1<=300000000/\mcL zms (zeT ps l).2<=1200:=by
 obtain ⟨h1,h2⟩:=zRp (l.take 80) ((ps.take 3).map zcL,[]);have h3:mcL bW ((ps.take 3).map zcL)<=100000000*(((ps.take 3).map zcL).length:Int):=zEE _ (fun x hx=>by
  obtain ⟨p,hp,rfl⟩:=List.mem_map.1 hx;exact zTt (h.2 p (List.mem_of_mem_take hp)))
 have h4:100000000*(((ps.take 3).map zcL).length:Int)<=100000000*((3:Nat):Int):=zIm (by decide) (by simp;omega)
 have h5:=zz0 zTh (zeT ps l).1;have h6:mcL zms (zeT ps l).2<=15*(zeT ps l).2.length:=zxm (fun _=>by unfold zms;decide) _
 have h7:(zeT ps l).2.length<=80:=by
  unfold zeT;rw [h2];simp;omega
 unfold zeT at *;simp only at h1;refine ⟨by omega,by omega⟩
theorem zPB (l:List (List (List Ins))):W (mcL zB6 l) (zcU l) :=
 zOB (mc:=fun x=>mcL zB5 x) (s:=0) (by decide) (fun x=>zOB (mc:=fun x=>mcL zi3 x) (s:=0) (by decide) zTf (fun p=>by simp only [zB5];omega) x) (fun x=>by simp only [zB6];omega) l
def zrZ (_:GAct):Bool:=true
def zxP (x:GAct):GAct:=x
def ztC:List AV->Option (Bool×List AV)
 | [.agg [.i .i64 b,.i .i64 c,.i .i64 d,.i .i64 e,.i .i64 f,.i .i64 g]]=>some ((zrZ (⟨b,c,d,e,f,g⟩:GAct)),[.agg (Ty.cells .act (zxP (⟨b,c,d,e,f,g⟩:GAct)))])
 | _=>none
def zFo (N:Nat)(a0:GAct):Option Ans :=
 (some [(.agg [(.i .i64 a0.Kind),(.i .i64 a0.M),(.i .i64 a0.G),(.i .i64 a0.X),(.i .i64 a0.Y),(.i .i64 a0.Z)])])
theorem zN3 (N:Nat)(a0:GAct):evalFn (cQ zyU zcu zF zG) (zB []) N 12 24 [.agg (Ty.cells .act a0)]=zFo N a0:=by kernel_rfl
theorem zLw (a0:GAct)(hb:zD big [.agg (Ty.cells .act a0)])(hc:(zrZ a0)=true):∃N,zFo N a0=some [.agg (Ty.cells .act (zxP a0))]:=by
 exact ⟨0,rfl⟩
theorem zF1:Holds Tryz.prog 24 ztC:=zn zo5 zbA zq zu (zC (by kernel_rfl)) fun avs rs hb h=>by
 unfold ztC at h;split at h
 ·obtain ⟨hc,rfl⟩:=zi h;exact (fin1 zLw zN3 hc hb :)
 ·cases h
def zrW (x y:GAct):Bool:=pc (x=y)
def zum (_ _:GAct):Bool:=true
def ztz:List AV->Option (Bool×List AV)
 | [.agg [.i .i64 c,.i .i64 d,.i .i64 e,.i .i64 f,.i .i64 g,.i .i64 h],.agg [.i .i64 j,.i .i64 k,.i .i64 l,.i .i64 m,.i .i64 n,.i .i64 o]]=>some ((zrW (⟨c,d,e,f,g,h⟩:GAct) (⟨j,k,l,m,n,o⟩:GAct)),[.one (.b (zum (⟨c,d,e,f,g,h⟩:GAct) (⟨j,k,l,m,n,o⟩:GAct)))])
 | _=>none
def zwu (N:Nat)(a0:GAct)(a1:GAct):Option Ans :=
 (cond (ine a0.Kind a1.Kind) (some [(.one (.b false))]) (cond (ine a0.M a1.M) (some [(.one (.b false))]) (cond (ine a0.G a1.G) (some [(.one (.b false))]) (cond (ine a0.X a1.X) (some [(.one (.b false))]) (cond (ine a0.Y a1.Y) (some [(.one (.b false))]) (cond (ine a0.Z a1.Z) (some [(.one (.b false))]) (some [(.one (.b true))])))))))
theorem zN0 (N:Nat)(a0:GAct)(a1:GAct):evalFn (cQ zyU zcu zF zG) (zB []) N 12 31 [.agg (Ty.cells .act a0),.agg (Ty.cells .act a1)]=zwu N a0 a1:=by kernel_rfl
theorem zLt (a0:GAct)(a1:GAct)(hb:zD big [.agg (Ty.cells .act a0),.agg (Ty.cells .act a1)])(hc:(zrW a0 a1)=true):∃N,zwu N a0 a1=some [.one (.b (zum a0 a1))]:=by
 have:=zI.1 hc;subst this;exact ⟨0,by simp [zwu,zbF,zum]⟩
theorem zFY:Holds Tryz.prog 31 ztz:=zn zo5 zbA zq zu (zC (by kernel_rfl)) fun avs rs hb h=>by
 unfold ztz at h;split at h
 ·obtain ⟨hc,rfl⟩:=zi h;exact (fin2 zLt zN0 hc hb :)
 ·cases h
def zoJ (_:List GAct)(n:Int):Bool:=pc (0<=n/\n<=1048576)
def zll (l:List GAct)(n:Int):Int:=szL l n
def zkx:List AV->Option (Bool×List AV)
 | [.one (.s .act b),.one (.i .i64 c)]=>some ((zoJ b c),[.one (.i .i64 (zll b c))])
 | _=>none
def zu7 (N:Nat)(a0:List GAct)(a1:Int):Option Ans :=
 (cond (ilt (wsub .i64 a1 (ln a0)) 0) (some [(.one (.i .i64 (-1)))]) (some [(.one (.i .i64 (wsub .i64 a1 (ln a0))))]))
theorem zMb (N:Nat)(a0:List GAct)(a1:Int):evalFn (cQ zyU zcu zF zG) (zB []) N 12 5 [.one (.s .act a0),.one (.i .i64 a1)]=zu7 N a0 a1:=by kernel_rfl
theorem zJh (a0:List GAct)(a1:Int)(hb:zD big [.one (.s .act a0),.one (.i .i64 a1)])(hc:(zoJ a0 a1)=true):∃N,zu7 N a0 a1=some [.one (.i .i64 (zll a0 a1))]:=by
 obtain ⟨h0,h1⟩:=zI.1 hc;have hl:=(zbw hb).1 _ (List.mem_singleton.2 rfl);refine ⟨0,?_⟩;simp only [zu7,zCG hl.len h0 h1,zll,szL,ilt]
 by_cases h:a1-a0.length<0<;>simp [h]
theorem zuh:Holds Tryz.prog 5 zkx:=zn zo5 zbA zq zu (zC (by kernel_rfl)) fun avs rs hb h=>by
 unfold zkx at h;split at h
 ·obtain ⟨hc,rfl⟩:=zi h;exact (fin2 zJh zMb hc hb :)
 ·cases h
def zPH:zbu:=[(24,ztC),(31,ztz),(5,zkx)]++zyU
theorem zMR:zbE zPH:=zl zF1 (zl zFY (zl zuh zo5))
def zfT (l:List GAct):Bool:=pc (l.length<=sm)
def zbj (l:List GAct):List GAct:=l
def zqZ:List AV->Option (Bool×List AV)
 | [.one (.s .act b)]=>some ((zfT b),[.one (.s .act (zbj b))])
 | _=>none
def zu9 (N:Nat)(a0:List GAct):Option Ans :=
 (cond (cond (few (ln a0)) (ieq (ln a0) (ln a0)) false) (iter (σ:=(Int×((List GAct)×((List GAct)×Unit)))) N (fun r2 s3=>(cond (ilt s3.1 (ln s3.2.1)) (cond (inb s3.1 (ln s3.2.1)) (cond (zrZ (ix s3.2.1 s3.1 zcs)) (cond (inb s3.1 (ln s3.2.2.1)) (share (up s3.2.2.1 s3.1 (zxP (ix s3.2.1 s3.1 zcs))) (fun x4=>(r2 ((zy .i64 s3.1 1),(s3.2.1,(x4,())))))) none) none) none) (some [(.one (.s .act s3.2.2.1))]))) (0,(a0,((rp (ln a0) zcs),())))) none)
def zKV:FuncId->Nat->Option Tmpl:=zB [(8,0,{ n:=23,tm:=[(0,.sl 0 []),(3,.sl 1 []),(4,.i .i64)],lo:=[],ro:=[(0,.act,false),(1,.act,true)] })]
theorem zMd (N:Nat)(a0:List GAct):evalFn (cQ zPH zcu zF zG) zKV N 12 8 [.one (.s .act a0)]=zu9 N a0:=by kernel_rfl
theorem zJj (a0:List GAct)(hb:zD big [.one (.s .act a0)])(hc:(zfT a0)=true):∃N,zu9 N a0=some [.one (.s .act (zbj a0))]:=by
 have hl:a0.length<=sm:=zI.1 hc;refine ⟨a0.length+1,?_⟩;unfold zu9;rw [zfi (by unfold sm at hl;omega),zqh]
 exact zx0 a0 zcs zrZ zxP (fun l=>some [AV.one (.s .act l)]) (by unfold sm at hl;rw [zo4];omega) (fun x _=>⟨rfl,rfl⟩) (Nat.lt_succ_self _)
theorem zDy:Holds Tryz.prog 8 zqZ:=zn zMR zbA zq zu (zC (by kernel_rfl)) fun avs rs hb h=>by
 unfold zqZ at h;split at h
 ·obtain ⟨hc,rfl⟩:=zi h;exact (fin1 zJj zMd hc hb :)
 ·cases h
def zoE (x y:List GAct):Bool:=pc (x=y)
def zqi (_ _:List GAct):Bool:=true
def zqR:List AV->Option (Bool×List AV)
 | [.one (.s .act c),.one (.s .act d)]=>some ((zoE c d),[.one (.b (zqi c d))])
 | _=>none
def zuZ (N:Nat)(a0 a1:List GAct):Option Ans :=
 (cond (ine (ln a0) (ln a1)) (some [(.one (.b false))]) (iter (σ:=(Int×((List GAct)×((List GAct)×Unit)))) N (fun r3 s4=>(cond (ilt s4.1 (ln s4.2.1)) (cond (inb s4.1 (ln s4.2.1)) (cond (inb s4.1 (ln s4.2.2.1)) (cond (zrW (ix s4.2.1 s4.1 zcs) (ix s4.2.2.1 s4.1 zcs)) (cond (cond (zum (ix s4.2.1 s4.1 zcs) (ix s4.2.2.1 s4.1 zcs)) false true) (some [(.one (.b false))]) (r3 ((zy .i64 s4.1 1),(s4.2.1,(s4.2.2.1,()))))) none) none) none) (some [(.one (.b true))]))) (0,(a0,(a1,())))))
def zKS:FuncId->Nat->Option Tmpl:=zB [(13,0,{ n:=27,tm:=[(0,.sl 0 []),(1,.sl 1 []),(5,.i .i64)],lo:=[],ro:=[(0,.act,false),(1,.act,false)] })]
theorem zL4 (N:Nat)(a0 a1:List GAct):evalFn (cQ zPH zcu zF zG) zKS N 12 13 [.one (.s .act a0),.one (.s .act a1)]=zuZ N a0 a1:=by kernel_rfl
theorem zJa (a0 a1:List GAct)(hb:zD big [.one (.s .act a0),.one (.s .act a1)])(hc:(zoE a0 a1)=true):∃N,zuZ N a0 a1=some [.one (.b (zqi a0 a1))]:=by
 have:=zI.1 hc;subst this;have hl:=((zbw hb).1 _ (List.mem_singleton.2 rfl)).len;refine ⟨a0.length+1,?_⟩;unfold zuZ;rw [zbF];refine zgo a0 zcs _ _ hl (fun i hi rec=>?_) (fun rec=>?_) (Nat.lt_succ_self _)
 ·simp only [zbr hi,zbn hi,cT]
  simp [zbx hi,zrW,zum,zbb]
 ·simp [zbe,zqi]
theorem zDq:Holds Tryz.prog 13 zqR:=zn zMR zbA zq zu (zC (by kernel_rfl)) fun avs rs hb h=>by
 unfold zqR at h;split at h
 ·obtain ⟨hc,rfl⟩:=zi h;exact (fin2 zJa zL4 hc hb :)
 ·cases h
theorem zxk {α β:Type}{f:α->β}{l:List α}{x:β}{xs:List β}(h:l.map f=x :: xs):∃a r,l=a :: r/\f a=x/\r.map f=xs:=by
 cases l with
 | nil=>cases h
 | cons a r =>
  simp only [List.map_cons,List.cons.injEq] at h;exact ⟨a,r,rfl,h.1,h.2⟩
theorem zS1 {a:AV}{ct:CTy}(h:some a.sh=some (false,[ct])):∃c,a = .one c/\c.ty=ct:=by
 cases a with
 | one c =>
  simp only [AV.sh,Option.some.injEq,Prod.mk.injEq,List.cons.injEq,and_true,true_and] at h;exact ⟨c,rfl,h⟩
 | agg l=>simp [AV.sh] at h
theorem zS2 {a:AV}{t:Ty}(h:some a.sh=some (false,[.s t])):∃l:List t.den,a = .one (.s t l):=by
 obtain ⟨c,rfl,hc⟩:=zS1 h;obtain ⟨l,rfl⟩:=zhk hc;exact ⟨l,rfl⟩
section
open Go Go.ChangeShapes Go.WideShapes Go.ChangeAt
def zMU:zbu:=[(6,zlL),(9,zlp),(5,zkx),(8,zqZ),(13,zqR)]++zRj
theorem zNq:zbE zMU:=zl zzu (zl zy5 (zl zuh (zl zDy (zl zDq zQa))))
theorem zS6 {α:Type}{l:List α}{n:Int}(h1:n<=1048576)(h:0<=szL l n):l.length<=1048576:=by
 unfold szL at h;split at h<;>omega
def zgy (N:Nat)(a0:List (List (List Ins)))(a1:List GAct):Option Ans :=
 (cond (zqo a0 1048576) (cond (ilt (zcU a0 1048576) 0) (some [(.one (.b true))]) (cond (zoJ a1 (zcU a0 1048576)) (cond (ilt (zll a1 (zcU a0 1048576)) 0) (some [(.one (.b true))]) (cond (zeu a0) (cond (zfT a1) (cond (zkF (zU a0) (zbj a1)) (cond (zeu a0) (cond (zfT a1) (cond (zgR (zU a0) (zbj a1)) (cond (zgq (zcc (zU a0) (zbj a1)) (zdj (zU a0) (zbj a1))) (cond (cond (zg3 (zcc (zU a0) (zbj a1)) (zdj (zU a0) (zbj a1))) false true) (some [(.one (.b false))]) (cond (zgr (zcx (zU a0) (zbj a1)) (zdk (zU a0) (zbj a1))) (cond (cond (zg4 (zcx (zU a0) (zbj a1)) (zdk (zU a0) (zbj a1))) false true) (some [(.one (.b false))]) (cond (zeu a0) (cond (zkb (zU a0) (zU a0)) (cond (cond (zka (zU a0) (zU a0)) false true) (some [(.one (.b false))]) (cond (zfT a1) (cond (zoE (zbj a1) (zbj a1)) (cond (cond (zqi (zbj a1) (zbj a1)) false true) (some [(.one (.b false))]) (cond (zhw (zU a0) 1) (share (zlk (zU a0) 1) (fun x3=>(cond (zke (zbj a1) (zdA (zU a0) 1)) (share (zqn (zbj a1) (zdA (zU a0) 1)) (fun x4=>(cond (ilt (zkd (zbj a1) (zdA (zU a0) 1)) 0) (some [(.one (.b false))]) (cond (zgq (zcc (zU a0) (zbj a1)) (zdj (zU a0) (zbj a1))) (cond (cond (zg3 (zcc (zU a0) (zbj a1)) (zdj (zU a0) (zbj a1))) false true) (some [(.one (.b false))]) (cond (zgr (zcx (zU a0) (zbj a1)) (zdk (zU a0) (zbj a1))) (cond (cond (zg4 (zcx (zU a0) (zbj a1)) (zdk (zU a0) (zbj a1))) false true) (some [(.one (.b false))]) (cond (ziG (zcc (zU a0) (zbj a1)) 1) (share (zgc (zcc (zU a0) (zbj a1)) 1) (fun x5=>(cond (ziM (zcx (zU a0) (zbj a1)) (zb3 (zcc (zU a0) (zbj a1)) 1)) (share (zge (zcx (zU a0) (zbj a1)) (zb3 (zcc (zU a0) (zbj a1)) 1)) (fun x6=>(cond (zga x5 1) (cond (ilt (zc1 x5 1) 0) (some [(.one (.b false))]) (cond (zgb x6 (zc1 x5 1)) (cond (ilt (ze7 x6 (zc1 x5 1)) 0) (some [(.one (.b false))]) (cond (ine (ze7 x6 (zc1 x5 1)) (zeM (zcx (zU a0) (zbj a1)) (zb3 (zcc (zU a0) (zbj a1)) 1))) (some [(.one (.b false))]) (cond (zeu a0) (cond (zfT a1) (cond (zgR (zU a0) (zbj a1)) (cond (zgq (zcc (zU a0) (zbj a1)) (zdj (zU a0) (zbj a1))) (cond (cond (zg3 (zcc (zU a0) (zbj a1)) (zdj (zU a0) (zbj a1))) false true) (some [(.one (.b false))]) (cond (zgr (zcx (zU a0) (zbj a1)) (zdk (zU a0) (zbj a1))) (cond (cond (zg4 (zcx (zU a0) (zbj a1)) (zdk (zU a0) (zbj a1))) false true) (some [(.one (.b false))]) (cond (zga x5 1) (cond (ilt (zc1 x5 1) 0) (some [(.one (.b false))]) (cond (zgb x6 (zc1 x5 1)) (cond (ilt (ze7 x6 (zc1 x5 1)) 0) (some [(.one (.b false))]) (cond (ine (ze7 x6 (zc1 x5 1)) (zeM (zcx (zU a0) (zbj a1)) (zb3 (zcc (zU a0) (zbj a1)) 1))) (some [(.one (.b false))]) (some [(.one (.b true))]))) none)) none)) none)) none) none) none) none))) none)) none))) none))) none)) none)) none)))) none))) none)) none) none)) none) none)) none)) none) none) none) none) none) none) none)) none)) none)
theorem zvT (N:Nat)(a0:List (List (List Ins)))(a1:List GAct):evalFn (cQ zMU zL zF zG) (zB []) N 12 3 [.one (.s (.sl (.sl .ins)) a0),.one (.s .act a1)]=zgy N a0 a1:=by kernel_rfl
theorem zt6 (a0:List (List (List Ins)))(a1:List GAct)(ho:∀c∈zM [.one (.s (.sl (.sl .ins)) a0),.one (.s .act a1)],CVOk c):∃N,zgy N a0 a1=some [.one (.b true)]:=by
 have hb:zD big [.one (.s (.sl (.sl .ins)) a0),.one (.s .act a1)]:=fun c hc=>CVB.of_ok (ho c hc);refine ⟨0,?_⟩;unfold zgy;refine must (zbb ⟨by decide,by decide⟩) ?_
 cases hz:ilt (zcU a0 1048576) 0
 ·obtain ⟨h1,hb1⟩:=zIO a0 1048576 (by decide) (by decide)
  have h0:0<=zcU a0 1048576:=by
   have:=of_decide_eq_false hz;omega
  have hv:=hb1 h0;have hps:zIh a0:=by
   have hw:=hv;rw [zhl] at hw;refine ⟨hw.1,fun p hp=>?_⟩;have h2:=hw.2 p hp (.s (.sl .ins) p) (by simp [Ty.cells])
   rw [zhl] at h2;exact ⟨h2.1,fun q hq=>(zNx q).1 (h2.2 q hq (.s .ins q) (by simp [Ty.cells]))⟩
  have z1:zoJ a1 (zcU a0 1048576)=true:=zbb ⟨h0,h1⟩;cases hy:ilt (zll a1 (zcU a0 1048576)) 0
  ·have hal:a1.length<=1048576:=zS6 h1 (by have:=of_decide_eq_false hy;unfold zll at this;omega)
   have hW:=(zPB a0 1048576 (by decide) (by decide)).2 h0
   have M1:=zIa zMO a0 1 (by decide) (by omega)
   have hA:mcL zzY a1<=15*a1.length:=zxm (fun _=>by unfold zzY;decide) a1
   have M2:=zIa zQQ a1 (enL zCb a0 1) M1.nn (by rw [M1.v];omega)
   obtain ⟨w1,w2⟩:=zSU hps a1;have t0:zeu a0=true:=zbb hv;have t1:zfT a1=true:=zbb hal;have s1:zkF a0 a1=true:=zbb ⟨hps,hal⟩;have i1:zgR a0 a1=true:=zbb ⟨hps,hal⟩;have R1:=zIa zIf (zeT a0 a1).1 1 (by decide) (by omega)
   have R2:=zIa zIg (zeT a0 a1).2 (enL zr2 (zeT a0 a1).1 1) R1.nn (by rw [R1.v];omega)
   have q1:∀l,zgq l l=true:=fun l=>zbb rfl;have q2:∀l,zgr l l=true:=fun l=>zbb rfl;have q3:∀l,zkb l l=true:=fun l=>zbb rfl;have q4:∀l,zoE l l=true:=fun l=>zbb rfl;have m1:zhw a0 1=true:=zbb M1.c;have m2:zke a1 (zdA a0 1)=true:=zbb M2.c;have m3:ilt (zkd a1 (zdA a0 1)) 0=false:=zg1 M2.nn;simp only [zdj,zdk,zcc,zcx,zU,zbj];generalize (zeT a0 a1).1=G at *;generalize (zeT a0 a1).2=T at *;have r1:ziG G 1=true:=zbb R1.c;have r2:ziM T (zb3 G 1)=true:=zbb R2.c;have r3:zga (zgc G 1) 1=true:=zbb R1.hc;have r4:zc1 (zgc G 1) 1=zb3 G 1:=R1.e;have r5:ilt (zb3 G 1) 0=false:=zg1 R1.nn;have r6:zgb (zge T (zb3 G 1)) (zb3 G 1)=true:=zbb R2.hc;have r7:ze7 (zge T (zb3 G 1)) (zb3 G 1)=zeM T (zb3 G 1):=R2.e;have r8:ilt (zeM T (zb3 G 1)) 0=false:=zg1 R2.nn;simp only [share,z1,hy,t0,t1,s1,i1,q1,q2,q3,q4,zg3,zg4,zka,zqi,m1,m2,m3,r1,r2,r3,r4,r5,r6,r7,r8,zbF,Bool.not_true,cT,cF]
  ·simp only [z1,hy,cT,cF]
 ·rfl
theorem zrE:Tryz.f3.params.toList.map (zbR Tryz.prog 4)=[some (false,[.s (.sl (.sl .ins))]),some (false,[.s .act])]:=by kernel_rfl
theorem zoo:zMM 3 Tryz.f3.params.toList:=by
 refine zLa zNq zA zq zu (zC (by kernel_rfl)) ?_
 intro avs hg;obtain ⟨h1,h2⟩:=hg;rw [zrE] at h1;obtain ⟨v0,r0,rfl,e0,h1⟩:=zxk h1;obtain ⟨v1,r1,rfl,e1,h1⟩:=zxk h1;cases List.map_eq_nil_iff.1 h1;obtain ⟨a0,rfl⟩:=zS2 e0;obtain ⟨a1,rfl⟩:=zS2 e1;obtain ⟨N,hN⟩:=zt6 a0 a1 h2;exact ⟨zB [],N,12,(zvT N a0 a1).trans hN⟩
theorem ztZ (H:Type)(ds:List (DataW H))(h:ds.length=Tryz.f3.params.toList.length):Rows.fnExactBareLifeSpec.fn H ds={ results:=[.lit (.bool true)],args:=ds }:=by
 have hl:ds.length=2:=h.trans (by kernel_rfl)
 match ds,hl with
 | [d1,d2],_=>rfl
set_option maxRecDepth 100000 in
theorem zqp (os:Os)(started:os.Started)(H:Type)(enc:TypeId×Value->H) :
 ReturnsInHanded {} Tryz.checked os 3 .any (Rows.fnExactBareLifeSpec.pre6 enc Tryz.prog Tryz.f3 Rows.fnExactBareLifeRow.domain false) (Rows.fnExactBareLifeSpec.post enc Tryz.prog Tryz.f3 false true false false):=by
 refine returnsInHanded_of_change_shaped (C:=Tryz.checked) own started (by kernel_rfl) Tryz.func3
  (ChangeSpec.witness6 (enc:=enc) (C:=Tryz.checked) false ⟨#[],#[.slice none 0 0,.slice none 0 0],[]⟩ 8 (by kernel_rfl) (by kernel_rfl) (by kernel_rfl) (by kernel_rfl)) ?_
 intro W base args ds gs before hval hW _ hsz _ _;exact zBG (P:=Tryz.prog) zPF zQj rfl ztZ (by kernel_rfl) (B:=4) (by kernel_rfl) (by kernel_rfl) zoo W base args ds gs before hval hW hsz
theorem said_fnExactBareLife:Rows.FnExactBareLifeSaid :=
 OpenClaim.holds_of_wide 3 Tryz.f3 rfl rfl rfl rfl rfl rfl rfl ⟨rfl,rfl,rfl,rfl,rfl⟩ rfl rfl rfl rfl rfl (by kernel_rfl) Tryz.func3 (by kernel_rfl)
  (of_decide_eq_true (by kernel_rfl)) (by unfold Func.isWrapper;first|(rw [if_pos (by decide +kernel)];kernel_rfl)|(rw [if_neg (by decide +kernel)];exact ⟨rfl,rfl⟩))
  (fun os started H enc _=>zqp os started H enc)
end
end
end Go.Proofs.YtldknngdnednbaaGreat.E
